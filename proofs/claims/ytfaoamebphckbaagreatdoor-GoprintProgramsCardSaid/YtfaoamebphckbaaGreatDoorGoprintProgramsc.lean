/- goprintPrograms Part 3 of 5 of the proof. -/
import Derived.Test.YtfaoamebphckbaaGreatDoorGoprintProgramsb
import Derived.Lib.ItoaMem
import Derived.Lib.ItoaLen
import Derived.Lib.AppendIntMem
import Derived.Shelf.Strings.Repeat
import Derived.Shelf.Strconv.Itoa3
namespace Go.Proofs.YtfaoamebphckbaaGreatDoor
open Go.RowKit Go.Av Go.Ab
def PF (bx : Ps → Nat → List V) (ok : Ps → Nat → Prop) (f : FuncId) (ar : List V) (s : Ps) (v : V) (s' : Ps) : Prop :=
 ∀ (c : Nat) (B : List (List V)) (T : List (Nat × Nat)) (i : Nat), c < B.length → ok s i → AFn Tryz.prog TabI f (.ptr c 0 :: ar) ⟨B.set c (bx s i), T⟩ fun v' m => v' = v ∧ ∃ i', ok s' i' ∧ m = ⟨B.set c (bx s' i'), T⟩
section
variable {bx : Ps → Nat → List V} {ok : Ps → Nat → Prop} {f : FuncId} {ar : List V} {s s' : Ps} {v : V} {c i : Nat} {B J : List (List V)} {T K : List (Nat × Nat)}
theorem PF.fn (h : PF bx ok f ar s v s') (hc : c < B.length) (hi : ok s i) : AFn Tryz.prog TabI f (.ptr c 0 :: ar) ⟨B.set c (bx s i) ++ J, T⟩ fun v' m => v' = v ∧ ∃ i', ok s' i' ∧ m = ⟨B.set c (bx s' i') ++ J, T⟩ := by
 have := h c (B ++ J) T i (by simp; omega) hi
 rw [List.set_append_left _ _ hc] at this
 refine this.mono ?_
 rintro v' m ⟨rfl, i', h1, rfl⟩
 exact ⟨rfl, i', h1, by rw [List.set_append_left _ _ hc]⟩
theorem PF.call {stop : Cont} {k : List Item} {d : Option Tmp} {env : List V} (h : PF bx ok f ar s v s') (hc : c < B.length) (hi : ok s i) (hk : ∀ i', ok s' i' → stop k (setV env d v) ⟨B.set c (bx s' i') ++ J, T⟩) : callS Tryz.prog TabI stop (.func f [] []) (.ptr c 0 :: ar) k d env ⟨B.set c (bx s i) ++ J, T⟩ :=
 callS_fn (h.fn hc hi) fun _ _ ⟨e1, i', h1, e2⟩ => by rw [e1, e2]; exact hk i' h1
theorem PF.call0 {stop : Cont} {k : List Item} {d : Option Tmp} {env : List V} (h : PF bx ok f ar s v s') (hc : c < B.length) (hi : ok s i) (hk : ∀ i', ok s' i' → stop k (setV env d v) ⟨B.set c (bx s' i'), T⟩) : callS Tryz.prog TabI stop (.func f [] []) (.ptr c 0 :: ar) k d env ⟨B.set c (bx s i), T⟩ :=
 callS_fn (h c B T i hc hi) fun _ _ ⟨e1, i', h1, e2⟩ => by rw [e1, e2]; exact hk i' h1
end
section
variable {B J : List (List V)} {T K : List (Nat × Nat)} {c : Nat} {x y : List V} {R : V → Mem → Prop} {v : V}
theorem PF.ret (hy : ∀ n m, y.all (fit n m) = true) (h : R (wk (B.set c x).length T.length v) ⟨B.set c y, T⟩) : Ab.Left ⟨B.set c x, T⟩ R v ⟨B.set c y ++ J, T ++ K⟩ := by
 refine Ab.Left.of (by simp) rfl ?_ h
 have := (FitL.refl (B.set c x).length T.length (B.set c x)).set c (hy _ _)
 rwa [List.set_set] at this
theorem PF.retJ (hy : ∀ n m, y.all (fit n m) = true) (h : R (wk (B.set c x).length T.length v) ⟨B.set c y, T⟩) : Ab.Left ⟨B.set c x, T⟩ R v ⟨B.set c y ++ J, T⟩ := by
 have := PF.ret (J := J) (K := []) hy h
 rwa [List.append_nil] at this
theorem PF.ret0 (hy : ∀ n m, y.all (fit n m) = true) (h : R (wk (B.set c x).length T.length v) ⟨B.set c y, T⟩) : Ab.Left ⟨B.set c x, T⟩ R v ⟨B.set c y, T⟩ := by
 have := PF.retJ (J := []) hy h
 rwa [List.append_nil] at this
end
set_option linter.unusedSimpArgs false
set_option maxRecDepth 100000
set_option linter.defProp false
def byD (bs : List UInt8) : List (List D) := bs.map byteRow
def bxP (bs : List UInt8) (s : Ps) : List V := [.d (.sl (byD bs)), .d (.int .i64 s.w.kind), .d (.str s.w.text), .d (.int .u64 s.w.int), .d (.int .i64 s.w.at'), .d (.int .i64 s.w.next), .d (.int .i64 s.e), .d (.int .i64 s.o), .d (.bool s.h)]
abbrev PP (bs : List UInt8) (f : FuncId) (ar : List V) (s : Ps) (v : V) (s' : Ps) : Prop := PF (fun s _ => bxP bs s) (fun s _ => OkP bs s) f ar s v s'
theorem PP.of {bs : List UInt8} {f : FuncId} {ar : List V} {s s' : Ps} {v : V} (h : ∀ (c : Nat) (B : List (List V)) (T : List (Nat × Nat)), c < B.length → OkP bs s → OkP bs s' ∧ AFn Tryz.prog TabI f (.ptr c 0 :: ar) ⟨B.set c (bxP bs s), T⟩ (Same v ⟨B.set c (bxP bs s'), T⟩)) : PP bs f ar s v s' :=
 fun c B T i hc hi => (h c B T hc hi).2.mono fun _ _ ⟨e1, e2⟩ => ⟨e1, i, (h c B T hc hi).1, e2⟩
section
variable {bs : List UInt8} {f : FuncId} {ar : List V} {s s' : Ps} {v : V} {c : Nat} {B J : List (List V)} {T : List (Nat × Nat)} {stop : Cont} {k : List Item} {d : Option Tmp} {env : List V}
theorem PP.call0 (h : PP bs f ar s v s') (hc : c < B.length) (hok : OkP bs s) (hk : OkP bs s' → stop k (setV env d v) ⟨B.set c (bxP bs s'), T⟩) : callS Tryz.prog TabI stop (.func f [] []) (.ptr c 0 :: ar) k d env ⟨B.set c (bxP bs s), T⟩ :=
 PF.call0 (i := 0) h hc hok fun _ => hk
theorem PP.call (h : PP bs f ar s v s') (hc : c < B.length) (hok : OkP bs s) (hk : OkP bs s' → stop k (setV env d v) ⟨B.set c (bxP bs s') ++ J, T⟩) : callS Tryz.prog TabI stop (.func f [] []) (.ptr c 0 :: ar) k d env ⟨B.set c (bxP bs s) ++ J, T⟩ :=
 PF.call (i := 0) h hc hok fun _ => hk
end
def idxF {α : Type} (p : α → Bool) : List α → Int → Int
 | [], _ => -1
 | x :: l, i => if p x then i else idxF p l (i + 1)
theorem idxF_any {α : Type} (p : α → Bool) : ∀ (l : List α) (i : Int), 0 ≤ i → decide (0 ≤ idxF p l i) = l.any p
 | [], i, _ => by simp [idxF]
 | x :: l, i, hi => by
  unfold idxF
  cases hp : p x
  ·simp [hp, idxF_any p l (i + 1) (by omega)]
  ·simp [hp, hi]
theorem drop_get {α : Type} {l : List α} {i : Nat} (h : i < l.length) : l.drop i = l[i] :: l.drop (i + 1) := List.drop_eq_getElem_cons h
set_option maxHeartbeats 1000000 in
theorem index_str_ab (l : List (List UInt8)) (s : List UInt8) (hl : l.length ≤ 9223372036854775807) (S : Mem) : AFn Tryz.prog TabI 160 [.d (.sl (ssD l)), .d (.str s)] S (Same (.d (.int .i64 (idxF (· == s) l 0))) S) := by
 refine AFn.body Tryz.func160 rfl (by kernel_rfl) ?_
 refine ARun.go 100 ?_
 simp only [Tryz.f160, WO, seval]
 refine ARun.loopW (fun i : Nat => (envOf 19 [(0, .d (.sl (ssD l))), (1, .d (.str s)), (6, .d (.sl (ssD l))), (7, .d (.int .i64 l.length)), (8, .d (.int .i64 i))], S)) (fun i => i ≤ l.length ∧ idxF (· == s) l 0 = idxF (· == s) (l.drop i) i) (fun i => l.length - i) 0 ⟨by omega, rfl⟩ ?_ rfl ?_
 ·simp only [envOf, List.replicate_succ, List.replicate_zero, List.foldl_cons, List.foldl_nil, List.set_cons_zero, List.set_cons_succ, EnvW, eq_self, or_true, true_or, and_self, Int.natCast_add, Int.natCast_one, Int.natCast_zero]
 rintro i ⟨h1, h2⟩ ih
 by_cases hlt : i < l.length
 ·have hw := wrap_in ((i : Int) + 1) (by omega)
  have hg := List.getElem?_eq_getElem hlt
  rw [drop_get hlt] at h2
  have hlt' : decide ((i : Int) < (l.length : Int)) = true := decide_eq_true (by omega)
  refine ARun.go 100 ?_
  simp only [WO, seval, hg, hlt', hw]
  refine condS_of (fun h => ?_) (fun h => ?_)
  ·have hb : (l[i] == s) = true := by rw [beq_iff_eq]; exact (of_decide_eq_true h).symm
   simp only [WO, seval, h]
   refine ARun.ret Tryz.func160 rfl (Left.none ?_)
   have e : idxF (· == s) (l[i] :: l.drop (i + 1)) (i : Int) = i := by simp [idxF, hb]
   rw [h2, e]
   exact ⟨rfl, rfl⟩
  ·have hb : (l[i] == s) = false := by rw [beq_eq_false_iff_ne]; exact fun e => of_decide_eq_false h e.symm
   simp only [WO, seval, h, hw]
   have e : idxF (· == s) (l[i] :: l.drop (i + 1)) (i : Int) = idxF (· == s) (l.drop (i + 1)) ((i + 1 : Nat) : Int) := by simp [idxF, hb]
   refine ih (i + 1) ⟨by omega, by rw [h2, e]⟩ (by omega) _ _ ?_ rfl
   simp only [envOf, List.replicate_succ, List.replicate_zero, List.foldl_cons, List.foldl_nil, List.set_cons_zero, List.set_cons_succ, EnvW, eq_self, or_true, true_or, and_self, Int.natCast_add, Int.natCast_one, Int.natCast_zero]
 ·have hlt' : decide ((i : Int) < (l.length : Int)) = false := decide_eq_false (by omega)
  refine ARun.go 100 ?_
  simp only [WO, seval, hlt']
  refine ARun.ret Tryz.func160 rfl (Left.none ?_)
  rw [h2, List.drop_eq_nil_of_le (by omega)]
  exact ⟨rfl, rfl⟩
theorem contains_eq (l : List (List UInt8)) (s : List UInt8) : decide (0 ≤ idxF (· == s) l 0) = l.contains s := by
 rw [idxF_any _ _ _ (Int.le_refl 0), Bool.eq_iff_iff, List.any_eq_true, List.contains_iff_exists_mem_beq]
 constructor <;> rintro ⟨x, hx, h⟩ <;> exact ⟨x, hx, by rw [beq_iff_eq] at h ⊢; exact h.symm⟩
theorem contains_str_ab (l : List (List UInt8)) (s : List UInt8) (hl : l.length ≤ 9223372036854775807) (S : Mem) : AFn Tryz.prog TabI 139 [.d (.sl (ssD l)), .d (.str s)] S (Same (.d (.bool (l.contains s))) S) := by
 refine AFn.body Tryz.func139 rfl (by kernel_rfl) ?_
 refine ARun.go 100 ?_
 simp only [Tryz.f139, WO, seval]
 refine callS_fn (index_str_ab l s hl _) ?_
 rintro _ _ ⟨rfl, rfl⟩
 refine ARun.go 100 ?_
 simp only [WO, seval, contains_eq]
 refine ARun.ret Tryz.func139 rfl (Left.none ?_)
 exact ⟨rfl, rfl⟩
def walkF {α σ : Type} (f : α → σ → Bool × σ) : List α → Int → σ → Int × σ
 | [], _, s => (-1, s)
 | x :: l, i, s => if (f x s).1 = true then (i, (f x s).2) else walkF f l (i + 1) (f x s).2
def anyF {α σ : Type} (f : α → σ → Bool × σ) : List α → σ → Bool × σ
 | [], s => (false, s)
 | x :: l, s => if (f x s).1 = true then (true, (f x s).2) else anyF f l (f x s).2
theorem walkF_any {α σ : Type} (f : α → σ → Bool × σ) : ∀ (l : List α) (i : Int) (s : σ), 0 ≤ i → decide (0 ≤ (walkF f l i s).1) = (anyF f l s).1 ∧ (walkF f l i s).2 = (anyF f l s).2
 | [], i, s, _ => ⟨by simp [walkF, anyF], rfl⟩
 | x :: l, i, s, hi => by
  unfold walkF anyF
  cases h : (f x s).1
  ·simpa using walkF_any f l (i + 1) (f x s).2 (by omega)
  ·simpa using hi
def Good (P : Program) (I : Inv) {α σ : Type} (g : FuncId) (first caps : List V) (argV : α → V) (mem : σ → Mem) (f : α → σ → Bool × σ) : List α → σ → Prop
 | [], _ => True
 | x :: l, s => AFn P I g (first ++ [argV x] ++ caps) (mem s) (Same (.d (.bool (f x s).1)) (mem (f x s).2)) ∧ ((f x s).1 = false → Good P I g first caps argV mem f l (f x s).2)
set_option maxHeartbeats 1000000 in
theorem indexFunc_Type {σ : Type} (g : FuncId) (first caps : List V) (mem : σ → Mem) (f : TyT → σ → Bool × σ) (hm : ∀ s s', (mem s).boxes.length = (mem s').boxes.length ∧ (mem s).toks.length = (mem s').toks.length) (l : List TyT) (hl : l.length ≤ 9223372036854775807) (s0 : σ) (hg : Good Tryz.prog TabI g first caps tyV mem f l s0) :
 AFn Tryz.prog TabI 110 [.d (.sl (l.map tyD)), .func g first caps] (mem s0) (Same (.d (.int .i64 (walkF f l 0 s0).1)) (mem (walkF f l 0 s0).2)) := by
 refine AFn.body Tryz.func110 rfl (by kernel_rfl) ?_
 refine ARun.go 100 ?_
 simp only [Tryz.f110, WO, seval]
 refine ARun.loopW (fun p : Nat × σ => (envOf 19 [(0, .d (.sl (l.map tyD))), (1, .func g first caps), (6, .d (.sl (l.map tyD))), (7, .d (.int .i64 l.length)), (8, .d (.int .i64 p.1))], mem p.2)) (fun p => p.1 ≤ l.length ∧ walkF f l 0 s0 = walkF f (l.drop p.1) p.1 p.2 ∧ Good Tryz.prog TabI g first caps tyV mem f (l.drop p.1) p.2) (fun p => l.length - p.1) (0, s0) ⟨by omega, rfl, hg⟩ ?_ rfl ?_
 ·simp only [envOf, List.replicate_succ, List.replicate_zero, List.foldl_cons, List.foldl_nil, List.set_cons_zero, List.set_cons_succ, EnvW, eq_self, or_true, true_or, and_self, Int.natCast_add, Int.natCast_one, Int.natCast_zero]
 rintro ⟨i, s⟩ ⟨h1, h2, h3⟩ ih
 dsimp only at h1 h2 h3 ih ⊢
 by_cases hlt : i < l.length
 ·have hw := wrap_in ((i : Int) + 1) (by omega)
  have hge := List.getElem?_eq_getElem hlt
  rw [drop_get hlt] at h2 h3
  obtain ⟨h4, h5⟩ := h3
  have hlt' : decide ((i : Int) < (l.length : Int)) = true := decide_eq_true (by omega)
  refine ARun.go 100 ?_
  simp only [WO, seval, List.getElem?_map, hge, hlt', hw, tyD_eq]
  refine callS_of h4 ?_
  rintro _ _ ⟨rfl, rfl⟩
  refine ARun.go 100 ?_
  simp only [WO, seval, hw]
  refine condS_of (fun h => ?_) (fun h => ?_)
  ·simp only [WO, seval, h]
   refine ARun.fits fun hf => ?_
   refine ARun.ret Tryz.func110 rfl (Left.fits hf (hm _ _).1 (hm _ _).2 ?_)
   have e : walkF f (l[i] :: l.drop (i + 1)) (i : Int) s = ((i : Int), (f l[i] s).2) := by simp [walkF, h]
   rw [h2, e]
   exact ⟨rfl, rfl⟩
  ·simp only [WO, seval, h, hw]
   have e : walkF f (l[i] :: l.drop (i + 1)) (i : Int) s = walkF f (l.drop (i + 1)) ((i + 1 : Nat) : Int) (f l[i] s).2 := by simp [walkF, h]
   refine ih (i + 1, (f l[i] s).2) ⟨hlt, h2.trans e, h5 h⟩ (by simp only; omega) _ _ ?_ rfl
   simp only [envOf, List.replicate_succ, List.replicate_zero, List.foldl_cons, List.foldl_nil, List.set_cons_zero, List.set_cons_succ, EnvW, eq_self, or_true, true_or, and_self, Int.natCast_add, Int.natCast_one, Int.natCast_zero]
 ·have hlt' : decide ((i : Int) < (l.length : Int)) = false := decide_eq_false (by omega)
  refine ARun.go 100 ?_
  simp only [WO, seval, hlt']
  refine ARun.fits fun hf => ?_
  refine ARun.ret Tryz.func110 rfl (Left.fits hf (hm _ _).1 (hm _ _).2 ?_)
  rw [h2, List.drop_eq_nil_of_le (by omega)]
  exact ⟨rfl, rfl⟩
theorem containsFunc_Type {σ : Type} (g : FuncId) (first caps : List V) (mem : σ → Mem) (f : TyT → σ → Bool × σ) (hm : ∀ s s', (mem s).boxes.length = (mem s').boxes.length ∧ (mem s).toks.length = (mem s').toks.length) (l : List TyT) (hl : l.length ≤ 9223372036854775807) (s0 : σ) (hg : Good Tryz.prog TabI g first caps tyV mem f l s0) :
 AFn Tryz.prog TabI 81 [.d (.sl (l.map tyD)), .func g first caps] (mem s0) (Same (.d (.bool (anyF f l s0).1)) (mem (anyF f l s0).2)) := by
 obtain ⟨e1, e2⟩ := walkF_any f l 0 s0 (Int.le_refl 0)
 refine AFn.body Tryz.func81 rfl (by kernel_rfl) ?_
 refine ARun.go 100 ?_
 simp only [Tryz.f81, WO, seval]
 refine callS_fn (indexFunc_Type g first caps mem f hm l hl s0 hg) ?_
 rintro _ _ ⟨rfl, rfl⟩
 refine ARun.go 100 ?_
 simp only [WO, seval, e1]
 refine ARun.fits fun hf => ?_
 refine ARun.ret Tryz.func81 rfl (Left.fits hf (hm _ _).1 (hm _ _).2 ?_)
 rw [e2]
 exact ⟨rfl, rfl⟩
set_option maxHeartbeats 1000000 in
theorem indexFunc_Stmt {σ : Type} (g : FuncId) (first caps : List V) (mem : σ → Mem) (f : StT → σ → Bool × σ) (hm : ∀ s s', (mem s).boxes.length = (mem s').boxes.length ∧ (mem s).toks.length = (mem s').toks.length) (l : List StT) (hl : l.length ≤ 9223372036854775807) (s0 : σ) (hg : Good Tryz.prog TabI g first caps stV mem f l s0) :
 AFn Tryz.prog TabI 140 [.d (.sl (l.map stD)), .func g first caps] (mem s0) (Same (.d (.int .i64 (walkF f l 0 s0).1)) (mem (walkF f l 0 s0).2)) := by
 refine AFn.body Tryz.func140 rfl (by kernel_rfl) ?_
 refine ARun.go 100 ?_
 simp only [Tryz.f140, WO, seval]
 refine ARun.loopW (fun p : Nat × σ => (envOf 19 [(0, .d (.sl (l.map stD))), (1, .func g first caps), (6, .d (.sl (l.map stD))), (7, .d (.int .i64 l.length)), (8, .d (.int .i64 p.1))], mem p.2)) (fun p => p.1 ≤ l.length ∧ walkF f l 0 s0 = walkF f (l.drop p.1) p.1 p.2 ∧ Good Tryz.prog TabI g first caps stV mem f (l.drop p.1) p.2) (fun p => l.length - p.1) (0, s0) ⟨by omega, rfl, hg⟩ ?_ rfl ?_
 ·simp only [envOf, List.replicate_succ, List.replicate_zero, List.foldl_cons, List.foldl_nil, List.set_cons_zero, List.set_cons_succ, EnvW, eq_self, or_true, true_or, and_self, Int.natCast_add, Int.natCast_one, Int.natCast_zero]
 rintro ⟨i, s⟩ ⟨h1, h2, h3⟩ ih
 dsimp only at h1 h2 h3 ih ⊢
 by_cases hlt : i < l.length
 ·have hw := wrap_in ((i : Int) + 1) (by omega)
  have hge := List.getElem?_eq_getElem hlt
  rw [drop_get hlt] at h2 h3
  obtain ⟨h4, h5⟩ := h3
  have hlt' : decide ((i : Int) < (l.length : Int)) = true := decide_eq_true (by omega)
  refine ARun.go 100 ?_
  simp only [WO, seval, List.getElem?_map, hge, hlt', hw, stD_eq]
  refine callS_of h4 ?_
  rintro _ _ ⟨rfl, rfl⟩
  refine ARun.go 100 ?_
  simp only [WO, seval, hw]
  refine condS_of (fun h => ?_) (fun h => ?_)
  ·simp only [WO, seval, h]
   refine ARun.fits fun hf => ?_
   refine ARun.ret Tryz.func140 rfl (Left.fits hf (hm _ _).1 (hm _ _).2 ?_)
   have e : walkF f (l[i] :: l.drop (i + 1)) (i : Int) s = ((i : Int), (f l[i] s).2) := by simp [walkF, h]
   rw [h2, e]
   exact ⟨rfl, rfl⟩
  ·simp only [WO, seval, h, hw]
   have e : walkF f (l[i] :: l.drop (i + 1)) (i : Int) s = walkF f (l.drop (i + 1)) ((i + 1 : Nat) : Int) (f l[i] s).2 := by simp [walkF, h]
   refine ih (i + 1, (f l[i] s).2) ⟨hlt, h2.trans e, h5 h⟩ (by simp only; omega) _ _ ?_ rfl
   simp only [envOf, List.replicate_succ, List.replicate_zero, List.foldl_cons, List.foldl_nil, List.set_cons_zero, List.set_cons_succ, EnvW, eq_self, or_true, true_or, and_self, Int.natCast_add, Int.natCast_one, Int.natCast_zero]
 ·have hlt' : decide ((i : Int) < (l.length : Int)) = false := decide_eq_false (by omega)
  refine ARun.go 100 ?_
  simp only [WO, seval, hlt']
  refine ARun.fits fun hf => ?_
  refine ARun.ret Tryz.func140 rfl (Left.fits hf (hm _ _).1 (hm _ _).2 ?_)
  rw [h2, List.drop_eq_nil_of_le (by omega)]
  exact ⟨rfl, rfl⟩
theorem containsFunc_Stmt {σ : Type} (g : FuncId) (first caps : List V) (mem : σ → Mem) (f : StT → σ → Bool × σ) (hm : ∀ s s', (mem s).boxes.length = (mem s').boxes.length ∧ (mem s).toks.length = (mem s').toks.length) (l : List StT) (hl : l.length ≤ 9223372036854775807) (s0 : σ) (hg : Good Tryz.prog TabI g first caps stV mem f l s0) :
 AFn Tryz.prog TabI 111 [.d (.sl (l.map stD)), .func g first caps] (mem s0) (Same (.d (.bool (anyF f l s0).1)) (mem (anyF f l s0).2)) := by
 obtain ⟨e1, e2⟩ := walkF_any f l 0 s0 (Int.le_refl 0)
 refine AFn.body Tryz.func111 rfl (by kernel_rfl) ?_
 refine ARun.go 100 ?_
 simp only [Tryz.f111, WO, seval]
 refine callS_fn (indexFunc_Stmt g first caps mem f hm l hl s0 hg) ?_
 rintro _ _ ⟨rfl, rfl⟩
 refine ARun.go 100 ?_
 simp only [WO, seval, e1]
 refine ARun.fits fun hf => ?_
 refine ARun.ret Tryz.func111 rfl (Left.fits hf (hm _ _).1 (hm _ _).2 ?_)
 rw [e2]
 exact ⟨rfl, rfl⟩
set_option maxHeartbeats 1000000 in
theorem indexFunc_Case {σ : Type} (g : FuncId) (first caps : List V) (mem : σ → Mem) (f : CaT → σ → Bool × σ) (hm : ∀ s s', (mem s).boxes.length = (mem s').boxes.length ∧ (mem s).toks.length = (mem s').toks.length) (l : List CaT) (hl : l.length ≤ 9223372036854775807) (s0 : σ) (hg : Good Tryz.prog TabI g first caps caV mem f l s0) :
 AFn Tryz.prog TabI 165 [.d (.sl (l.map caD)), .func g first caps] (mem s0) (Same (.d (.int .i64 (walkF f l 0 s0).1)) (mem (walkF f l 0 s0).2)) := by
 refine AFn.body Tryz.func165 rfl (by kernel_rfl) ?_
 refine ARun.go 100 ?_
 simp only [Tryz.f165, WO, seval]
 refine ARun.loopW (fun p : Nat × σ => (envOf 19 [(0, .d (.sl (l.map caD))), (1, .func g first caps), (6, .d (.sl (l.map caD))), (7, .d (.int .i64 l.length)), (8, .d (.int .i64 p.1))], mem p.2)) (fun p => p.1 ≤ l.length ∧ walkF f l 0 s0 = walkF f (l.drop p.1) p.1 p.2 ∧ Good Tryz.prog TabI g first caps caV mem f (l.drop p.1) p.2) (fun p => l.length - p.1) (0, s0) ⟨by omega, rfl, hg⟩ ?_ rfl ?_
 ·simp only [envOf, List.replicate_succ, List.replicate_zero, List.foldl_cons, List.foldl_nil, List.set_cons_zero, List.set_cons_succ, EnvW, eq_self, or_true, true_or, and_self, Int.natCast_add, Int.natCast_one, Int.natCast_zero]
 rintro ⟨i, s⟩ ⟨h1, h2, h3⟩ ih
 dsimp only at h1 h2 h3 ih ⊢
 by_cases hlt : i < l.length
 ·have hw := wrap_in ((i : Int) + 1) (by omega)
  have hge := List.getElem?_eq_getElem hlt
  rw [drop_get hlt] at h2 h3
  obtain ⟨h4, h5⟩ := h3
  have hlt' : decide ((i : Int) < (l.length : Int)) = true := decide_eq_true (by omega)
  refine ARun.go 100 ?_
  simp only [WO, seval, List.getElem?_map, hge, hlt', hw, caD_eq]
  refine callS_of h4 ?_
  rintro _ _ ⟨rfl, rfl⟩
  refine ARun.go 100 ?_
  simp only [WO, seval, hw]
  refine condS_of (fun h => ?_) (fun h => ?_)
  ·simp only [WO, seval, h]
   refine ARun.fits fun hf => ?_
   refine ARun.ret Tryz.func165 rfl (Left.fits hf (hm _ _).1 (hm _ _).2 ?_)
   have e : walkF f (l[i] :: l.drop (i + 1)) (i : Int) s = ((i : Int), (f l[i] s).2) := by simp [walkF, h]
   rw [h2, e]
   exact ⟨rfl, rfl⟩
  ·simp only [WO, seval, h, hw]
   have e : walkF f (l[i] :: l.drop (i + 1)) (i : Int) s = walkF f (l.drop (i + 1)) ((i + 1 : Nat) : Int) (f l[i] s).2 := by simp [walkF, h]
   refine ih (i + 1, (f l[i] s).2) ⟨hlt, h2.trans e, h5 h⟩ (by simp only; omega) _ _ ?_ rfl
   simp only [envOf, List.replicate_succ, List.replicate_zero, List.foldl_cons, List.foldl_nil, List.set_cons_zero, List.set_cons_succ, EnvW, eq_self, or_true, true_or, and_self, Int.natCast_add, Int.natCast_one, Int.natCast_zero]
 ·have hlt' : decide ((i : Int) < (l.length : Int)) = false := decide_eq_false (by omega)
  refine ARun.go 100 ?_
  simp only [WO, seval, hlt']
  refine ARun.fits fun hf => ?_
  refine ARun.ret Tryz.func165 rfl (Left.fits hf (hm _ _).1 (hm _ _).2 ?_)
  rw [h2, List.drop_eq_nil_of_le (by omega)]
  exact ⟨rfl, rfl⟩
theorem containsFunc_Case {σ : Type} (g : FuncId) (first caps : List V) (mem : σ → Mem) (f : CaT → σ → Bool × σ) (hm : ∀ s s', (mem s).boxes.length = (mem s').boxes.length ∧ (mem s).toks.length = (mem s').toks.length) (l : List CaT) (hl : l.length ≤ 9223372036854775807) (s0 : σ) (hg : Good Tryz.prog TabI g first caps caV mem f l s0) :
 AFn Tryz.prog TabI 142 [.d (.sl (l.map caD)), .func g first caps] (mem s0) (Same (.d (.bool (anyF f l s0).1)) (mem (anyF f l s0).2)) := by
 obtain ⟨e1, e2⟩ := walkF_any f l 0 s0 (Int.le_refl 0)
 refine AFn.body Tryz.func142 rfl (by kernel_rfl) ?_
 refine ARun.go 100 ?_
 simp only [Tryz.f142, WO, seval]
 refine callS_fn (indexFunc_Case g first caps mem f hm l hl s0 hg) ?_
 rintro _ _ ⟨rfl, rfl⟩
 refine ARun.go 100 ?_
 simp only [WO, seval, e1]
 refine ARun.fits fun hf => ?_
 refine ARun.ret Tryz.func142 rfl (Left.fits hf (hm _ _).1 (hm _ _).2 ?_)
 rw [e2]
 exact ⟨rfl, rfl⟩
set_option maxHeartbeats 1000000 in
theorem indexFunc_Expr {σ : Type} (g : FuncId) (first caps : List V) (mem : σ → Mem) (f : ExT → σ → Bool × σ) (hm : ∀ s s', (mem s).boxes.length = (mem s').boxes.length ∧ (mem s).toks.length = (mem s').toks.length) (l : List ExT) (hl : l.length ≤ 9223372036854775807) (s0 : σ) (hg : Good Tryz.prog TabI g first caps exV mem f l s0) :
 AFn Tryz.prog TabI 177 [.d (.sl (l.map exD)), .func g first caps] (mem s0) (Same (.d (.int .i64 (walkF f l 0 s0).1)) (mem (walkF f l 0 s0).2)) := by
 refine AFn.body Tryz.func177 rfl (by kernel_rfl) ?_
 refine ARun.go 100 ?_
 simp only [Tryz.f177, WO, seval]
 refine ARun.loopW (fun p : Nat × σ => (envOf 19 [(0, .d (.sl (l.map exD))), (1, .func g first caps), (6, .d (.sl (l.map exD))), (7, .d (.int .i64 l.length)), (8, .d (.int .i64 p.1))], mem p.2)) (fun p => p.1 ≤ l.length ∧ walkF f l 0 s0 = walkF f (l.drop p.1) p.1 p.2 ∧ Good Tryz.prog TabI g first caps exV mem f (l.drop p.1) p.2) (fun p => l.length - p.1) (0, s0) ⟨by omega, rfl, hg⟩ ?_ rfl ?_
 ·simp only [envOf, List.replicate_succ, List.replicate_zero, List.foldl_cons, List.foldl_nil, List.set_cons_zero, List.set_cons_succ, EnvW, eq_self, or_true, true_or, and_self, Int.natCast_add, Int.natCast_one, Int.natCast_zero]
 rintro ⟨i, s⟩ ⟨h1, h2, h3⟩ ih
 dsimp only at h1 h2 h3 ih ⊢
 by_cases hlt : i < l.length
 ·have hw := wrap_in ((i : Int) + 1) (by omega)
  have hge := List.getElem?_eq_getElem hlt
  rw [drop_get hlt] at h2 h3
  obtain ⟨h4, h5⟩ := h3
  have hlt' : decide ((i : Int) < (l.length : Int)) = true := decide_eq_true (by omega)
  refine ARun.go 100 ?_
  simp only [WO, seval, List.getElem?_map, hge, hlt', hw, exD_eq]
  refine callS_of h4 ?_
  rintro _ _ ⟨rfl, rfl⟩
  refine ARun.go 100 ?_
  simp only [WO, seval, hw]
  refine condS_of (fun h => ?_) (fun h => ?_)
  ·simp only [WO, seval, h]
   refine ARun.fits fun hf => ?_
   refine ARun.ret Tryz.func177 rfl (Left.fits hf (hm _ _).1 (hm _ _).2 ?_)
   have e : walkF f (l[i] :: l.drop (i + 1)) (i : Int) s = ((i : Int), (f l[i] s).2) := by simp [walkF, h]
   rw [h2, e]
   exact ⟨rfl, rfl⟩
  ·simp only [WO, seval, h, hw]
   have e : walkF f (l[i] :: l.drop (i + 1)) (i : Int) s = walkF f (l.drop (i + 1)) ((i + 1 : Nat) : Int) (f l[i] s).2 := by simp [walkF, h]
   refine ih (i + 1, (f l[i] s).2) ⟨hlt, h2.trans e, h5 h⟩ (by simp only; omega) _ _ ?_ rfl
   simp only [envOf, List.replicate_succ, List.replicate_zero, List.foldl_cons, List.foldl_nil, List.set_cons_zero, List.set_cons_succ, EnvW, eq_self, or_true, true_or, and_self, Int.natCast_add, Int.natCast_one, Int.natCast_zero]
 ·have hlt' : decide ((i : Int) < (l.length : Int)) = false := decide_eq_false (by omega)
  refine ARun.go 100 ?_
  simp only [WO, seval, hlt']
  refine ARun.fits fun hf => ?_
  refine ARun.ret Tryz.func177 rfl (Left.fits hf (hm _ _).1 (hm _ _).2 ?_)
  rw [h2, List.drop_eq_nil_of_le (by omega)]
  exact ⟨rfl, rfl⟩
theorem containsFunc_Expr {σ : Type} (g : FuncId) (first caps : List V) (mem : σ → Mem) (f : ExT → σ → Bool × σ) (hm : ∀ s s', (mem s).boxes.length = (mem s').boxes.length ∧ (mem s).toks.length = (mem s').toks.length) (l : List ExT) (hl : l.length ≤ 9223372036854775807) (s0 : σ) (hg : Good Tryz.prog TabI g first caps exV mem f l s0) :
 AFn Tryz.prog TabI 161 [.d (.sl (l.map exD)), .func g first caps] (mem s0) (Same (.d (.bool (anyF f l s0).1)) (mem (anyF f l s0).2)) := by
 obtain ⟨e1, e2⟩ := walkF_any f l 0 s0 (Int.le_refl 0)
 refine AFn.body Tryz.func161 rfl (by kernel_rfl) ?_
 refine ARun.go 100 ?_
 simp only [Tryz.f161, WO, seval]
 refine callS_fn (indexFunc_Expr g first caps mem f hm l hl s0 hg) ?_
 rintro _ _ ⟨rfl, rfl⟩
 refine ARun.go 100 ?_
 simp only [WO, seval, e1]
 refine ARun.fits fun hf => ?_
 refine ARun.ret Tryz.func161 rfl (Left.fits hf (hm _ _).1 (hm _ _).2 ?_)
 rw [e2]
 exact ⟨rfl, rfl⟩
set_option maxHeartbeats 1000000 in
theorem many_ab (k : Int) (B : List (List V)) (T : List (Nat × Nat)) : AFn Tryz.prog TabI 99 [.d (.int .i64 k)] ⟨B, T⟩ (Same (.d (.int .i64 (manyS k))) ⟨B, T⟩) := by
 refine AFn.body Tryz.func99 rfl (by kernel_rfl) ?_
 refine ARun.go 300 ?_
 simp only [Tryz.f99, WO, seval]
 repeat' ((first | refine guardB_of (fun h => ?_) (fun h => ?_) | refine condS_of (fun h => ?_) (fun h => ?_)) <;> simp only [WO, seval, h])
 all_goals
  refine ARun.ret Tryz.func99 rfl (Left.none ?_)
  first
   | (obtain rfl := of_decide_eq_true h
      exact ⟨rfl, rfl⟩)
   | (simp only [decide_eq_false_iff_not] at *
      refine ⟨?_, rfl⟩
      have : manyS k = -2 := by simp [manyS, *]
      rw [this]
      rfl)
theorem rank_no (s : List UInt8) (h : ∀ x ∈ rankT, ¬ s = x.1) : rankS s = 0 := by
 unfold rankS
 rw [List.find?_eq_none.2 fun x hx => by simpa using fun e => h x hx e.symm]
 rfl
set_option maxHeartbeats 2000000 in
theorem rank_ab (s : List UInt8) (B : List (List V)) (T : List (Nat × Nat)) : AFn Tryz.prog TabI 105 [.d (.str s)] ⟨B, T⟩ (Same (.d (.int .i64 (rankS s))) ⟨B, T⟩) := by
 refine AFn.body Tryz.func105 rfl (by kernel_rfl) ?_
 refine ARun.go 400 ?_
 simp only [Tryz.f105, WO, seval]
 repeat' ((first | refine guardB_of (fun h => ?_) (fun h => ?_) | refine condS_of (fun h => ?_) (fun h => ?_)) <;> simp only [WO, seval, h])
 all_goals
  refine ARun.ret Tryz.func105 rfl (Left.none ?_)
  first
   | (obtain rfl := of_decide_eq_true h
      exact ⟨rfl, rfl⟩)
   | (simp only [decide_eq_false_iff_not] at *
      refine ⟨?_, rfl⟩
      have : rankS s = 0 := rank_no s (by simp [rankT, *])
      rw [this]
      rfl)
theorem diffS_succ (n : Nat) (l : List (List UInt8)) (h : n < l.length) : diffS (n + 1) l = (diffS n l && identS l[n] && !(l.take n).contains l[n]) := by
 have : l.getD n [] = l[n] := by simp [List.getD, h]
 simp only [diffS, this, hasS]
set_option maxHeartbeats 1000000 in
theorem different_ab (l : List (List UInt8)) (hl : l.length ≤ 9223372036854775807) (B : List (List V)) (T : List (Nat × Nat)) : AFn Tryz.prog TabI 109 [.d (.sl (ssD l))] ⟨B, T⟩ (Same (.d (.bool (diffS l.length l))) ⟨B, T⟩) := by
 refine AFn.body Tryz.func109 rfl (by kernel_rfl) ?_
 refine ARun.go 100 ?_
 simp only [Tryz.f109, WO, seval]
 refine ARun.loopW (fun i : Nat => (envOf 23 [(0, .d (.sl (ssD l))), (5, .d (.sl (ssD l))), (6, .d (.int .i64 l.length)), (7, .d (.int .i64 i))], ⟨B, T⟩)) (fun i => i ≤ l.length ∧ diffS i l = true) (fun i => l.length - i) 0 ⟨by omega, rfl⟩ ?_ rfl ?_
 ·simp only [envOf, List.replicate_succ, List.replicate_zero, List.foldl_cons, List.foldl_nil, List.set_cons_zero, List.set_cons_succ, EnvW, eq_self, or_true, true_or, and_self, Int.natCast_add, Int.natCast_one, Int.natCast_zero]
 rintro i ⟨h1, h2⟩ ih
 by_cases hlt : i < l.length
 ·have hw := wrap_in ((i : Int) + 1) (by omega)
  have hg := List.getElem?_eq_getElem hlt
  have hs := diffS_succ i l hlt
  rw [h2, Bool.true_and] at hs
  have hle : (i : Int) ≤ (l.length : Int) := by omega
  have hlt' : decide ((i : Int) < (l.length : Int)) = true := decide_eq_true (by omega)
  refine ARun.go 100 ?_
  simp only [WO, seval, hg, hlt', hw]
  refine callS_fn (ident_ab _ _) ?_
  rintro _ _ ⟨rfl, rfl⟩
  refine ARun.go 100 ?_
  simp only [WO, seval, hw]
  cases hI : identS l[i]
  ·simp only [WO, seval, hI, Bool.not_false]
   refine ARun.ret Tryz.func109 rfl (Left.none ?_)
   have : diffS l.length l = false := diffS_no l (i + 1) (by rw [hs, hI]; rfl) _ (by omega)
   rw [this]
   exact ⟨rfl, rfl⟩
  ·simp only [WO, seval, hI, Bool.not_true, hle]
   refine callS_fn (contains_str_ab _ _ (by simp; omega) _) ?_
   rintro _ _ ⟨rfl, rfl⟩
   refine ARun.go 100 ?_
   simp only [WO, seval, hw]
   refine condS_of (fun h => ?_) (fun h => ?_)
   ·simp only [WO, seval, h]
    refine ARun.ret Tryz.func109 rfl (Left.none ?_)
    have : diffS l.length l = false := diffS_no l (i + 1) (by rw [hs, hI, h]; rfl) _ (by omega)
    rw [this]
    exact ⟨rfl, rfl⟩
   ·simp only [WO, seval, h, hw]
    refine ih (i + 1) ⟨hlt, by rw [hs, hI, h]; rfl⟩ (by omega) _ _ ?_ rfl
    simp only [envOf, List.replicate_succ, List.replicate_zero, List.foldl_cons, List.foldl_nil, List.set_cons_zero, List.set_cons_succ, EnvW, eq_self, or_true, true_or, and_self, Int.natCast_add, Int.natCast_one, Int.natCast_zero]
 ·have hlt' : decide ((i : Int) < (l.length : Int)) = false := decide_eq_false (by omega)
  refine ARun.go 100 ?_
  simp only [WO, seval, hlt']
  refine ARun.ret Tryz.func109 rfl (Left.none ?_)
  obtain rfl : i = l.length := by omega
  rw [h2]
  exact ⟨rfl, rfl⟩
theorem good_of {P : Program} {I : Inv} {α : Type} {g : FuncId} {first caps : List V} {argV : α → V} {S : Mem} {f : α → Bool} : ∀ (l : List α), (∀ x ∈ l, AFn P I g (first ++ [argV x] ++ caps) S (Same (.d (.bool (f x))) S)) → Good P I g first caps argV (fun _ : Unit => S) (fun x s => (f x, s)) l ()
 | [], _ => trivial
 | x :: l, h => ⟨h x List.mem_cons_self, fun _ => good_of l fun y hy => h y (List.mem_cons_of_mem _ hy)⟩
theorem anyF_unit {α : Type} (f : α → Bool) : ∀ l : List α, (anyF (fun x (s : Unit) => (f x, s)) l ()).1 = l.any f
 | [] => rfl
 | x :: l => by
  unfold anyF
  cases h : f x
  ·simp [h, anyF_unit f l]
  ·simp [h]
theorem headsS_all : ∀ l : List ExT, headsS l = l.all headS
 | [] => by rw [headsS]; rfl
 | x :: l => by rw [headsS, headsS_all l]; rfl
theorem any_not {α : Type} (f : α → Bool) (l : List α) : l.any (fun x => !f x) = !l.all f := by
 induction l with
 | nil => rfl
 | cons x l ih => simp [ih, Bool.not_and]
def HeadOk (x : ExT) : Prop := ∀ (B : List (List V)) (T : List (Nat × Nat)), AFn Tryz.prog TabI 164 [exV x] ⟨B, T⟩ (Same (.d (.bool (headS x))) ⟨B, T⟩)
set_option maxHeartbeats 1000000 in
theorem head1_ab (x : ExT) (h : HeadOk x) (B : List (List V)) (T : List (Nat × Nat)) : AFn Tryz.prog TabI 178 [exV x] ⟨B, T⟩ (Same (.d (.bool (!headS x))) ⟨B, T⟩) := by
 obtain ⟨N, hn⟩ : ∃ N, B.length = N := ⟨_, rfl⟩
 have h := h (B ++ [[.d (.int .i64 x.kind), .d (.str x.text), .d (.int .u64 x.int), .d (.int .i64 x.type.kind), .d (.str x.type.name), .d (.sl (x.type.elem.map tyD)), .d (.sl (ssD x.names)), .d (.sl (x.kids.map exD))]]) T
 unfold exV at h ⊢
 refine AFn.body Tryz.func178 rfl (by kernel_rfl) ?_
 refine ARun.go 100 ?_
 simp only [Tryz.f178, WO, seval, hn]
 refine callS_fn (h) ?_
 rintro _ _ ⟨rfl, rfl⟩
 refine ARun.go 100 ?_
 simp only [WO, seval, hn]
 refine ARun.ret Tryz.func178 rfl (Left.box ?_)
 exact ⟨rfl, rfl⟩
set_option maxHeartbeats 2000000 in
theorem head_step (k : Int) (t : List UInt8) (i : Int) (ty : TyT) (ns : List (List UInt8)) (ks : List ExT) (hx : ∀ x ∈ ks, HeadOk x) : HeadOk (.mk k t i ty ns ks) := by
 intro B T
 obtain ⟨N, hn⟩ : ∃ N, B.length = N := ⟨_, rfl⟩
 have hS : headS (.mk k t i ty ns ks) = (decide (k ≠ 14) && decide (k ≠ 15) && ks.all headS) := by rw [headS, headsS_all]
 simp only [exV, ExT.kind, ExT.text, ExT.int, ExT.type, ExT.names, ExT.kids]
 refine AFn.bodyS Tryz.func164 rfl (by kernel_rfl) fun hsm => ?_
 simp only [smL, sm, exV, stV, tyV, caV, paV, suV, fuV, prV, Bool.and_eq_true, decide_eq_true_eq, and_true, true_and, List.length_map, ssD_length] at hsm
 refine ARun.go 100 ?_
 simp only [Tryz.f164, WO, seval, hn]
 obtain ⟨-, -, -, -, hl⟩ := hsm
 repeat' ((first | refine guardB_of (fun h => ?_) (fun h => ?_) | refine condS_of (fun h => ?_) (fun h => ?_)) <;> simp only [WO, seval, h, hn])
 all_goals first
  | (refine ARun.ret Tryz.func164 rfl (Left.box ?_)
     rw [hS]
     (try clear ih)
     (try simp only [dnw] at *)
     simp only [fnw, seval, Same] <;> simp [*]
     skip)
  | (refine callS_fn (containsFunc_Expr 178 [] [] (fun _ : Unit => _) (fun x s => (!headS x, s)) (fun _ _ => ⟨rfl, rfl⟩) ks hl () (good_of ks fun x hm => head1_ab x (hx x hm) _ T)) ?_
     rintro _ _ ⟨rfl, rfl⟩
     rw [anyF_unit, any_not]
     refine ARun.go 100 ?_
     simp only [WO, seval, hn]
     refine ARun.ret Tryz.func164 rfl (Left.box ?_)
     rw [hS]
     (try clear ih)
     (try simp only [dnw] at *)
     simp only [fnw, seval, Same] <;> simp [*]
     skip)
mutual
theorem head_ab : ∀ x : ExT, HeadOk x
 | .mk k t i ty ns ks => head_step k t i ty ns ks (head_all ks)
theorem head_all : ∀ (ks : List ExT), ∀ x ∈ ks, HeadOk x
 | [], _, h => absurd h List.not_mem_nil
 | y :: l, x, h => by
  rcases List.mem_cons.1 h with e | e
  ·rw [e]; exact head_ab y
  ·exact head_all l x e
end
def exB (x : ExT) : List V := [.d (.int .i64 x.kind), .d (.str x.text), .d (.int .u64 x.int), .d (.int .i64 x.type.kind), .d (.str x.type.name), .d (.sl (x.type.elem.map tyD)), .d (.sl (ssD x.names)), .d (.sl (x.kids.map exD))]
theorem placeS_mk (k : Int) (t : List UInt8) (i : Int) (ty : TyT) (ns : List (List UInt8)) (ks : List ExT) : placeS (.mk k t i ty ns ks) = match ks with | [y] => if k = 9 then placeS y else decide (k = 1) | _ => decide (k = 1) := by
 rcases ks with _ | ⟨z, _ | ⟨z2, l⟩⟩ <;> simp [placeS]
set_option maxHeartbeats 2000000 in
theorem place_ab (x : ExT) (B : List (List V)) (T : List (Nat × Nat)) : AFn Tryz.prog TabI 163 [exV x] ⟨B, T⟩ (Same (.d (.bool (placeS x))) ⟨B, T⟩) := by
 obtain ⟨N, hn⟩ : ∃ N, B.length = N := ⟨_, rfl⟩
 unfold exV
 refine AFn.body Tryz.func163 rfl (by kernel_rfl) ?_
 refine ARun.go 100 ?_
 simp only [Tryz.f163, WO, seval, hn]
 refine ARun.loopW (fun y : ExT => (envOf 19 [(1, .ptr N 0)], ⟨B ++ [exB y], T⟩)) (fun y => placeS y = placeS x) (fun y => SizeOf.sizeOf y) x rfl ?_ rfl ?_
 ·simp only [envOf, List.replicate_succ, List.replicate_zero, List.foldl_cons, List.foldl_nil, List.set_cons_zero, List.set_cons_succ, EnvW, eq_self, or_true, true_or, and_self, Int.natCast_add, Int.natCast_one, Int.natCast_zero]
 rintro y hy ih
 cases y with
 | mk k t i ty ns ks =>
 have hp := placeS_mk k t i ty ns ks
 dsimp only [exB] at ih ⊢
 dsimp only [ExT.kind, ExT.text, ExT.int, ExT.type, ExT.names, ExT.kids] at ⊢
 rw [hp] at hy
 rcases ks with _ | ⟨z, _ | ⟨z2, l⟩⟩
 ·dsimp only at hy
  refine ARun.go 100 ?_
  simp only [WO, seval, hn, exD_eq]
  repeat' ((first | refine guardB_of (fun h => ?_) (fun h => ?_) | refine condS_of (fun h => ?_) (fun h => ?_)) <;> simp only [WO, seval, h, hn, exD_eq])
  all_goals
   refine ARun.ret Tryz.func163 rfl (Left.box ?_)
   rw [← hy]
   (try clear ih)
   (try simp only [dnw] at *)
   simp only [fnw, seval, Same] <;> simp [*]
   skip
 ·dsimp only at hy
  refine ARun.go 100 ?_
  simp only [WO, seval, hn, exD_eq]
  repeat' ((first | refine guardB_of (fun h => ?_) (fun h => ?_) | refine condS_of (fun h => ?_) (fun h => ?_)) <;> simp only [WO, seval, h, hn, exD_eq])
  all_goals first
   | (refine ARun.ret Tryz.func163 rfl (Left.box ?_)
      rw [← hy]
      (try clear ih)
      (try simp only [dnw] at *)
      simp only [fnw, seval, Same] <;> simp [*]
      skip)
   | (refine ih z ?_ (by simp only [ExT.mk.sizeOf_spec, List.cons.sizeOf_spec]; omega) _ _ ?_ ?_
      ·rw [← hy, if_pos (of_decide_eq_true (by assumption))]
      ·skip
       simp only [envOf, List.replicate_succ, List.replicate_zero, List.foldl_cons, List.foldl_nil, List.set_cons_zero, List.set_cons_succ, EnvW, eq_self, or_true, true_or, and_self, Int.natCast_add, Int.natCast_one, Int.natCast_zero]
       skip
      ·rfl)
 ·have hl2 : decide ((l.length : Int) + 1 + 1 = 1) = false := decide_eq_false (by omega)
  dsimp only at hy
  refine ARun.go 100 ?_
  simp only [WO, seval, hn, exD_eq, hl2]
  repeat' ((first | refine guardB_of (fun h => ?_) (fun h => ?_) | refine condS_of (fun h => ?_) (fun h => ?_)) <;> simp only [WO, seval, h, hn, exD_eq, hl2])
  all_goals
   refine ARun.ret Tryz.func163 rfl (Left.box ?_)
   rw [← hy]
   (try clear ih)
   (try simp only [dnw] at *)
   simp only [fnw, seval, Same] <;> simp [*]
   skip
def c162 := by
 have c := KK_of Tryz.f162 (by conv => lhs; cbv)
 dsimp only [KK, KxP, doO, opO, List.map_cons, List.map_nil, List.toList_toArray] at c
 exact c
theorem b162 : FnIs Tryz.prog 162 Tryz.f162 6 := ⟨Tryz.func162, by kernel_rfl⟩
def c141 := by
 have c := KK_of Tryz.f141 (by conv => lhs; cbv)
 dsimp only [KK, KxP, doO, opO, List.map_cons, List.map_nil, List.toList_toArray] at c
 exact c
theorem b141 : FnIs Tryz.prog 141 Tryz.f141 149 := ⟨Tryz.func141, by kernel_rfl⟩
set_option maxHeartbeats 1000000 in
theorem sized1_ab (x : ExT) (B : List (List V)) (T : List (Nat × Nat)) : AFn Tryz.prog TabI 162 [exV x] ⟨B, T⟩ (Same (.d (.bool (!placeS x))) ⟨B, T⟩) := by
 obtain ⟨N, hn⟩ : ∃ N, B.length = N := ⟨_, rfl⟩
 have h := place_ab x (B ++ [[.d (.int .i64 x.kind), .d (.str x.text), .d (.int .u64 x.int), .d (.int .i64 x.type.kind), .d (.str x.type.name), .d (.sl (x.type.elem.map tyD)), .d (.sl (ssD x.names)), .d (.sl (x.kids.map exD))]]) T
 unfold exV at h ⊢
 refine b162.go 100 rfl fun _ => ?_
 simp only [W, seval, c162, hn]
 refine callS_fn (h) ?_
 rintro _ _ ⟨rfl, rfl⟩
 refine ARun.go 100 ?_
 simp only [W, seval, c162, hn]
 refine ARun.ret Tryz.func162 rfl (Left.box ?_)
 (try clear ih)
 (try simp only [dnw] at *)
 simp only [fnw, seval, Same] <;> simp [*]
 skip
def stB (s : StT) : List V := [.d (.int .i64 s.kind), .d (.sl (ssD s.names)), .d (.int .i64 s.type.kind), .d (.str s.type.name), .d (.sl (s.type.elem.map tyD)), .d (.sl (s.lefts.map exD)), .d (.sl (s.exprs.map exD)), .d (.sl (s.body.map stD)), .d (.sl (s.els.map stD)), .d (.sl (s.cases.map caD))]
def headOf : List ExT → Bool | [x] => headS x | _ => false
def sevenOf : List ExT → Bool | [x] => decide (x.kind = 7) | _ => false
def nameOf : List (List UInt8) → Bool | [x] => identS x | _ => false
def sizedB (k : Int) (ns : List (List UInt8)) (ls es : List ExT) (b3 b4 b5 b6 b7 b8 : Bool) : Bool :=
 if k = 1 then decide (es.length = 0) && nameOf ns && !b5 && !b6 && !b7 && !b8
 else if k = 2 then decide (0 < ls.length) && (decide (es.length = ls.length) || sevenOf es) && ls.all placeS && (!b3 && !b4) && !b6 && !b7 && !b8
 else if k = 3 then (!b3 && !b4) && !b5 && headOf es && !b8
 else if k = 4 then (!b3 && !b4) && !b5 && headOf es && !b7 && !b8
 else if k = 5 then (!b3 && !b4) && !b5 && headOf es && !b6
 else if k = 6 then (!b3 && !b4) && !b5 && decide (0 < es.length) && !b6 && !b7 && !b8
 else false
theorem sizedS_eq (s : StT) : sizedS s = sizedB s.kind s.names s.lefts s.exprs (decide ((0 : Int) < (s.names.length : Int))) (!zeroS s.type) (decide ((0 : Int) < (s.lefts.length : Int))) (decide ((0 : Int) < (s.body.length : Int))) (decide ((0 : Int) < (s.els.length : Int))) (decide ((0 : Int) < (s.cases.length : Int))) := by
 have e (n : Nat) : (!decide ((0 : Int) < (n : Int))) = decide (n = 0) := by
  rw [Bool.eq_iff_iff, Bool.not_eq_true', decide_eq_false_iff_not, decide_eq_true_iff]; omega
 have e2 {α : Type} (l : List α) (q : Decidable (l = [])) : decide (l.length = 0) = @decide (l = []) q := decide_eq_decide.2 List.length_eq_zero_iff
 unfold sizedS sizedB
 simp only [e, Bool.not_not]
 rw [e2 s.names, e2 s.lefts]
 rfl
def lastB (k : Int) (es : List ExT) (b3 b4 b5 b6 b7 b8 b9 : Bool) : Bool :=
 (if k = 3 ∨ k = 4 ∨ k = 5 then b9 && headOf es else b9) && !b3 && !b4 && !b5 && !b6 && !b7 && !b8
set_option maxHeartbeats 4000000 in
theorem sized_ab (s : StT) (B : List (List V)) (T : List (Nat × Nat)) : AFn Tryz.prog TabI 141 [stV s] ⟨B, T⟩ (Same (.d (.bool (sizedS s))) ⟨B, T⟩) := by
 obtain ⟨N, hn⟩ : ∃ N, B.length = N := ⟨_, rfl⟩
 have hs := sizedS_eq s
 unfold stV
 refine b141.go 100 rfl fun hsm => ?_
 simp only [smw] at hsm
 simp only [W, seval, c141, hn]
 obtain ⟨-, -, -, hlf, -⟩ := hsm
 refine ARun.draw (by kernel_rfl) (by kernel_rfl) (lexQ_ok 60 _ _ ?_)
 simp only [W, seval, c141, hn]
 refine ⟨_, zero_ab s.type _ _, ?_⟩
 simp only [W, seval, c141, hn]
 generalize decide ((0 : Int) < (s.names.length : Int)) = b3 at hs ⊢
 generalize (!zeroS s.type) = b4 at hs ⊢
 generalize hb5 : decide ((0 : Int) < (s.lefts.length : Int)) = b5 at hs ⊢
 generalize decide ((0 : Int) < (s.body.length : Int)) = b6 at hs ⊢
 generalize decide ((0 : Int) < (s.els.length : Int)) = b7 at hs ⊢
 generalize decide ((0 : Int) < (s.cases.length : Int)) = b8 at hs ⊢
 generalize sizedS s = res at hs ⊢
 refine ARun.go 9 ?_
 simp only [W, seval, c141, hn]
 refine ARun.join (fun c : Bool × Bool × Bool × Bool × Bool × Bool × Bool => (envS 149 [(1, .ptr N 0), (3, .d (.bool c.1)), (4, .d (.bool c.2.1)), (5, .d (.bool c.2.2.1)), (6, .d (.bool c.2.2.2.1)), (7, .d (.bool c.2.2.2.2.1)), (8, .d (.bool c.2.2.2.2.2.1)), (9, .d (.bool c.2.2.2.2.2.2))], ⟨B ++ [stB s], T⟩)) (fun c => (s.kind = 3 ∨ s.kind = 4 ∨ s.kind = 5 → c.2.2.2.2.2.2 = decide (s.exprs.length = 1)) ∧ lastB s.kind s.exprs c.1 c.2.1 c.2.2.1 c.2.2.2.1 c.2.2.2.2.1 c.2.2.2.2.2.1 c.2.2.2.2.2.2 = res) ?_ ?_
 ·rintro ⟨c3, c4, c5, c6, c7, c8, c9⟩ ⟨hc, hr⟩
  dsimp only [stB] at hc hr ⊢
  rw [← hr]
  clear hs hr
  have hcase : (s.kind = 3 ∨ s.kind = 4 ∨ s.kind = 5) → (∃ x, s.exprs[0]? = some x ∧ c9 = true ∧ headOf s.exprs = headS x) ∨ c9 = false := by
   intro h
   rw [hc h]
   rcases s.exprs with _ | ⟨x, _ | ⟨y, l⟩⟩
   ·exact .inr rfl
   ·exact .inl ⟨x, rfl, rfl, rfl⟩
   ·exact .inr (decide_eq_false (by simp))
  clear hc
  by_cases k345 : s.kind = 3 ∨ s.kind = 4 ∨ s.kind = 5
  ·have hl : lastB s.kind s.exprs c3 c4 c5 c6 c7 c8 c9 = ((c9 && headOf s.exprs) && !c3 && !c4 && !c5 && !c6 && !c7 && !c8) := by rw [lastB, if_pos k345]
   rw [hl]
   rcases hcase k345 with ⟨x, hg, rfl, hh⟩ | rfl
   ·rw [hh]
    have hd := head_ab x
    rcases k345 with k | k | k
    all_goals
     refine ARun.go 200 ?_
     simp only [W, seval, c141, hn, k]
     simp only [W, seval, c141, hg, List.getElem?_map, exD_eq, k]
     refine callS_fn (hd _ _) ?_
     rintro _ _ ⟨rfl, rfl⟩
     generalize headS x = q
     refine ARun.go 200 ?_
     simp only [W, seval, c141, hn, k]
     repeat' ((first | refine guardB_of (fun h => ?_) (fun h => ?_) | refine condS_of (fun h => ?_) (fun h => ?_)) <;> simp only [W, seval, c141, h, hn, k])
     all_goals
      refine ARun.ret Tryz.func141 rfl (Left.box ?_)
      (try clear ih)
      (try simp only [dnw] at *)
      simp only [fnw, seval, Same] <;> simp [*]
      skip
   ·rcases k345 with k | k | k
    all_goals
     refine ARun.go 200 ?_
     simp only [W, seval, c141, hn, k]
     refine ARun.ret Tryz.func141 rfl (Left.box ?_)
     (try clear ih)
     (try simp only [dnw] at *)
     simp only [fnw, seval, Same] <;> simp [*]
     skip
  ·have hl : lastB s.kind s.exprs c3 c4 c5 c6 c7 c8 c9 = (c9 && !c3 && !c4 && !c5 && !c6 && !c7 && !c8) := by rw [lastB, if_neg k345]
   rw [hl]
   have k3 : decide (s.kind = 3) = false := decide_eq_false fun h => k345 (.inl h)
   have k4 : decide (s.kind = 4) = false := decide_eq_false fun h => k345 (.inr (.inl h))
   have k5 : decide (s.kind = 5) = false := decide_eq_false fun h => k345 (.inr (.inr h))
   refine ARun.go 200 ?_
   simp only [W, seval, c141, hn, k3, k4, k5]
   repeat' ((first | refine guardB_of (fun h => ?_) (fun h => ?_) | refine condS_of (fun h => ?_) (fun h => ?_)) <;> simp only [W, seval, c141, h, hn, k3, k4, k5])
   all_goals
    refine ARun.ret Tryz.func141 rfl (Left.box ?_)
    (try clear ih)
    (try simp only [dnw] at *)
    simp only [fnw, seval, Same] <;> simp [*]
    skip
 ·intro K' hK
  have he1 : decide ((s.exprs.length : Int) = 1) = decide (s.exprs.length = 1) := decide_eq_decide.2 (by omega)
  have he6 : decide ((0 : Int) < (s.exprs.length : Int)) = decide (0 < s.exprs.length) := decide_eq_decide.2 (by omega)
  have he0 : decide ((s.exprs.length : Int) = 0) = decide (s.exprs.length = 0) := decide_eq_decide.2 (by omega)
  have hh : (decide (s.exprs.length = 1) && headOf s.exprs) = headOf s.exprs := by rcases s.exprs with _ | ⟨x, _ | ⟨y, l⟩⟩ <;> simp [headOf]
  by_cases k1 : s.kind = 1
  ·have hz : ∀ v : Bool, lastB s.kind s.exprs false false b5 b6 b7 b8 v = (v && !b5 && !b6 && !b7 && !b8) := fun v => by simp [lastB, k1]
   have hs : res = (decide (s.exprs.length = 0) && nameOf s.names && !b5 && !b6 && !b7 && !b8) := by rw [hs, sizedB, if_pos k1]
   rcases hN : s.names with _ | ⟨x, _ | ⟨y, l⟩⟩
   all_goals
    have hl2 : ∀ n : Nat, decide ((n : Int) + 1 + 1 = 1) = false := fun n => decide_eq_false (by omega)
    rw [hN] at hs
    refine ARun.goJ 400 ?_
    simp only [W, seval, c141, hn, k1, hN, he0, hl2]
    repeat' ((first | refine guardB_of (fun h => ?_) (fun h => ?_) | refine condS_of (fun h => ?_) (fun h => ?_)) <;> simp only [W, seval, c141, h, hn, k1, hN, he0, hl2])
    all_goals first
     | (refine hK (false, false, b5, b6, b7, b8, false) ⟨fun h => absurd h (by omega), ?_⟩ _ _ ?_ ?_
        ·rw [hz, hs]
         simp only [nameOf, h, Bool.and_false, Bool.false_and]
        ·skip
         refine Agree.env _ ?_
         simp only [agw, seval]
         skip
        ·simp only [stB, k1, hN])
     | (skip
        refine callS_fn (ident_ab _ _) ?_
        rintro _ _ ⟨rfl, rfl⟩
        refine ARun.goK 200 ?_
        simp only [W, seval, c141, hn, k1, hN, he0, hl2]
        refine hK (false, false, b5, b6, b7, b8, identS x) ⟨fun h => absurd h (by omega), ?_⟩ _ _ ?_ ?_
        ·rw [hz, hs]
         simp only [nameOf, h, Bool.true_and]
        ·skip
         refine Agree.env _ ?_
         simp only [agw, seval]
         skip
        ·simp only [stB, k1, hN])
     | (refine hK (false, false, b5, b6, b7, b8, false) ⟨fun h => absurd h (by omega), ?_⟩ _ _ ?_ ?_
        ·fail
        ·skip
         refine Agree.env _ ?_
         simp only [agw, seval]
         skip
        ·simp only [stB, k1, hN])
  by_cases k2 : s.kind = 2
  ·have hz : ∀ v : Bool, lastB s.kind s.exprs b3 b4 false b6 b7 b8 v = (v && !b3 && !b4 && !b6 && !b7 && !b8) := fun v => by simp [lastB, k2]
   have hs : res = (decide (0 < s.lefts.length) && (decide (s.exprs.length = s.lefts.length) || sevenOf s.exprs) && s.lefts.all placeS && (!b3 && !b4) && !b6 && !b7 && !b8) := by rw [hs, sizedB, if_neg k1, if_pos k2]
   have hb5' : decide (0 < s.lefts.length) = b5 := hb5 ▸ decide_eq_decide.2 (by omega)
   obtain ⟨be, hbe⟩ : ∃ b, decide ((s.exprs.length : Int) = (s.lefts.length : Int)) = b := ⟨_, rfl⟩
   have hbe' : decide (s.exprs.length = s.lefts.length) = be := hbe ▸ decide_eq_decide.2 (by omega)
   obtain ⟨b7', hsv⟩ : ∃ b, sevenOf s.exprs = b := ⟨_, rfl⟩
   rw [hb5', hbe', hsv] at hs
   have hw : ∀ v : Bool, v = (b5 && (be || b7') && s.lefts.all placeS) → lastB s.kind s.exprs b3 b4 false b6 b7 b8 v = res := fun v hv => by
    rw [hz, hs, hv]
    generalize s.lefts.all placeS = q
    cases b3 <;> cases b4 <;> cases b5 <;> cases be <;> cases b7' <;> cases q <;> cases b6 <;> cases b7 <;> cases b8 <;> rfl
   clear hz hs
   have hcase : (∃ x, s.exprs[0]? = some x ∧ decide ((s.exprs.length : Int) = 1) = true ∧ decide (x.kind = 7) = b7') ∨ (decide ((s.exprs.length : Int) = 1) = false ∧ b7' = false) := by
    rw [← hsv]
    rcases s.exprs with _ | ⟨x, _ | ⟨y, l⟩⟩
    ·exact .inr ⟨by decide, rfl⟩
    ·exact .inl ⟨x, rfl, by simp, rfl⟩
    ·exact .inr ⟨decide_eq_false (by simp; omega), rfl⟩
   rcases hcase with ⟨x, hg, hg1, hg2⟩ | ⟨hg1, hg2⟩
   ·refine ARun.goJ 400 ?_
    simp only [W, seval, c141, hn, k2, hb5, hbe, hg, hg1, hg2, List.getElem?_map, exD_eq]
    repeat' ((first | refine guardB_of (fun h => ?_) (fun h => ?_) | refine condS_of (fun h => ?_) (fun h => ?_)) <;> simp only [W, seval, c141, h, hn, k2, hb5, hbe, hg, hg1, hg2, List.getElem?_map, exD_eq])
    all_goals first
     | (refine hK (b3, b4, false, b6, b7, b8, false) ⟨fun h => absurd h (by omega), hw _ (by simp [*])⟩ _ _ ?_ ?_
        ·skip
         refine Agree.env _ ?_
         simp only [agw, seval]
         skip
        ·simp only [stB, k2])
     | (refine callS_fn (containsFunc_Expr 162 [] [] (fun _ : Unit => _) (fun x s => (!placeS x, s)) (fun _ _ => ⟨rfl, rfl⟩) s.lefts hlf () (good_of s.lefts fun x hm => sized1_ab x _ T)) ?_
        rintro _ _ ⟨rfl, rfl⟩
        rw [anyF_unit, any_not]
        refine ARun.goK 200 ?_
        simp only [W, seval, c141, hn, k2, Bool.not_not]
        refine hK (b3, b4, false, b6, b7, b8, s.lefts.all placeS) ⟨fun h => absurd h (by omega), hw _ (by simp [*])⟩ _ _ ?_ ?_
        ·skip
         refine Agree.env _ ?_
         simp only [agw, seval]
         skip
        ·simp only [stB, k2])
     | fail
   ·refine ARun.goJ 400 ?_
    simp only [W, seval, c141, hn, k2, hb5, hbe, hg1]
    repeat' ((first | refine guardB_of (fun h => ?_) (fun h => ?_) | refine condS_of (fun h => ?_) (fun h => ?_)) <;> simp only [W, seval, c141, h, hn, k2, hb5, hbe, hg1])
    all_goals first
     | (refine hK (b3, b4, false, b6, b7, b8, false) ⟨fun h => absurd h (by omega), hw _ (by simp [*])⟩ _ _ ?_ ?_
        ·skip
         refine Agree.env _ ?_
         simp only [agw, seval]
         skip
        ·simp only [stB, k2])
     | (refine callS_fn (containsFunc_Expr 162 [] [] (fun _ : Unit => _) (fun x s => (!placeS x, s)) (fun _ _ => ⟨rfl, rfl⟩) s.lefts hlf () (good_of s.lefts fun x hm => sized1_ab x _ T)) ?_
        rintro _ _ ⟨rfl, rfl⟩
        rw [anyF_unit, any_not]
        refine ARun.goK 200 ?_
        simp only [W, seval, c141, hn, k2, Bool.not_not]
        refine hK (b3, b4, false, b6, b7, b8, s.lefts.all placeS) ⟨fun h => absurd h (by omega), hw _ (by simp [*])⟩ _ _ ?_ ?_
        ·skip
         refine Agree.env _ ?_
         simp only [agw, seval]
         skip
        ·simp only [stB, k2])
     | fail
  by_cases k3 : s.kind = 3
  ·have hs : res = ((!b3 && !b4) && !b5 && headOf s.exprs && !b8) := by rw [hs, sizedB, if_neg k1, if_neg k2, if_pos k3]
   refine ARun.goJ 400 ?_
   simp only [W, seval, c141, hn, k3, he1]
   refine hK (b3, b4, b5, false, false, b8, decide (s.exprs.length = 1)) ⟨fun _ => rfl, ?_⟩ _ _ ?_ ?_
   ·rw [hs, lastB, if_pos (.inl k3), hh]
    generalize headOf s.exprs = hd
    cases b3 <;> cases b4 <;> cases b5 <;> cases b8 <;> cases hd <;> rfl
   ·skip
    refine Agree.env _ ?_
    simp only [agw, seval]
    skip
   ·simp only [stB, k3]
  by_cases k4 : s.kind = 4
  ·have hs : res = ((!b3 && !b4) && !b5 && headOf s.exprs && !b7 && !b8) := by rw [hs, sizedB, if_neg k1, if_neg k2, if_neg k3, if_pos k4]
   refine ARun.goJ 400 ?_
   simp only [W, seval, c141, hn, k4, he1]
   refine hK (b3, b4, b5, false, b7, b8, decide (s.exprs.length = 1)) ⟨fun _ => rfl, ?_⟩ _ _ ?_ ?_
   ·rw [hs, lastB, if_pos (.inr (.inl k4)), hh]
    generalize headOf s.exprs = hd
    cases b3 <;> cases b4 <;> cases b5 <;> cases b7 <;> cases b8 <;> cases hd <;> rfl
   ·skip
    refine Agree.env _ ?_
    simp only [agw, seval]
    skip
   ·simp only [stB, k4]
  by_cases k5 : s.kind = 5
  ·have hs : res = ((!b3 && !b4) && !b5 && headOf s.exprs && !b6) := by rw [hs, sizedB, if_neg k1, if_neg k2, if_neg k3, if_neg k4, if_pos k5]
   refine ARun.goJ 400 ?_
   simp only [W, seval, c141, hn, k5, he1]
   refine hK (b3, b4, b5, b6, false, false, decide (s.exprs.length = 1)) ⟨fun _ => rfl, ?_⟩ _ _ ?_ ?_
   ·rw [hs, lastB, if_pos (.inr (.inr k5)), hh]
    generalize headOf s.exprs = hd
    cases b3 <;> cases b4 <;> cases b5 <;> cases b6 <;> cases hd <;> rfl
   ·skip
    refine Agree.env _ ?_
    simp only [agw, seval]
    skip
   ·simp only [stB, k5]
  by_cases k6 : s.kind = 6
  ·have hs : res = ((!b3 && !b4) && !b5 && decide (0 < s.exprs.length) && !b6 && !b7 && !b8) := by rw [hs, sizedB, if_neg k1, if_neg k2, if_neg k3, if_neg k4, if_neg k5, if_pos k6]
   refine ARun.goJ 400 ?_
   simp only [W, seval, c141, hn, k6, he6]
   refine hK (b3, b4, b5, b6, b7, b8, decide (0 < s.exprs.length)) ⟨fun h => absurd h (by omega), ?_⟩ _ _ ?_ ?_
   ·rw [hs, lastB, if_neg (by omega)]
    generalize decide (0 < s.exprs.length) = hd
    cases b3 <;> cases b4 <;> cases b5 <;> cases b6 <;> cases b7 <;> cases b8 <;> cases hd <;> rfl
   ·skip
    refine Agree.env _ ?_
    simp only [agw, seval]
    skip
   ·simp only [stB, k6]
  have hs : res = false := by rw [hs, sizedB, if_neg k1, if_neg k2, if_neg k3, if_neg k4, if_neg k5, if_neg k6]
  have e1 := decide_eq_false k1
  have e2 := decide_eq_false k2
  have e3 := decide_eq_false k3
  have e4 := decide_eq_false k4
  have e5 := decide_eq_false k5
  have e6 := decide_eq_false k6
  refine ARun.goJ 400 ?_
  simp only [W, seval, c141, hn, e1, e2, e3, e4, e5, e6]
  refine ARun.ret Tryz.func141 rfl (Left.box ?_)
  rw [hs]
  (try clear ih)
  (try simp only [dnw] at *)
  simp only [fnw, seval, Same] <;> simp [*]
  skip
set_option maxHeartbeats 1000000 in
theorem typ_ab0 (k : Int) (n : List UInt8) (es : List TyT) (he : es.length ≠ 1) (c : Nat) (d p : Int) (B : List (List V)) (T : List (Nat × Nat)) (h : B[c]? = some [.d (.int .i64 p)]) (hp : 0 ≤ p ∧ p ≤ 60000) :
 AFn Tryz.prog TabI 76 [.ptr c 0, tyV (.mk k n es), .d (.int .i64 d)] ⟨B, T⟩ (Same (.d (.bool (tyS identS (.mk k n es) d p).1)) ⟨B.set c [.d (.int .i64 (tyS identS (.mk k n es) d p).2)], T⟩) := by
 obtain ⟨N, hn⟩ : ∃ N, B.length = N := ⟨_, rfl⟩
 have hc := (List.getElem?_eq_some_iff.1 h).1
 have hi : c < N := by omega
 have he' : decide ((es.length : Int) = 1) = false := decide_eq_false (by omega)
 have hr := tyRest_no identS k n d p es (.inr he)
 have hne : es ≠ [] ∨ es = [] := by by_cases h : es = [] <;> simp [h]
 simp only [tyV, TyT.kind, TyT.name, TyT.elem]
 refine AFn.body Tryz.func76 rfl (by kernel_rfl) ?_
 refine ARun.go 200 ?_
 simp only [Tryz.f76, WO, seval, hn, hi]
 refine callS_fn (part_ab c d p _ _ (by rw [bx_old hc]; exact h) hp) ?_
 rintro _ _ ⟨rfl, rfl⟩
 refine ARun.go 200 ?_
 simp only [WO, seval, hn, hi, he']
 cases hk : partOk d p
 ·simp only [WO, seval, hn, hi, hk, Bool.not_false]
  refine ARun.ret Tryz.func76 rfl (Left.set (by rfl) ?_)
  have hS : tyS identS (.mk k n es) d p = (false, p + 1) := by unfold tyS; rw [if_pos hk]
  rw [hS]
  exact ⟨rfl, rfl⟩
 ·have hS := tyS_go identS k n es d p (by rw [hk]; decide)
  rw [hr] at hS
  rw [hS]
  simp only [WO, seval, hn, hi, hk, Bool.not_true, he']
  repeat' ((first | refine guardB_of (fun h => ?_) (fun h => ?_) | refine condS_of (fun h => ?_) (fun h => ?_)) <;> simp only [WO, seval, h, hn, hi, he'])
  all_goals first
   | (refine ARun.ret Tryz.func76 rfl (Left.set (by rfl) ?_)
      (try clear ih)
      (try simp only [dnw] at *)
      simp only [fnw, seval, Same] <;> simp [*]
      skip)
   | (skip
      refine callS_fn (ident_ab n _) ?_
      rintro _ _ ⟨rfl, rfl⟩
      refine ARun.go 200 ?_
      simp only [WO, seval, hn, hi]
      repeat' ((first | refine guardB_of (fun h => ?_) (fun h => ?_) | refine condS_of (fun h => ?_) (fun h => ?_)) <;> simp only [WO, seval, h, hn, hi])
      all_goals
       refine ARun.ret Tryz.func76 rfl (Left.set (by rfl) ?_)
       (try clear ih)
       (try simp only [dnw] at *)
       simp only [fnw, seval, Same] <;> simp [*]
       skip)
set_option maxHeartbeats 2000000 in
theorem typ_ab : ∀ (t : TyT) (c : Nat) (d p : Int) (B : List (List V)) (T : List (Nat × Nat)), B[c]? = some [.d (.int .i64 p)] → 0 ≤ p ∧ p ≤ 60000 → 0 ≤ d ∧ d ≤ 61 →
 AFn Tryz.prog TabI 76 [.ptr c 0, tyV t, .d (.int .i64 d)] ⟨B, T⟩ (Same (.d (.bool (tyS identS t d p).1)) ⟨B.set c [.d (.int .i64 (tyS identS t d p).2)], T⟩)
 | .mk k n [], c, d, p, B, T, h, hp, hd => typ_ab0 k n [] (by simp) c d p B T h hp
 | .mk k n (e :: e2 :: es), c, d, p, B, T, h, hp, hd => typ_ab0 k n _ (by simp) c d p B T h hp
 | .mk k n [e], c, d, p, B, T, h, hp, hd => by
  obtain ⟨N, hn⟩ : ∃ N, B.length = N := ⟨_, rfl⟩
  have hc := (List.getElem?_eq_some_iff.1 h).1
  have hi : c < N := by omega
  have hw := wrap_in (d + 1) (by omega)
  have ih := typ_ab e c (d + 1) (p + 1)
  simp only [tyV, TyT.kind, TyT.name, TyT.elem]
  refine AFn.body Tryz.func76 rfl (by kernel_rfl) ?_
  refine ARun.go 200 ?_
  simp only [Tryz.f76, WO, seval, hn, hi, tyD_eq]
  refine callS_fn (part_ab c d p _ _ (by rw [bx_old hc]; exact h) hp) ?_
  rintro _ _ ⟨rfl, rfl⟩
  refine ARun.go 200 ?_
  simp only [WO, seval, hn, hi, hw, tyD_eq]
  cases hk : partOk d p
  ·simp only [WO, seval, hn, hi, hk, Bool.not_false]
   refine ARun.ret Tryz.func76 rfl (Left.set (by rfl) ?_)
   have hS : tyS identS (.mk k n [e]) d p = (false, p + 1) := by unfold tyS; rw [if_pos hk]
   rw [hS]
   exact ⟨rfl, rfl⟩
  ·have hS := tyS_go identS k n [e] d p (by rw [hk]; decide)
   have hpo : p + 1 ≤ 60000 ∧ d ≤ 60 := by
    unfold partOk at hk
    rw [Bool.and_eq_true, decide_eq_true_iff, decide_eq_true_iff] at hk
    exact hk
   simp only [tyRest] at hS
   rw [hS]
   simp only [WO, seval, hn, hi, hk, Bool.not_true, hw, tyD_eq]
   repeat' ((first | refine guardB_of (fun h => ?_) (fun h => ?_) | refine condS_of (fun h => ?_) (fun h => ?_)) <;> simp only [WO, seval, h, hn, hi, hw, tyD_eq])
   all_goals first
    | (refine ARun.ret Tryz.func76 rfl (Left.set (by rfl) ?_)
       (try clear ih)
       (try simp only [dnw] at *)
       simp only [fnw, seval, Same] <;> simp [*]
       skip)
    | (skip
       refine callS_fn (ident_ab n _) ?_
       rintro _ _ ⟨rfl, rfl⟩
       refine ARun.go 200 ?_
       simp only [WO, seval, hn, hi]
       repeat' ((first | refine guardB_of (fun h => ?_) (fun h => ?_) | refine condS_of (fun h => ?_) (fun h => ?_)) <;> simp only [WO, seval, h, hn, hi])
       all_goals
        refine ARun.ret Tryz.func76 rfl (Left.set (by rfl) ?_)
        (try clear ih)
        (try simp only [dnw] at *)
        simp only [fnw, seval, Same] <;> simp [*]
        skip)
    | (skip
       refine callS_fn (ih _ T ?_ (by omega) (by omega)) ?_
       ·rw [bx_old (by simp; omega)]; exact bx_get hc
       rintro _ _ ⟨rfl, rfl⟩
       refine ARun.go 200 ?_
       simp only [WO, seval, hn, hi]
       repeat' ((first | refine guardB_of (fun h => ?_) (fun h => ?_) | refine condS_of (fun h => ?_) (fun h => ?_)) <;> simp only [WO, seval, h, hn, hi])
       all_goals
        refine ARun.ret Tryz.func76 rfl (Left.set (by rfl) ?_)
        (try clear ih)
        (try simp only [dnw] at *)
        simp only [fnw, seval, Same] <;> simp [*]
        skip)
set_option maxHeartbeats 4000000 in
theorem bare_ab (x : ExT) (c : Nat) (d p : Int) (B : List (List V)) (T : List (Nat × Nat)) (hB : B[c]? = some [.d (.int .i64 p)]) (hp : 0 ≤ p ∧ p ≤ 60000) (hd : 0 ≤ d ∧ d ≤ 60) :
 AFn Tryz.prog TabI 100 [.ptr c 0, exV x, .d (.int .i64 d)] ⟨B, T⟩ (Same (.d (.bool (bareS x d p).1)) ⟨B.set c [.d (.int .i64 (bareS x d p).2)], T⟩) := by
 obtain ⟨N, hn⟩ : ∃ N, B.length = N := ⟨_, rfl⟩
 have hc := (List.getElem?_eq_some_iff.1 hB).1
 have hi : c < N := by omega
 have hw := wrap_in (d + 1) (by omega)
 cases x with
 | mk k t i ty ns ks =>
 simp only [exV, ExT.kind, ExT.text, ExT.int, ExT.type, ExT.names, ExT.kids]
 refine AFn.bodyS Tryz.func100 rfl (by kernel_rfl) fun hsm => ?_
 simp only [smL, sm, exV, stV, tyV, caV, paV, suV, fuV, prV, Bool.and_eq_true, decide_eq_true_eq, and_true, true_and, List.length_map, ssD_length] at hsm
 refine ARun.go 200 ?_
 simp only [Tryz.f100, WO, seval, hn, hi]
 obtain ⟨bn, hz2⟩ : ∃ b, ∀ q : Decidable (0 < ns.length), @decide (0 < ns.length) q = b := ⟨decide (0 < ns.length), fun _ => decide_eq_decide.2 Iff.rfl⟩
 have hz : decide ((0 : Int) < (ns.length : Int)) = bn := (decide_eq_decide.2 (by omega)).trans (hz2 inferInstance)
 obtain ⟨-, -, -, hs4, -⟩ := hsm
 obtain ⟨bl, hz3⟩ : ∃ b, ∀ q : Decidable (ns.length = ks.length), @decide (ns.length = ks.length) q = b := ⟨decide (ns.length = ks.length), fun _ => decide_eq_decide.2 Iff.rfl⟩
 have hz4 : decide ((ns.length : Int) = (ks.length : Int)) = bl := (decide_eq_decide.2 (by omega)).trans (hz3 inferInstance)
 refine ARun.draw (by kernel_rfl) (by kernel_rfl) (lexQ_ok 60 _ _ ?_)
 simp only [WO, seval, hn, hi, hz]
 refine ⟨_, zero_ab ty _ _, ?_⟩
 simp only [WO, seval, hn, hi, hz]
 have hbs : B.set c [.d (.int .i64 p)] = B := by
  obtain ⟨_, h⟩ := List.getElem?_eq_some_iff.1 hB
  rw [← h, List.set_getElem_self]
 refine ARun.go 400 ?_
 simp only [WO, seval, hn, hi, hw, hz]
 repeat' ((first | refine guardB_of (fun h => ?_) (fun h => ?_) | refine condS_of (fun h => ?_) (fun h => ?_)) <;> simp only [WO, seval, h, hn, hi, hw])
 all_goals first
  | (skip
     refine callS_fn (ident_ab _ _) ?_
     rintro _ _ ⟨rfl, rfl⟩
     refine ARun.go 200 ?_
     simp only [WO, seval, hn, hi]
     repeat' ((first | refine guardB_of (fun h => ?_) (fun h => ?_) | refine condS_of (fun h => ?_) (fun h => ?_)) <;> simp only [WO, seval, h, hn, hi])
     all_goals
      refine ARun.ret Tryz.func100 rfl (Left.box ?_)
      simp only [bareS, bareT, ExT.kind, ExT.text, ExT.int, ExT.type, ExT.names, ExT.kids, hz2]
      (try clear ih)
      (try simp only [dnw] at *)
      simp only [fnw, seval, Same] <;> simp [*]
      (try exact (hz2 _).symm)
      skip)
  | (skip
     refine callS_fn (rank_ab _ _ _) ?_
     rintro _ _ ⟨rfl, rfl⟩
     refine ARun.go 200 ?_
     simp only [WO, seval, hn, hi]
     repeat' ((first | refine guardB_of (fun h => ?_) (fun h => ?_) | refine condS_of (fun h => ?_) (fun h => ?_)) <;> simp only [WO, seval, h, hn, hi])
     all_goals
      refine ARun.ret Tryz.func100 rfl (Left.box ?_)
      simp only [bareS, bareT, ExT.kind, ExT.text, ExT.int, ExT.type, ExT.names, ExT.kids, hz2]
      (try clear ih)
      (try simp only [dnw] at *)
      simp only [fnw, seval, Same] <;> simp [*]
      (try exact (hz2 _).symm)
      skip)
  | (skip
     refine ARun.draw (by kernel_rfl) (by kernel_rfl) (lexQ_ok 60 _ _ ?_)
     simp only [WO, seval, hn, hi]
     refine ARun.go 200 ?_
     simp only [WO, seval, hn, hi]
     repeat' ((first | refine guardB_of (fun h => ?_) (fun h => ?_) | refine condS_of (fun h => ?_) (fun h => ?_)) <;> simp only [WO, seval, h, hn, hi])
     all_goals
      refine ARun.ret Tryz.func100 rfl (Left.box ?_)
      simp only [bareS, bareT, ExT.kind, ExT.text, ExT.int, ExT.type, ExT.names, ExT.kids, hz2]
      (try clear ih)
      (try simp only [dnw] at *)
      simp only [fnw, seval, Same] <;> simp [*]
      (try exact (hz2 _).symm)
      skip)
  | (refine ARun.ret Tryz.func100 rfl (Left.box ?_)
     simp only [bareS, bareT, ExT.kind, ExT.text, ExT.int, ExT.type, ExT.names, ExT.kids, hz2]
     (try clear ih)
     (try simp only [dnw] at *)
     simp only [fnw, seval, Same] <;> simp [*]
     (try exact (hz2 _).symm)
     skip)
  | (refine callS_fn (typ_ab ty c (d + 1) p _ T (by rw [bx_old (by omega)]; exact hB) hp (by omega)) ?_
     rintro _ _ ⟨rfl, rfl⟩
     obtain ⟨⟨b, q⟩, hty⟩ : ∃ r, tyS identS ty (d + 1) p = r := ⟨_, rfl⟩
     simp only [WO, seval, hty]
     refine ARun.go 300 ?_
     simp only [WO, seval, hn, hi, hz4]
     repeat' ((first | refine guardB_of (fun h => ?_) (fun h => ?_) | refine condS_of (fun h => ?_) (fun h => ?_)) <;> simp only [WO, seval, h, hn, hi, hz4])
     all_goals first
      | (refine ARun.ret Tryz.func100 rfl (Left.set (by rfl) ?_)
         simp only [bareS, bareT, ExT.kind, ExT.text, ExT.int, ExT.type, ExT.names, ExT.kids, hz2, hz3, hty]
         (try clear ih)
         (try simp only [dnw] at *)
         simp only [fnw, seval, Same] <;> simp [*]
         (try exact (hz2 _).symm)
         (try (intro e; have e2 := (hz3 _).symm.trans e; simp_all))
         skip)
      | (skip
         refine callS_fn (different_ab ns hs4 _ _) ?_
         rintro _ _ ⟨rfl, rfl⟩
         refine ARun.go 300 ?_
         simp only [WO, seval, hn, hi, hz4]
         repeat' ((first | refine guardB_of (fun h => ?_) (fun h => ?_) | refine condS_of (fun h => ?_) (fun h => ?_)) <;> simp only [WO, seval, h, hn, hi, hz4])
         all_goals
          refine ARun.ret Tryz.func100 rfl (Left.set (by rfl) ?_)
          simp only [bareS, bareT, ExT.kind, ExT.text, ExT.int, ExT.type, ExT.names, ExT.kids, hz2, hz3, hty]
          (try clear ih)
          (try simp only [dnw] at *)
          simp only [fnw, seval, Same] <;> simp [*]
          (try exact (hz2 _).symm)
          (try exact (hz3 _).trans (by assumption))
          (try (intro e; have e2 := (hz3 _).symm.trans e; simp_all))
          skip))
def ExprOk (x : ExT) : Prop := ∀ (c : Nat) (d p : Int) (B : List (List V)) (T : List (Nat × Nat)), B[c]? = some [.d (.int .i64 p)] → 0 ≤ p ∧ p ≤ 60000 → 0 ≤ d ∧ d ≤ 61 →
 AFn Tryz.prog TabI 69 [.ptr c 0, exV x, .d (.int .i64 d)] ⟨B, T⟩ (Same (.d (.bool (exS x d p).1)) ⟨B.set c [.d (.int .i64 (exS x d p).2)], T⟩)
set_option maxHeartbeats 2000000 in
theorem exprs_ab (l : List ExT) (hx : ∀ x ∈ l, ExprOk x) (c : Nat) (d m p : Int) (B : List (List V)) (T : List (Nat × Nat)) (hB : B[c]? = some [.d (.int .i64 p)]) (hp : 0 ≤ p ∧ p ≤ 60000) (hd : 0 ≤ d ∧ d ≤ 61) :
 AFn Tryz.prog TabI 101 [.ptr c 0, .d (.sl (l.map exD)), .d (.int .i64 d), .d (.int .i64 m)] ⟨B, T⟩ (Same (.d (.bool ((exsS l d p).1 && decide ((l.length : Int) ≤ m)))) ⟨B.set c [.d (.int .i64 (exsS l d p).2)], T⟩) := by
 obtain ⟨N, hn⟩ : ∃ N, B.length = N := ⟨_, rfl⟩
 have hc := (List.getElem?_eq_some_iff.1 hB).1
 have hi : c < N := by omega
 have hbs : B.set c [.d (.int .i64 p)] = B := by
  obtain ⟨_, h⟩ := List.getElem?_eq_some_iff.1 hB
  rw [← h, List.set_getElem_self]
 refine AFn.bodyS Tryz.func101 rfl (by kernel_rfl) fun hsm => ?_
 simp only [smL, sm, exV, stV, tyV, caV, paV, suV, fuV, prV, Bool.and_eq_true, decide_eq_true_eq, and_true, true_and, List.length_map, ssD_length] at hsm
 refine ARun.go 100 ?_
 simp only [Tryz.f101, WO, seval, hn, hi]
 refine ARun.fits fun hf => ?_
 refine ARun.loopB (fun a : Nat × Int => (envOf 30 [(0, .ptr c 0), (1, .d (.sl (l.map exD))), (2, .d (.int .i64 d)), (3, .d (.int .i64 m)), (8, .d (.bool false)), (9, .func 69 [.ptr c 0] []), (14, .d (.sl (l.map exD))), (15, .d (.int .i64 l.length)), (16, .d (.int .i64 a.1))], ⟨B.set c [.d (.int .i64 a.2)], T⟩)) (fun a => a.1 ≤ l.length ∧ (0 ≤ a.2 ∧ a.2 ≤ 60000) ∧ exsS l d p = exsS (l.drop a.1) d a.2) (fun a => l.length - a.1) (0, p) ⟨by omega, hp, rfl⟩ ?_ (by rw [hbs]) ?_
 ·simp only [envOf, List.replicate_succ, List.replicate_zero, List.foldl_cons, List.foldl_nil, List.set_cons_zero, List.set_cons_succ, EnvW, eq_self, or_true, true_or, and_self, Int.natCast_add, Int.natCast_one, Int.natCast_zero]
 rintro ⟨i, q⟩ ⟨h1, h2, h3⟩ ih
 dsimp only at h1 h2 h3 ih ⊢
 by_cases hlt : i < l.length
 ·have hw := wrap_in ((i : Int) + 1) (by omega)
  have hg := List.getElem?_eq_getElem hlt
  rw [exsS_step l i hlt] at h3
  have hlt' : decide ((i : Int) < (l.length : Int)) = true := decide_eq_true (by omega)
  refine ARun.go 100 ?_
  simp only [WO, seval, hn, hi, List.getElem?_map, hg, hlt', exD_eq]
  refine callS_of (hx l[i] (List.getElem_mem hlt) c d q _ T (by rw [bx_old (by simp; omega)]; exact bx_get hc) h2 hd) ?_
  rintro _ _ ⟨rfl, rfl⟩
  have hok := exS_ok l[i] d q
  obtain ⟨⟨b, r⟩, he⟩ : ∃ r, exS l[i] d q = r := ⟨_, rfl⟩
  rw [he] at h3 hok
  dsimp only at hok
  refine ARun.go 100 ?_
  simp only [WO, seval, hn, hi, he]
  cases b
  ·simp only [WO, seval, hn, hi]
   refine ARun.ret Tryz.func101 rfl (Left.set (by rfl) ?_)
   rw [h3, if_pos rfl]
   exact ⟨rfl, rfl⟩
  ·have hok := hok rfl
   simp only [WO, seval, hn, hi, hw]
   refine ih (i + 1, r) ⟨hlt, by dsimp only; omega, by rw [h3]; rfl⟩ (by dsimp only; omega) _ _ _ _ rfl ⟨by simp; omega, Nat.le_refl _⟩ (hf.set rfl) ?_
   simp only [envOf, List.replicate_succ, List.replicate_zero, List.foldl_cons, List.foldl_nil, List.set_cons_zero, List.set_cons_succ, EnvLe, fit, fitL, eq_self, or_true, true_or, and_self, true_and, and_true, Bool.and_true, Bool.true_and, Bool.and_self, decide_true, List.length_set, Int.natCast_add, Int.natCast_one, Int.natCast_zero, hn, hi]
 ·have hlt' : decide ((i : Int) < (l.length : Int)) = false := decide_eq_false (by omega)
  refine ARun.go 100 ?_
  simp only [WO, seval, hlt']
  refine ARun.ret Tryz.func101 rfl (Left.set0 rfl ?_)
  rw [List.drop_eq_nil_of_le (by omega), exsS] at h3
  rw [h3]
  exact ⟨rfl, rfl⟩
theorem partOk_in {d p : Int} (h : partOk d p = true) : p + 1 ≤ 60000 ∧ d ≤ 60 := by
 unfold partOk at h
 rw [Bool.and_eq_true, decide_eq_true_iff, decide_eq_true_iff] at h
 exact h
set_option maxHeartbeats 4000000 in
theorem expr_step (k : Int) (t : List UInt8) (i : Int) (ty : TyT) (ns : List (List UInt8)) (ks : List ExT) (hx : ∀ x ∈ ks, ExprOk x) : ExprOk (.mk k t i ty ns ks) := by
 intro c d p B T hB hp hd
 obtain ⟨N, hn⟩ : ∃ N, B.length = N := ⟨_, rfl⟩
 have hc := (List.getElem?_eq_some_iff.1 hB).1
 have hi : c < N := by omega
 have hw := wrap_in (d + 1) (by omega)
 obtain ⟨mo, hmo⟩ : ∃ m, manyS k = m := ⟨_, rfl⟩
 have hS : exS (.mk k t i ty ns ks) d p = if partOk d p = false then (false, p + 1)
  else if mostS k < (ks.length : Int) ∨ mo = -2 ∨ (0 ≤ mo ∧ (ks.length : Int) ≠ mo) then (false, p + 1)
  else if (bareS (.mk k t i ty ns ks) d (p + 1)).1 = false then (false, (bareS (.mk k t i ty ns ks) d (p + 1)).2)
  else exsS ks (d + 1) (bareS (.mk k t i ty ns ks) d (p + 1)).2 := by rw [exS, hmo]
 have hpart := part_ab c d p (B ++ [[.d (.int .i64 k), .d (.str t), .d (.int .u64 i), .d (.int .i64 ty.kind), .d (.str ty.name), .d (.sl (ty.elem.map tyD)), .d (.sl (ssD ns)), .d (.sl (ks.map exD))]]) T (by rw [bx_old hc]; exact hB) hp
 have hbare := bare_ab (.mk k t i ty ns ks) c d (p + 1)
 simp only [exV, ExT.kind, ExT.text, ExT.int, ExT.type, ExT.names, ExT.kids] at hbare ⊢
 refine AFn.body Tryz.func69 rfl (by kernel_rfl) ?_
 refine ARun.go 100 ?_
 simp only [Tryz.f69, WO, seval, hn, hi]
 refine callS_fn (many_ab k _ _) ?_
 rintro _ _ ⟨rfl, rfl⟩
 refine ARun.go 100 ?_
 simp only [WO, seval, hn, hi, hmo]
 refine condS_of (fun h15 => ?_) (fun h15 => ?_)
 all_goals
  have hmost : mostS k = if k = 15 then 30000 else 40 := rfl
  simp only [WO, seval, h15, hn, hi, hmo]
  refine callS_fn hpart ?_
  rintro _ _ ⟨rfl, rfl⟩
  first
   | have hm : mostS k = 30000 := if_pos (of_decide_eq_true h15)
   | have hm : mostS k = 40 := if_neg (of_decide_eq_false h15)
  cases hk : partOk d p
  ·rw [if_pos hk] at hS
   refine ARun.go 200 ?_
   simp only [WO, seval, hn, hi, hmo, hw, hk]
   refine ARun.ret Tryz.func69 rfl (Left.set (by rfl) ?_)
   rw [hS]
   exact ⟨rfl, rfl⟩
  ·rw [if_neg (by rw [hk]; decide), hm] at hS
   have hpo := partOk_in hk
   have hbare := hbare (B.set c [.d (.int .i64 (p + 1))] ++ [[.d (.int .i64 k), .d (.str t), .d (.int .u64 i), .d (.int .i64 ty.kind), .d (.str ty.name), .d (.sl (ty.elem.map tyD)), .d (.sl (ssD ns)), .d (.sl (ks.map exD))]]) T (by rw [bx_old (by simp; omega)]; exact bx_get hc) ⟨by omega, by omega⟩ ⟨by omega, by omega⟩
   have hbo := bareS_ok (.mk k t i ty ns ks) d (p + 1) hpo.1
   obtain ⟨⟨bb, bq⟩, hb⟩ : ∃ r, bareS (.mk k t i ty ns ks) d (p + 1) = r := ⟨_, rfl⟩
   rw [hb] at hbare hS hbo
   dsimp only at hbo
   refine ARun.go 200 ?_
   simp only [WO, seval, hn, hi, hmo, hw, hk]
   repeat' ((first | refine guardB_of (fun h => ?_) (fun h => ?_) | refine condS_of (fun h => ?_) (fun h => ?_)) <;> simp only [WO, seval, h, hn, hi, hmo, hw])
   all_goals first
    | (refine ARun.ret Tryz.func69 rfl (Left.set (by rfl) ?_)
       rw [hS]
       clear hS hbare
       (try clear ih)
       (try simp only [dnw] at *)
       simp only [fnw, seval, Same] <;> simp [*]
       skip)
    | (rw [if_neg (by (simp only [decide_eq_true_eq, decide_eq_false_iff_not, Bool.not_eq_false', Bool.not_eq_true'] at *); omega)] at hS
       refine callS_fn hbare ?_
       rintro _ _ ⟨rfl, rfl⟩
       refine ARun.go 200 ?_
       simp only [WO, seval, hn, hi, hmo, hw]
       cases bb
       ·simp only [WO, seval, hn, hi, hmo, hw]
        refine ARun.ret Tryz.func69 rfl (Left.set (by rfl) ?_)
        rw [hS, if_pos rfl]
        exact ⟨rfl, rfl⟩
       ·have hbo := hbo rfl
        simp only [WO, seval, hn, hi, hmo, hw]
        refine callS_fn (exprs_ab ks hx c (d + 1) _ bq _ T (by rw [bx_old (by simp; omega)]; exact bx_get hc) (by omega) (by omega)) ?_
        rintro _ _ ⟨rfl, rfl⟩
        refine ARun.go 200 ?_
        simp only [WO, seval, hn, hi, hmo, hw]
        refine ARun.ret Tryz.func69 rfl (Left.set (by rfl) ?_)
        rw [hS, if_neg (by simp)]
        refine ⟨?_, rfl⟩
        have hlen : ∀ m : Int, decide (m < (ks.length : Int)) = false → decide ((ks.length : Int) ≤ m) = true := fun m h => decide_eq_true (by have := of_decide_eq_false h; omega)
        have hl1 := hlen _ (by assumption)
        show V.d (D.bool ((exsS ks (d + 1) bq).1 && decide _)) = _
        rw [hl1, Bool.and_true])
mutual
theorem expr_ab : ∀ x : ExT, ExprOk x
 | .mk k t i ty ns ks => expr_step k t i ty ns ks (expr_all ks)
theorem expr_all : ∀ (ks : List ExT), ∀ x ∈ ks, ExprOk x
 | [], _, h => absurd h List.not_mem_nil
 | y :: l, x, h => by
  rcases List.mem_cons.1 h with e | e
  ·rw [e]; exact expr_ab y
  ·exact expr_all l x e
end
def c112 := by
 have c := KK_of Tryz.f112 (by conv => lhs; cbv)
 dsimp only [KK, KxP, doO, opO, List.map_cons, List.map_nil, List.toList_toArray] at c
 exact c
theorem b112 : FnIs Tryz.prog 112 Tryz.f112 10 := ⟨Tryz.func112, by kernel_rfl⟩
def c83 := by
 have c := KK_of Tryz.f83 (by conv => lhs; cbv)
 dsimp only [KK, KxP, doO, opO, List.map_cons, List.map_nil, List.toList_toArray] at c
 exact c
theorem b83 : FnIs Tryz.prog 83 Tryz.f83 11 := ⟨Tryz.func83, by kernel_rfl⟩
def c143 := by
 have c := KK_of Tryz.f143 (by conv => lhs; cbv)
 dsimp only [KK, KxP, doO, opO, List.map_cons, List.map_nil, List.toList_toArray] at c
 exact c
theorem b143 : FnIs Tryz.prog 143 Tryz.f143 9 := ⟨Tryz.func143, by kernel_rfl⟩
def StmtOk (n : Nat) (s : StT) : Prop := ∀ (c : Nat) (d p : Int) (B : List (List V)) (T : List (Nat × Nat)), B[c]? = some [.d (.int .i64 p)] → 0 ≤ p ∧ p ≤ 60000 → 0 ≤ d ∧ d ≤ 62 →
 AFn Tryz.prog TabI 113 [.ptr c 0, stV s, .d (.int .i64 d)] ⟨B, T⟩ (Same (.d (.bool (stS n s d p).1)) ⟨B.set c [.d (.int .i64 (stS n s d p).2)], T⟩)
set_option maxHeartbeats 1000000 in
theorem stmts1_ab (n : Nat) (x : StT) (h : StmtOk n x) (a b c : Nat) (d p : Int) (B : List (List V)) (T : List (Nat × Nat)) (hB : B[c]? = some [.d (.int .i64 p)]) (ha : B[a]? = some [.ptr c 0]) (hb : B[b]? = some [.d (.int .i64 d)]) (hp : 0 ≤ p ∧ p ≤ 60000) (hd : 0 ≤ d ∧ d ≤ 62) :
 AFn Tryz.prog TabI 112 [stV x, .ptr a 0, .ptr b 0] ⟨B, T⟩ (Same (.d (.bool (!(stS n x d p).1))) ⟨B.set c [.d (.int .i64 (stS n x d p).2)], T⟩) := by
 obtain ⟨N, hn⟩ : ∃ N, B.length = N := ⟨_, rfl⟩
 have hc := (List.getElem?_eq_some_iff.1 hB).1
 have hi : c < N := by omega
 have hia : a < N := by have := (List.getElem?_eq_some_iff.1 ha).1; omega
 have hib : b < N := by have := (List.getElem?_eq_some_iff.1 hb).1; omega
 have h := h c d p (B ++ [stB x]) T (by rw [bx_old hc]; exact hB) hp hd
 unfold stV at h ⊢
 simp only [stB] at h
 refine b112.go 100 rfl fun hsm => ?_
 simp only [smw] at hsm
 simp only [W, seval, c112, hn, hi, hia, hib, ha, hb]
 refine callS_fn (h) ?_
 rintro _ _ ⟨rfl, rfl⟩
 refine ARun.go 100 ?_
 simp only [W, seval, c112, hn, hi, hia, hib, ha, hb]
 refine ARun.ret Tryz.func112 rfl (Left.set (by rfl) ?_)
 (try clear ih)
 (try simp only [dnw] at *)
 simp only [fnw, seval, Same] <;> simp [*]
 skip
theorem anyF_row {α : Type} (g : α → Int → Bool × Int) : ∀ (l : List α) (p : Int), anyF (fun x q => (!(g x q).1, (g x q).2)) l p = (!(rowS g l p).1, (rowS g l p).2)
 | [], p => rfl
 | x :: l, p => by
  rw [anyF]
  show _ = (!(andS (g x) (rowS g l) p).1, (andS (g x) (rowS g l) p).2)
  unfold andS
  cases h : (g x p).1
  ·simp
  ·simp [anyF_row g l]
theorem st_good (n : Nat) (a b c : Nat) (d : Int) (B X : List (List V)) (T : List (Nat × Nat)) (hd : 0 ≤ d ∧ d ≤ 62) (hc : c < B.length) (ha : ∀ q : Int, (B.set c [.d (.int .i64 q)] ++ X)[a]? = some [.ptr c 0]) (hb : ∀ q : Int, (B.set c [.d (.int .i64 q)] ++ X)[b]? = some [.d (.int .i64 d)]) :
 ∀ (l : List StT) (q : Int), (∀ x ∈ l, StmtOk n x) → 0 ≤ q ∧ q ≤ 60000 → Good Tryz.prog TabI 112 [] [.ptr a 0, .ptr b 0] stV (fun q : Int => ⟨B.set c [.d (.int .i64 q)] ++ X, T⟩) (fun x q => (!(stS n x d q).1, (stS n x d q).2)) l q
 | [], _, _, _ => trivial
 | x :: l, q, hl, hq => by
  have hx := hl x List.mem_cons_self
  have hcx : c < (B.set c [.d (.int .i64 q)]).length := by simpa using hc
  refine ⟨?_, fun h => ?_⟩
  ·have := stmts1_ab n x hx a b c d q (B.set c [.d (.int .i64 q)] ++ X) T (by rw [bx_old hcx]; exact bx_get hc) (ha q) (hb q) hq hd
   rw [bx_set_old hcx, List.set_set] at this
   exact this
  ·have h : (stS n x d q).1 = true := by simpa using h
   have h1 := (Cnts.st n x d).up q h
   have h2 := Bnds.st n x d q hq.2 h
   exact st_good n a b c d B X T hd hc ha hb l _ (fun y hy => hl y (List.mem_cons_of_mem _ hy)) ⟨Int.le_trans hq.1 h1, h2⟩
set_option maxHeartbeats 1000000 in
theorem stmts_ab (n : Nat) (l : List StT) (hl : ∀ x ∈ l, StmtOk n x) (c : Nat) (d p : Int) (B : List (List V)) (T : List (Nat × Nat)) (hB : B[c]? = some [.d (.int .i64 p)]) (hp : 0 ≤ p ∧ p ≤ 60000) (hd : 0 ≤ d ∧ d ≤ 62) :
 AFn Tryz.prog TabI 83 [.ptr c 0, .d (.sl (l.map stD)), .d (.int .i64 d)] ⟨B, T⟩ (Same (.d (.bool (rowS (fun s => stS n s d) l p).1)) ⟨B.set c [.d (.int .i64 (rowS (fun s => stS n s d) l p).2)], T⟩) := by
 obtain ⟨N, hn⟩ : ∃ N, B.length = N := ⟨_, rfl⟩
 have hc := (List.getElem?_eq_some_iff.1 hB).1
 have hi : c < N := by omega
 have hbs : B.set c [.d (.int .i64 p)] = B := by
  obtain ⟨_, h⟩ := List.getElem?_eq_some_iff.1 hB
  rw [← h, List.set_getElem_self]
 refine b83.go 100 rfl fun hsm => ?_
 simp only [smw] at hsm
 simp only [W, seval, c83, hn, hi]
 have hg := st_good n N (N + 1) c d B [[.ptr c 0], [.d (.int .i64 d)]] T hd hc (fun q => by rw [bx_loc0 (by simpa using hn)]; rfl) (fun q => by rw [bx_loc (by simpa using hn)]; rfl) l p hl hp
 have hcf := containsFunc_Stmt 112 [] [.ptr N 0, .ptr (N + 1) 0] (fun q : Int => ⟨B.set c [.d (.int .i64 q)] ++ [[.ptr c 0], [.d (.int .i64 d)]], T⟩) (fun x q => (!(stS n x d q).1, (stS n x d q).2)) (fun _ _ => ⟨by simp, rfl⟩) l (by first | exact hsm | exact hsm.1) p hg
 rw [anyF_row (fun x => stS n x d), hbs] at hcf
 refine callS_fn hcf ?_
 rintro _ _ ⟨rfl, rfl⟩
 refine ARun.go 100 ?_
 simp only [W, seval, c83, hn, hi, Bool.not_not]
 refine ARun.ret Tryz.func83 rfl (Left.set (by rfl) ?_)
 (try clear ih)
 (try simp only [dnw] at *)
 simp only [fnw, seval, Same] <;> simp [*]
 skip
set_option maxHeartbeats 1000000 in
theorem stmt1_ab (x y : CaT) (b : Nat) (bv : V) (B : List (List V)) (T : List (Nat × Nat)) (hb : B[b]? = some [.d (.int .u64 x.int), bv]) :
 AFn Tryz.prog TabI 143 [caV y, .ptr b 0] ⟨B, T⟩ (Same (.d (.bool (decide (y.int = x.int)))) ⟨B, T⟩) := by
 obtain ⟨N, hn⟩ : ∃ N, B.length = N := ⟨_, rfl⟩
 have hib : b < N := by have := (List.getElem?_eq_some_iff.1 hb).1; omega
 unfold caV
 refine b143.go 100 rfl fun hsm => ?_
 simp only [smw] at hsm
 simp only [W, seval, c143, hn, hib, hb]
 refine ARun.ret Tryz.func143 rfl (Left.box ?_)
 (try clear ih)
 (try simp only [dnw] at *)
 simp only [fnw, seval, Same] <;> simp [*]
 skip
theorem case_seen (x : CaT) : ∀ l : List CaT, l.any (fun y => decide (y.int = x.int)) = (l.map CaT.int).contains x.int
 | [] => rfl
 | y :: l => by
  rw [List.any_cons, case_seen x l, List.map_cons, List.contains_cons]
  congr 1
  rw [Bool.eq_iff_iff, decide_eq_true_iff, beq_iff_eq]
  exact eq_comm
def c113 := by
 have c := KK_of Tryz.f113 (by conv => lhs; cbv)
 dsimp only [KK, KxP, doO, opO, List.map_cons, List.map_nil, List.toList_toArray] at c
 exact c
theorem b113 : FnIs Tryz.prog 113 Tryz.f113 97 := ⟨Tryz.func113, by kernel_rfl⟩
theorem andS_no {f g : Int → Bool × Int} {p : Int} (h : (f p).1 = false) : andS f g p = (false, (f p).2) := if_pos h
theorem andS_yes {f g : Int → Bool × Int} {p : Int} (h : (f p).1 = true) : andS f g p = g (f p).2 := if_neg (by rw [h]; simp)
theorem andS_assoc (f g k : Int → Bool × Int) (p : Int) : andS (andS f g) k p = andS f (andS g k) p := by
 cases h : (f p).1
 ·have e : andS f g p = (false, (f p).2) := andS_no h
  rw [andS_no h, andS_no (by rw [e]), e]
 ·have e : andS f g p = g (f p).2 := andS_yes h
  rw [andS_yes h]
  unfold andS at e ⊢
  rw [e]
def lastS (n : Nat) (s : StT) (d : Int) : Int → Bool × Int := andS (exs40 s.lefts (d + 1)) (andS (exs40 s.exprs (d + 1)) (andS (rowS (fun x => stS n x (d + 1)) s.body) (rowS (fun x => stS n x (d + 1)) s.els)))
theorem stS_eq (n : Nat) (s : StT) (d p : Int) : stS (n + 1) s d p = andS (partS d) (andS (allowS (sizedS s && decide (s.cases.length ≤ 40))) (andS (if s.kind = 1 then fun p => tyS identS s.type (d + 1) p else allowS true) (andS (casS (stS n) d [] s.cases) (lastS n s d)))) p := rfl
theorem casS_cons (R : StT → Int → Int → Bool × Int) (d : Int) (seen : List Int) (k : CaT) (l : List CaT) : casS R d seen (k :: l) = andS (partS (d + 1)) (andS (allowS (!seen.contains k.int)) (andS (rowS (fun s => R s (d + 2)) k.body) (casS R d (seen ++ [k.int]) l))) := rfl
theorem app2 {α : Type} (A : List α) (a b : α) : A ++ [a, b] = (A ++ [a]) ++ [b] := by simp
theorem exs40_eq (l : List ExT) (d p : Int) : exs40 l d p = ((exsS l d p).1 && decide ((l.length : Int) ≤ 40), (exsS l d p).2) := by
 have e : decide ((l.length : Int) ≤ 40) = decide (l.length ≤ 40) := decide_eq_decide.2 (by omega)
 rw [e]
 unfold exs40
 cases h : (exsS l d p).1
 ·rw [andS_no h, Bool.false_and]
 ·rw [andS_yes h, Bool.true_and]
  rfl
set_option maxHeartbeats 8000000 in
theorem stmt_step (n : Nat) (s : StT) (hsb : ∀ x ∈ s.body, StmtOk n x) (hse : ∀ x ∈ s.els, StmtOk n x) (hsc : ∀ k ∈ s.cases, ∀ x ∈ k.body, StmtOk n x) : StmtOk (n + 1) s := by
 intro c d p B T hB hp hd
 obtain ⟨N, hn⟩ : ∃ N, B.length = N := ⟨_, rfl⟩
 have hc := (List.getElem?_eq_some_iff.1 hB).1
 have hi : c < N := by omega
 have hi1 : c < N + 1 := by omega
 have hN1 : N < N + 1 := by omega
 have hw1 := wrap_in (d + 1) (by omega)
 have hw2 := wrap_in (d + 2) (by omega)
 generalize hres : stS (n + 1) s d p = res
 rw [stS_eq] at hres
 have hpart := part_ab c d p (B ++ [stB s]) T (by rw [bx_old hc]; exact hB) hp
 have hsz := fun q : Int => sized_ab s (B.set c [.d (.int .i64 q)] ++ [stB s]) T
 unfold stV at hsz ⊢
 simp only [stB] at hpart hsz
 refine b113.go 6 rfl fun hsm => ?_
 simp only [smw] at hsm
 simp only [W, seval, c113, hn, hi]
 refine ARun.join (fun _ : Unit => (envS 97 [(0, .ptr c 0), (2, .d (.int .i64 d)), (4, .ptr N 0)], ⟨B.set c [.d (.int .i64 (p + 1))] ++ [stB s], T⟩)) (fun _ => partOk d p = true ∧ sizedS s = true ∧ s.cases.length ≤ 40) ?_ ?_
 rotate_left
 ·intro K' hK
  refine ARun.goJ 200 ?_
  simp only [W, seval, c113, hn, hi]
  refine callS_fn hpart ?_
  rintro _ _ ⟨rfl, rfl⟩
  refine ARun.goK 200 ?_
  simp only [W, seval, c113, hn, hi]
  cases hk : partOk d p
  ·rw [andS_no (show (partS d p).1 = false from hk)] at hres
   simp only [W, seval, c113, hk, hn, hi]
   refine ARun.ret Tryz.func113 rfl (Left.set (by rfl) ?_)
   rw [← hres]
   (try clear ih)
   (try simp only [dnw] at *)
   simp only [fnw, seval, Same] <;> simp [*]
   rfl
  ·have hpo := partOk_in hk
   rw [andS_yes (show (partS d p).1 = true from hk)] at hres
   simp only [W, seval, c113, hk, hn, hi]
   refine callS_fn (hsz (p + 1)) ?_
   rintro _ _ ⟨rfl, rfl⟩
   refine ARun.goK 200 ?_
   simp only [W, seval, c113, hn, hi]
   cases hz : sizedS s
   ·rw [andS_no (by rw [hz]; rfl)] at hres
    simp only [W, seval, c113, hk, hn, hi]
    refine ARun.ret Tryz.func113 rfl (Left.set (by rfl) ?_)
    rw [← hres]
    (try clear ih)
    (try simp only [dnw] at *)
    simp only [fnw, seval, Same] <;> simp [*]
    rfl
   ·simp only [W, seval, c113, hk, hn, hi]
    refine condS_of (fun h40 => ?_) (fun h40 => ?_)
    ·rw [andS_no (by rw [hz, decide_eq_false (by have := of_decide_eq_true h40; omega)]; rfl)] at hres
     simp only [W, seval, c113, hk, hn, hi]
     refine ARun.ret Tryz.func113 rfl (Left.set (by rfl) ?_)
     rw [← hres]
     (try clear ih)
     (try simp only [dnw] at *)
     simp only [fnw, seval, Same] <;> simp [*]
     rfl
    ·simp only [W, seval, c113, hk, hn, hi]
     refine hK () ⟨hk, hz, by have := of_decide_eq_false h40; omega⟩ _ _ ?_ rfl
     refine Agree.env _ ?_
     simp only [agw, seval, hn]
 ·rintro ⟨⟩ ⟨hk, hz, hcl⟩
  have hpo := partOk_in hk
  rw [andS_yes (show (partS d p).1 = true from hk), andS_yes (by simp [allowS, hz, hcl])] at hres
  change andS _ _ (p + 1) = res at hres
  clear hpart hsz
  dsimp only [stB]
  refine ARun.go 1 ?_
  simp only [W, seval, c113]
  refine ARun.join (fun q : Int => (envS 97 [(0, .ptr c 0), (2, .d (.int .i64 d)), (4, .ptr N 0)], ⟨B.set c [.d (.int .i64 q)] ++ [stB s], T⟩)) (fun q => (0 ≤ q ∧ q ≤ 60000) ∧ andS (casS (stS n) d [] s.cases) (lastS n s d) q = res) ?_ ?_
  rotate_left
  ·intro K' hK
   by_cases k1 : s.kind = 1
   ·rw [if_pos k1] at hres
    have e1 := decide_eq_true k1
    refine ARun.goJ 200 ?_
    simp only [W, seval, c113, hn, hi, hw1, e1]
    refine callS_fn (typ_ab s.type c (d + 1) (p + 1) _ T (by rw [bx_old (by simp; omega)]; exact bx_get hc) ⟨by omega, by omega⟩ ⟨by omega, by omega⟩) ?_
    rintro _ _ ⟨rfl, rfl⟩
    have hok := tyS_ok identS s.type (d + 1) (p + 1)
    obtain ⟨⟨b, q⟩, hty⟩ : ∃ r, tyS identS s.type (d + 1) (p + 1) = r := ⟨_, rfl⟩
    rw [hty] at hok
    refine ARun.goK 200 ?_
    simp only [W, seval, c113, hn, hi, hty]
    cases b
    ·rw [andS_no (by rw [hty]), hty] at hres
     simp only [W, seval, c113, hn, hi]
     refine ARun.ret Tryz.func113 rfl (Left.set (by rfl) ?_)
     rw [← hres]
     (try clear ih)
     (try simp only [dnw] at *)
     simp only [fnw, seval, Same] <;> simp [*]
     skip
    ·rw [andS_yes (by rw [hty]), hty] at hres
     have hok := hok rfl
     simp only [W, seval, c113, hn, hi]
     refine hK q ⟨⟨by omega, hok.2⟩, hres⟩ _ _ ?_ rfl
     refine Agree.env _ ?_
     simp only [agw, seval, hn]
   ·rw [if_neg k1, andS_yes rfl] at hres
    have e1 := decide_eq_false k1
    refine ARun.goJ 200 ?_
    simp only [W, seval, c113, hn, hi, hw1, e1]
    refine hK (p + 1) ⟨⟨by omega, hpo.1⟩, hres⟩ _ _ ?_ rfl
    refine Agree.env _ ?_
    simp only [agw, seval, hn]
  ·rintro q ⟨hq, hres2⟩
   clear hres
   dsimp only [stB]
   refine ARun.go 20 ?_
   simp only [W, seval, c113, hn, hi]
   refine ARun.fits fun hf => ?_
   have hf2 : ∀ q' : Int, Fits ⟨B.set c [.d (.int .i64 q')] ++ [[.d (.int .i64 s.kind), .d (.sl (ssD s.names)), .d (.int .i64 s.type.kind), .d (.str s.type.name), .d (.sl (s.type.elem.map tyD)), .d (.sl (s.lefts.map exD)), .d (.sl (s.exprs.map exD)), .d (.sl (s.body.map stD)), .d (.sl (s.els.map stD)), .d (.sl (s.cases.map caD))]], T⟩ := fun q' => by
    have := hf.set (i := c) (vs := [.d (.int .i64 q')]) rfl
    rwa [bx_set_old (by simp; omega), List.set_set] at this
   refine ARun.small fun hsm2 => ?_
   have hcl2 : (s.cases.length : Int) ≤ 40 := by omega
   clear hsm2
   refine ARun.loopB (fun a : Nat × Int => (envS 97 [(0, .ptr c 0), (2, .d (.int .i64 d)), (4, .ptr N 0), (37, .d (.sl (s.cases.map caD))), (38, .d (.int .i64 s.cases.length)), (39, .d (.int .i64 a.1))], ⟨B.set c [.d (.int .i64 a.2)] ++ [[.d (.int .i64 s.kind), .d (.sl (ssD s.names)), .d (.int .i64 s.type.kind), .d (.str s.type.name), .d (.sl (s.type.elem.map tyD)), .d (.sl (s.lefts.map exD)), .d (.sl (s.exprs.map exD)), .d (.sl (s.body.map stD)), .d (.sl (s.els.map stD)), .d (.sl (s.cases.map caD))]], T⟩)) (fun a => a.1 ≤ s.cases.length ∧ (0 ≤ a.2 ∧ a.2 ≤ 60000) ∧ andS (casS (stS n) d ((s.cases.take a.1).map CaT.int) (s.cases.drop a.1)) (lastS n s d) a.2 = res) (fun a => s.cases.length - a.1) (0, q) ⟨by omega, hq, hres2⟩ ?_ rfl ?_
   ·skip
    refine Agree.env _ ?_
    simp only [agw, seval, hn]
   rintro ⟨i, r⟩ ⟨h1, h2, h3⟩ ih
   dsimp only at h1 h2 h3 ih ⊢
   by_cases hlt : i < s.cases.length
   ·have hw := wrap_in ((i : Int) + 1) (by omega)
    have hg := List.getElem?_eq_getElem hlt
    have hlt' : decide ((i : Int) < (s.cases.length : Int)) = true := decide_eq_true (by omega)
    have hle : (i : Int) ≤ (s.cases.length : Int) := by omega
    have hle' : decide ((i : Int) ≤ (s.cases.length : Int)) = true := decide_eq_true hle
    rw [drop_get hlt, casS_cons, andS_assoc] at h3
    obtain ⟨x, hx⟩ : ∃ x, s.cases[i] = x := ⟨_, rfl⟩
    rw [hx] at hg h3
    have hmt : (s.cases.map caD).take i = (s.cases.take i).map caD := (List.map_take).symm
    have hpart := part_ab c (d + 1) r
    refine ARun.go 200 ?_
    simp only [W, seval, c113, hn, hi, hw1, List.getElem?_map, hg, hlt', caD_eq]
    refine callS_fn (hpart _ T (by rw [bx_old (by simp; omega)]; exact bx_get hc) h2) ?_
    rintro _ _ ⟨rfl, rfl⟩
    refine ARun.go 200 ?_
    simp only [W, seval, c113, hn, hi, hw1]
    cases hk2 : partOk (d + 1) r
    ·rw [andS_no (show (partS (d + 1) r).1 = false from hk2)] at h3
     simp only [W, seval, c113, hn, hi, hk2]
     refine ARun.ret Tryz.func113 rfl (Left.set (by rfl) ?_)
     rw [← h3]
     (try clear ih)
     (try simp only [dnw] at *)
     simp only [fnw, seval, Same] <;> simp [*]
     rfl
    ·have hpo2 := partOk_in hk2
     rw [andS_yes (show (partS (d + 1) r).1 = true from hk2), andS_assoc] at h3
     change andS _ _ (r + 1) = res at h3
     simp only [W, seval, c113, hn, hi, hk2, hle, hle', hmt]
     have hcf := fun S => containsFunc_Case 143 [] [.ptr (N + 1) 0] (fun _ : Unit => S) (fun y s => (decide (y.int = x.int), s)) (fun _ _ => ⟨rfl, rfl⟩) (s.cases.take i) (by simp; omega) ()
     refine callS_fn (hcf _ (good_of (s.cases.take i) fun y _ => stmt1_ab x y (N + 1) _ _ T (by rw [bx_loc (by simpa using hn)]; rfl))) ?_
     rintro _ _ ⟨rfl, rfl⟩
     rw [anyF_unit, case_seen]
     refine ARun.go 200 ?_
     simp only [W, seval, c113, hn, hi, hw2]
     cases hcs : ((s.cases.take i).map CaT.int).contains x.int
     ·rw [andS_yes (by rw [hcs]; rfl), andS_assoc] at h3
      change andS _ _ (r + 1) = res at h3
      simp only [W, seval, c113, hn, hi, hcs, hw2]
      refine callS_fn (stmts_ab n x.body (hsc x (by rw [← hx]; exact List.getElem_mem hlt)) c (d + 2) (r + 1) _ T (by rw [bx_old (by simp; omega)]; exact bx_get hc) ⟨by omega, hpo2.1⟩ ⟨by omega, by omega⟩) ?_
      rintro _ _ ⟨rfl, rfl⟩
      have hup := (Cnts.row (f := fun s => stS n s (d + 2)) (c := stC n) x.body fun y _ => Cnts.st n y (d + 2)).up (r + 1)
      have hbn := Bnds.row (f := fun s => stS n s (d + 2)) (fun y => Bnds.st n y (d + 2)) x.body (r + 1) hpo2.1
      obtain ⟨⟨b, q2⟩, hrow⟩ : ∃ z, rowS (fun s => stS n s (d + 2)) x.body (r + 1) = z := ⟨_, rfl⟩
      rw [hrow] at hup hbn
      refine ARun.go 200 ?_
      simp only [W, seval, c113, hn, hi, hrow]
      cases b
      ·rw [andS_no (by rw [hrow]), hrow] at h3
       simp only [W, seval, c113, hn, hi]
       refine ARun.ret Tryz.func113 rfl (Left.set (by rfl) ?_)
       rw [← h3]
       (try clear ih)
       (try simp only [dnw] at *)
       simp only [fnw, seval, Same] <;> simp [*]
       skip
      ·rw [andS_yes (by rw [hrow]), hrow] at h3
       have hup := hup rfl
       have hbn := hbn rfl
       simp only [W, seval, c113, hn, hi, hw]
       have hstep : (s.cases.take (i + 1)).map CaT.int = (s.cases.take i).map CaT.int ++ [x.int] := by
        rw [List.take_succ_eq_append_getElem hlt, List.map_append, hx]
        rfl
       rw [app2]
       refine ih (i + 1, q2) ⟨hlt, ⟨by dsimp only; omega, hbn⟩, ?_⟩ (by dsimp only; omega) _ _ _ _ rfl ⟨by simp; omega, Nat.le_refl _⟩ (hf2 q2) ?_
       ·dsimp only
        rw [hstep]
        exact h3
       ·skip
        refine AgreeF.env _ ?_
        simp only [agf, seval, hn, List.length_append, List.length_cons, List.length_nil, Nat.zero_add, hi1, hN1]
     ·rw [andS_no (by rw [hcs]; rfl)] at h3
      simp only [W, seval, c113, hn, hi, hcs]
      refine ARun.ret Tryz.func113 rfl (Left.set (by rfl) ?_)
      rw [← h3]
      (try clear ih)
      (try simp only [dnw] at *)
      simp only [fnw, seval, Same] <;> simp [*]
      rfl
   ·have hlt' : decide ((i : Int) < (s.cases.length : Int)) = false := decide_eq_false (by omega)
    rw [List.drop_eq_nil_of_le (by omega), andS_yes rfl] at h3
    change lastS n s d r = res at h3
    unfold lastS at h3
    refine ARun.go 200 ?_
    simp only [W, seval, c113, hn, hi, hlt', hw1]
    refine callS_fn (exprs_ab s.lefts (fun x _ => expr_ab x) c (d + 1) 40 r _ T (by rw [bx_old (by simp; omega)]; exact bx_get hc) h2 ⟨by omega, by omega⟩) ?_
    rintro _ _ ⟨rfl, rfl⟩
    have hup := (Cnts.exs40 s.lefts (d + 1)).up r
    have hbn := Bnds.exs40 s.lefts (d + 1) r h2.2
    have he := exs40_eq s.lefts (d + 1) r
    obtain ⟨⟨b1, q1⟩, hq1⟩ : ∃ z, exs40 s.lefts (d + 1) r = z := ⟨_, rfl⟩
    rw [hq1] at hup hbn he
    obtain ⟨he1, he2⟩ := Prod.mk.inj he
    rw [← he1, ← he2]
    clear he he1 he2
    refine ARun.go 200 ?_
    simp only [W, seval, c113, hn, hi, hw1]
    cases b1
    ·rw [andS_no (by rw [hq1]), hq1] at h3
     simp only [W, seval, c113, hn, hi, hw1]
     refine ARun.ret Tryz.func113 rfl (Left.set (by rfl) ?_)
     rw [← h3]
     (try clear ih)
     (try simp only [dnw] at *)
     simp only [fnw, seval, Same] <;> simp [*]
     skip
    rw [andS_yes (by rw [hq1]), hq1] at h3
    dsimp only at h3
    have hup1 := hup rfl
    have hbn1 := hbn rfl
    dsimp only at hup1 hbn1
    simp only [W, seval, c113, hn, hi, hw1]
    refine callS_fn (exprs_ab s.exprs (fun x _ => expr_ab x) c (d + 1) 40 q1 _ T (by rw [bx_old (by simp; omega)]; exact bx_get hc) ⟨by omega, hbn1⟩ ⟨by omega, by omega⟩) ?_
    rintro _ _ ⟨rfl, rfl⟩
    have hup := (Cnts.exs40 s.exprs (d + 1)).up q1
    have hbn := Bnds.exs40 s.exprs (d + 1) q1 hbn1
    have he := exs40_eq s.exprs (d + 1) q1
    obtain ⟨⟨b2, q2⟩, hq2⟩ : ∃ z, exs40 s.exprs (d + 1) q1 = z := ⟨_, rfl⟩
    rw [hq2] at hup hbn he
    obtain ⟨he1, he2⟩ := Prod.mk.inj he
    rw [← he1, ← he2]
    clear he he1 he2
    refine ARun.go 200 ?_
    simp only [W, seval, c113, hn, hi, hw1]
    cases b2
    ·rw [andS_no (by rw [hq2]), hq2] at h3
     simp only [W, seval, c113, hn, hi, hw1]
     refine ARun.ret Tryz.func113 rfl (Left.set (by rfl) ?_)
     rw [← h3]
     (try clear ih)
     (try simp only [dnw] at *)
     simp only [fnw, seval, Same] <;> simp [*]
     skip
    rw [andS_yes (by rw [hq2]), hq2] at h3
    dsimp only at h3
    have hup2 := hup rfl
    have hbn2 := hbn rfl
    dsimp only at hup2 hbn2
    simp only [W, seval, c113, hn, hi, hw1]
    refine callS_fn (stmts_ab n s.body hsb c (d + 1) q2 _ T (by rw [bx_old (by simp; omega)]; exact bx_get hc) ⟨by omega, hbn2⟩ ⟨by omega, by omega⟩) ?_
    rintro _ _ ⟨rfl, rfl⟩
    have hup := (Cnts.row (f := fun s => stS n s (d + 1)) (c := stC n) s.body fun y _ => Cnts.st n y (d + 1)).up q2
    have hbn := Bnds.row (f := fun s => stS n s (d + 1)) (fun y => Bnds.st n y (d + 1)) s.body q2 hbn2
    obtain ⟨⟨b3, q3⟩, hq3⟩ : ∃ z, rowS (fun s => stS n s (d + 1)) s.body q2 = z := ⟨_, rfl⟩
    rw [hq3] at hup hbn
    refine ARun.go 200 ?_
    simp only [W, seval, c113, hn, hi, hw1, hq3]
    cases b3
    ·rw [andS_no (by rw [hq3]), hq3] at h3
     simp only [W, seval, c113, hn, hi, hw1]
     refine ARun.ret Tryz.func113 rfl (Left.set (by rfl) ?_)
     rw [← h3]
     (try clear ih)
     (try simp only [dnw] at *)
     simp only [fnw, seval, Same] <;> simp [*]
     skip
    rw [andS_yes (by rw [hq3]), hq3] at h3
    dsimp only at h3
    have hup3 := hup rfl
    have hbn3 := hbn rfl
    dsimp only at hup3 hbn3
    simp only [W, seval, c113, hn, hi, hw1]
    refine callS_fn (stmts_ab n s.els hse c (d + 1) q3 _ T (by rw [bx_old (by simp; omega)]; exact bx_get hc) ⟨by omega, hbn3⟩ ⟨by omega, by omega⟩) ?_
    rintro _ _ ⟨rfl, rfl⟩
    rw [h3]
    refine ARun.go 200 ?_
    simp only [W, seval, c113, hn, hi, hw1]
    refine ARun.ret Tryz.func113 rfl (Left.set (by rfl) ?_)
    (try clear ih)
    (try simp only [dnw] at *)
    simp only [fnw, seval, Same] <;> simp [*]
    skip
def Dp : Nat → StT → Prop
 | 0, _ => False
 | n + 1, s => (∀ x ∈ s.body, Dp n x) ∧ (∀ x ∈ s.els, Dp n x) ∧ ∀ k ∈ s.cases, ∀ x ∈ k.body, Dp n x
theorem stmt_ab : ∀ (n : Nat) (s : StT), Dp n s → StmtOk n s
 | 0, _, h => h.elim
 | n + 1, s, h => stmt_step n s (fun x hx => stmt_ab n x (h.1 x hx)) (fun x hx => stmt_ab n x (h.2.1 x hx)) (fun k hk x hx => stmt_ab n x (h.2.2 k hk x hx))
theorem Dp.of_size : ∀ (n : Nat) (s : StT), SizeOf.sizeOf s ≤ n → Dp n s
 | 0, s, h => by
  cases s with
  | mk k ns ty ls es b e cs => simp at h
 | n + 1, s, h => by
  cases s with
  | mk k ns ty ls es b e cs =>
   have h0 : 1 + SizeOf.sizeOf b + SizeOf.sizeOf e + SizeOf.sizeOf cs ≤ n + 1 := by
    simp only [StT.mk.sizeOf_spec] at h
    omega
   refine ⟨fun x hx => Dp.of_size n x ?_, fun x hx => Dp.of_size n x ?_, fun c hc x hx => Dp.of_size n x ?_⟩
   ·have := List.sizeOf_lt_of_mem (show x ∈ b from hx)
    omega
   ·have := List.sizeOf_lt_of_mem (show x ∈ e from hx)
    omega
   ·have h1 := List.sizeOf_lt_of_mem (show c ∈ cs from hc)
    have h2 := List.sizeOf_lt_of_mem hx
    have h3 : SizeOf.sizeOf c.body ≤ SizeOf.sizeOf c := by
     cases c with
     | mk i b => simp only [CaT.body, CaT.mk.sizeOf_spec]; omega
    omega
def c80 := by
 have c := KK_of Tryz.f80 (by conv => lhs; cbv)
 dsimp only [KK, KxP, doO, opO, List.map_cons, List.map_nil, List.toList_toArray] at c
 exact c
theorem b80 : FnIs Tryz.prog 80 Tryz.f80 40 := ⟨Tryz.func80, by kernel_rfl⟩
theorem mapD_nil : List.mapM toD [] = some [] := rfl
theorem mapD_cons (x : D) (l : List V) : List.mapM toD (.d x :: l) = (List.mapM toD l).map (x :: ·) := by
 rw [List.mapM_cons]
 show (some x).bind _ = _
 rw [Option.bind_some]
 cases List.mapM toD l <;> rfl
theorem vr_plain {c : Cx} {w : World} {rows : List (List D)} {tk : Tok} {v : Value} (h : VR c w (.sl rows tk) v) : VR c w (.d (.sl rows)) v := by
 cases h with
 | full _ a h ha => exact .d _ _ h
 | own _ t a cap i h ht hr hn hl => exact .d _ _ h
theorem sl_plain {P : Program} {I : Inv} {f : FuncId} {rows : List (List D)} {tk : Tok} {S : Mem} {R : V → Mem → Prop} (h : AFn P I f [.d (.sl rows)] S R) : AFn P I f [.sl rows tk] S R :=
 ⟨h.1, fun c w xs h1 h2 h3 hI => h.2 c w xs h1 (fun j hj => by
  have hj0 : j = 0 := by simpa using hj
  subst hj0
  exact vr_plain (h2 0 (by simp))) h3 hI⟩
theorem setAll0 {B : List (List V)} {T K : List (Nat × Nat)} {R : V → Mem → Prop} {v : V} {i : Nat} {vs : List V} (hf : vs.all (fit B.length T.length) = true) (h : R (wk B.length T.length v) ⟨B.set i vs, T⟩) : Ab.Left ⟨B, T⟩ R v ⟨B.set i vs, T ++ K⟩ := by
 have := Left.setAll (J := []) (K := K) hf h
 rwa [List.append_nil] at this
theorem pa_step (most : Nat) (l : List PaT) (p : Int) : paS most l p = andS (rowS (fun x : PaT => andS (partS 0) (fun p => tyS identS x.type 0 p)) l) (allowS (decide (l.length ≤ most) && diffS l.length (l.map PaT.name))) p := rfl
set_option maxHeartbeats 4000000 in
theorem params_ab (most : Nat) (_ : most ≤ 1000) (l : List PaT) (c : Nat) (p : Int) (B : List (List V)) (T : List (Nat × Nat)) (hB : B[c]? = some [.d (.int .i64 p)]) (hp : 0 ≤ p ∧ p ≤ 60000) :
 AFn Tryz.prog TabI 80 [.ptr c 0, .d (.sl (l.map paD)), .d (.int .i64 most)] ⟨B, T⟩ (Same (.d (.bool (paS most l p).1)) ⟨B.set c [.d (.int .i64 (paS most l p).2)], T⟩) := by
 obtain ⟨N, hn⟩ : ∃ N, B.length = N := ⟨_, rfl⟩
 obtain ⟨M, hM⟩ : ∃ M, T.length = M := ⟨_, rfl⟩
 have hc := (List.getElem?_eq_some_iff.1 hB).1
 have hi : c < N := by omega
 have hbs : B.set c [.d (.int .i64 p)] = B := by
  obtain ⟨_, h⟩ := List.getElem?_eq_some_iff.1 hB
  rw [← h, List.set_getElem_self]
 generalize hres : paS most l p = res
 rw [pa_step] at hres
 refine b80.go 14 rfl fun hsm => ?_
 simp only [smw] at hsm
 simp only [W, seval, c80, hn, hi]
 refine ARun.fits fun hf => ?_
 refine ARun.token 7 [] (by rfl) 1 (by omega) rfl ?_
 simp only [envS_put, hM]
 refine ARun.go 20 ?_
 simp only [W, seval, c80, hn, hi]
 refine ARun.loopB (fun a : Nat × Int => (envS 40 [(0, .ptr c 0), (1, .d (.sl (l.map paD))), (2, .d (.int .i64 most)), (6, .d (.bool false)), (7, .sl (ssD ((l.take a.1).map PaT.name)) (.own M)), (10, .d (.sl (l.map paD))), (11, .d (.int .i64 l.length)), (12, .d (.int .i64 a.1))], ⟨B.set c [.d (.int .i64 a.2)], T ++ [(a.1, 1)]⟩)) (fun a => a.1 ≤ l.length ∧ ((a.1 : Int) ≤ a.2 ∧ a.2 ≤ 60000) ∧ andS (rowS (fun x : PaT => andS (partS 0) (fun p => tyS identS x.type 0 p)) (l.drop a.1)) (allowS (decide (l.length ≤ most) && diffS l.length (l.map PaT.name))) a.2 = res) (fun a => l.length - a.1) (0, p) ⟨by omega, hp, hres⟩ ?_ (by rw [hbs]) ?_
 ·skip
  refine Agree.env _ ?_
  simp only [agw, seval, hn]
  trivial
 rintro ⟨i, q⟩ ⟨h1, h2, h3⟩ ih
 dsimp only at h1 h2 h3 ih ⊢
 by_cases hlt : i < l.length
 ·have hw := wrap_in ((i : Int) + 1) (by omega)
  have hlt' : decide ((i : Int) < (l.length : Int)) = true := decide_eq_true (by omega)
  have hg := List.getElem?_eq_getElem hlt
  have hmin : min i l.length = i := by omega
  have hcap : (i + 1) * 16 ≤ 140737488355328 := by omega
  have hss : ssD ((l.take i).map PaT.name) ++ [[.str l[i].name]] = ssD ((l.take (i + 1)).map PaT.name) := by
   rw [List.take_succ_eq_append_getElem hlt, List.map_append]
   simp [ssD]
  have hr1 : ∀ s : List UInt8, rowsSz 1 [[D.str s]] = true := fun _ => rfl
  have hM1 : M < M + 1 := by omega
  rw [drop_get hlt] at h3
  change andS (andS (andS (partS 0) (fun p => tyS identS l[i].type 0 p)) (rowS _ (l.drop (i + 1)))) _ q = res at h3
  rw [andS_assoc, andS_assoc] at h3
  refine ARun.go 100 ?_
  simp only [W, seval, c80, hn, hi, hM, List.getElem?_map, hg, hlt', paD, hmin, List.length_take, hcap, hss, mapD_nil, mapD_cons, Nat.reduceMul, hr1]
  refine callS_fn (part_ab c 0 q _ _ (by rw [bx_old (by simp; omega)]; exact bx_get hc) ⟨by omega, h2.2⟩) ?_
  rintro _ _ ⟨rfl, rfl⟩
  refine ARun.go 200 ?_
  simp only [W, seval, c80, hn, hi, hM]
  cases hk : partOk 0 q
  ·rw [andS_no (show (partS 0 q).1 = false from hk)] at h3
   simp only [W, seval, c80, hn, hi, hk]
   refine ARun.ret Tryz.func80 rfl (Left.setAll rfl ?_)
   rw [← h3]
   (try clear ih)
   (try simp only [dnw] at *)
   simp only [fnw, seval, Same] <;> simp [*]
   rfl
  ·have hpo := partOk_in hk
   rw [andS_yes (show (partS 0 q).1 = true from hk)] at h3
   change andS _ _ (q + 1) = res at h3
   simp only [W, seval, c80, hn, hi, hk]
   refine callS_fn (typ_ab l[i].type c 0 (q + 1) _ _ (by rw [bx_old (by simp; omega)]; exact bx_get hc) ⟨by omega, hpo.1⟩ ⟨by omega, by omega⟩) ?_
   rintro _ _ ⟨rfl, rfl⟩
   have hok := tyS_ok identS l[i].type 0 (q + 1)
   obtain ⟨⟨b, r⟩, hty⟩ : ∃ z, tyS identS l[i].type 0 (q + 1) = z := ⟨_, rfl⟩
   rw [hty] at hok
   refine ARun.go 200 ?_
   simp only [W, seval, c80, hn, hi, hM, hty]
   cases b
   ·rw [andS_no (by rw [hty]), hty] at h3
    simp only [W, seval, c80, hn, hi]
    refine ARun.ret Tryz.func80 rfl (Left.setAll rfl ?_)
    rw [← h3]
    (try clear ih)
    (try simp only [dnw] at *)
    simp only [fnw, seval, Same] <;> simp [*]
    skip
   ·rw [andS_yes (by rw [hty]), hty] at h3
    have hok := hok rfl
    dsimp only at hok h3
    simp only [W, seval, c80, hn, hi, hM, hw]
    refine ih (i + 1, r) ⟨hlt, ⟨by dsimp only; omega, hok.2⟩, h3⟩ (by dsimp only; omega) _ _ _ _ rfl ⟨by simp; omega, by simp; omega⟩ ?_ ?_
    ·have := Fits.more (X := []) (Y := [(i + 1, 1)]) (Fits.set hf (i := c) (vs := [.d (.int .i64 r)]) rfl) (fun vs hv => absurd hv List.not_mem_nil)
     rwa [List.append_nil] at this
    ·skip
     refine AgreeF.env _ ?_
     simp only [agf, seval, hn, hi, hM, List.length_append, List.length_cons, List.length_nil, Nat.zero_add, hM1]
 ·have hlt' : decide ((i : Int) < (l.length : Int)) = false := decide_eq_false (by omega)
  rw [List.drop_eq_nil_of_le (by omega), andS_yes rfl] at h3
  have hti : l.take i = l := List.take_of_length_le (by omega)
  have hmo : decide ((l.length : Int) ≤ (most : Int)) = decide (l.length ≤ most) := decide_eq_decide.2 (by omega)
  refine ARun.go 200 ?_
  simp only [W, seval, c80, hn, hi, hM, hlt', hti, hmo]
  cases hle : decide (l.length ≤ most)
  ·simp only [W, seval, c80, hn, hi, hM]
   refine ARun.ret Tryz.func80 rfl (setAll0 rfl ?_)
   rw [← h3, hle]
   (try clear ih)
   (try simp only [dnw] at *)
   simp only [fnw, seval, Same] <;> simp [*]
   exact ⟨rfl, rfl⟩
  ·simp only [W, seval, c80, hn, hi, hM]
   refine callS_fn (sl_plain (different_ab (l.map PaT.name) (by simp; have := of_decide_eq_true hle; omega) _ _)) ?_
   rintro _ _ ⟨rfl, rfl⟩
   refine ARun.go 200 ?_
   simp only [W, seval, c80, hn, hi, hM]
   refine ARun.ret Tryz.func80 rfl (setAll0 rfl ?_)
   rw [← h3, hle]
   (try clear ih)
   (try simp only [dnw] at *)
   simp only [fnw, seval, Same] <;> simp [*]
   exact ⟨rfl, rfl⟩
theorem mapD_sl (rows : List (List D)) (tk : Tok) (l : List V) : List.mapM toD (.sl rows tk :: l) = (List.mapM toD l).map (.sl rows :: ·) := by
 rw [List.mapM_cons]
 show (some (D.sl rows)).bind _ = _
 rw [Option.bind_some]
 cases List.mapM toD l <;> rfl
end Go.Proofs.YtfaoamebphckbaaGreatDoor
namespace Go.Proofs.YtfaoamebphckbaaGreatDoor
open Go.RowKit Go.Av Go.Ab
section
variable {bs : List UInt8} {f : FuncId} {ar : List V} {s s' : Ps} {v : V} {c : Nat} {B J : List (List V)} {T : List (Nat × Nat)} {env : List V}
theorem PP.lexc {W : List Nat} {MM : Mem → Prop} {K : List V → Mem → Prop} {o : Oper} {l : List Oper} {k : Nat} (h : PP bs f ar s v s') (hc : c < B.length) (hok : OkP bs s) (hok' : OkP bs s') (hS : MM ⟨B.set c (bxP bs s) ++ J, T⟩) (hk : W.contains k = true) (hg : o.guard = none)
 (h1 : ∃ q f0, o.op = .call q ∧ q.callee = .value f0 ∧ evalV TabI env f0 = .func f [] [] ∧ q.args.toList.map (evalV TabI env) = .ptr c 0 :: ar) (h5 : lexC Tryz.prog TabI W MM K l (k + 1) (setV env o.dst v) ⟨B.set c (bxP bs s') ++ J, T⟩) : lexC Tryz.prog TabI W MM K (o :: l) k env ⟨B.set c (bxP bs s) ++ J, T⟩ := by
 obtain ⟨q, f0, e1, e2, e3, e4⟩ := h1
 refine lexC_c (Q := fun v' m => v' = v ∧ ∃ i', OkP bs s' ∧ m = ⟨B.set c (bxP bs s') ++ J, T⟩) hS hk hg e1 e2 e3 ⟨_, _, rfl, 0, hok', rfl⟩ ?_ ?_
 ·rw [e4, List.nil_append, List.append_nil]
  exact PF.fn (i := 0) h hc hok
 ·rintro v' S' ⟨rfl, _, _, rfl⟩
  exact h5
end
end Go.Proofs.YtfaoamebphckbaaGreatDoor
namespace Go.Ab
open Go.RowKit Go.Av
section
variable {P : Program} {I : Inv} {z : Nat × Nat} {fn : FuncId} {R : V → Mem → Prop} {k : List Item} {env : List V}
theorem ARun.after {α : Type} (pre K : List Item) (st : α → List V × Mem) (ok : α → Prop) {S : Mem} (h1 : ∀ a, ok a → ARun P I z fn K (st a).1 (st a).2 R)
 (h2 : ∀ K', (∀ a, ok a → ∀ env' S', EnvW (st a).1 env' → (st a).2 = S' → ARun P I z fn K' env' S' R) → ARun P I z fn (pre ++ K') env S R) : ARun P I z fn (pre ++ K) env S R :=
 h2 K fun a ha _ _ he hS => ARun.weak he (hS ▸ h1 a ha)
theorem VR.plain {c : Cx} {w : World} {rows : List (List D)} {tk : Tok} {v : Value} (h : VR c w (.sl rows tk) v) : VR c w (.d (.sl rows)) v := by
 cases h with
 | full _ a h ha => exact .d _ _ h
 | own _ t a cap i h ht hr hn hl => exact .d _ _ h
def LessL (vs us : List V) : Prop := us.length = vs.length ∧ ∀ j (hj : j < vs.length) (hj' : j < us.length), us[j] = vs[j] ∨ ∃ rows tk, vs[j] = .sl rows tk ∧ us[j] = .d (.sl rows)
theorem LessL.nil : LessL [] [] := ⟨rfl, fun j hj => absurd hj (Nat.not_lt_zero j)⟩
theorem LessL.same {v : V} {vs us : List V} (h : LessL vs us) : LessL (v :: vs) (v :: us) := ⟨by simp [h.1], fun j hj hj' => by
 cases j with
 | zero => exact .inl rfl
 | succ j => exact h.2 j (by simpa using hj) (by simpa using hj')⟩
theorem LessL.sl {rows : List (List D)} {tk : Tok} {vs us : List V} (h : LessL vs us) : LessL (.sl rows tk :: vs) (.d (.sl rows) :: us) := ⟨by simp [h.1], fun j hj hj' => by
 cases j with
 | zero => exact .inr ⟨rows, tk, rfl, rfl⟩
 | succ j => exact h.2 j (by simpa using hj) (by simpa using hj')⟩
end
end Go.Ab
namespace Go.Proofs.YtfaoamebphckbaaGreatDoor
open Go.RowKit Go.Av Go.Ab
set_option linter.unusedSimpArgs false
set_option maxRecDepth 100000
set_option linter.defProp false
theorem rows8 (x : ExT) : [D.int .i64 x.kind, .str x.text, .int .u64 x.int, .int .i64 x.type.kind, .str x.type.name, .sl (x.type.elem.map tyD), .sl (ssD x.names), .sl (x.kids.map exD)] = exD x := (exD_eq x).symm
def exL (x : ExT) : List V := [.d (.int .i64 x.kind), .d (.str x.text), .d (.int .u64 x.int), .d (.int .i64 x.type.kind), .d (.str x.type.name), .d (.sl (x.type.elem.map tyD)), .d (.sl (ssD x.names)), .d (.sl (x.kids.map exD))]
end Go.Proofs.YtfaoamebphckbaaGreatDoor
namespace Go.Proofs.YtfaoamebphckbaaGreatDoor
open Go.RowKit Go.Av
def Eqv {α : Type} (a b : α × Ps) : Prop := a.2 = b.2 ∧ (a.2.e = 0 → a.1 = b.1)
theorem Eqv.refl {α : Type} (a : α × Ps) : Eqv a a := ⟨rfl, fun _ => rfl⟩
def EqE {α : Type} (n : Nat) (E E' : Ps → α × Ps) : Prop := ∀ s, mu s < n → Eqv (E s) (E' s)
theorem EqE.at {α : Type} {n : Nat} {E E' : Ps → α × Ps} (h : EqE n E E') (s : Ps) (hn : mu s < n) : ∃ x x' s1, E s = (x, s1) ∧ E' s = (x', s1) ∧ (s1.e = 0 → x = x') := by
 obtain ⟨h1, h2⟩ := h s hn
 exact ⟨(E s).1, (E' s).1, (E s).2, rfl, by rw [h1], h2⟩
theorem Eqv.open {α : Type} {a b : α × Ps} (h : Eqv a b) : ∃ x x' s1, a = (x, s1) ∧ b = (x', s1) ∧ (s1.e = 0 → x = x') := ⟨a.1, b.1, a.2, rfl, by rw [h.1], h.2⟩
end Go.Proofs.YtfaoamebphckbaaGreatDoor
namespace Go.Proofs.YtfaoamebphckbaaGreatDoor
open Go.RowKit Go.Av Go.Ab
set_option linter.unusedSimpArgs false
set_option maxRecDepth 100000
set_option linter.defProp false
theorem ss1 (x : List UInt8) : rowsSz 1 [[D.str x]] = true := rfl
theorem ssD_snoc (l : List (List UInt8)) (x : List UInt8) : ssD l ++ [[D.str x]] = ssD (l ++ [x]) := by simp [ssD]
set_option linter.unusedVariables false
def c18 := by
 have c := KK_of Tryz.f18 (by conv => lhs; cbv)
 dsimp only [KK, KxP, doO, opO, List.map_cons, List.map_nil, List.toList_toArray] at c
 exact c
theorem b18 : FnIs Tryz.prog 18 Tryz.f18 24 := ⟨Tryz.func18, by kernel_rfl⟩
def c19 := by
 have c := KK_of Tryz.f19 (by conv => lhs; cbv)
 dsimp only [KK, KxP, doO, opO, List.map_cons, List.map_nil, List.toList_toArray] at c
 exact c
theorem b19 : FnIs Tryz.prog 19 Tryz.f19 22 := ⟨Tryz.func19, by kernel_rfl⟩
def c95 := by
 have c := KK_of Tryz.f95 (by conv => lhs; cbv)
 dsimp only [KK, KxP, doO, opO, List.map_cons, List.map_nil, List.toList_toArray] at c
 exact c
theorem b95 : FnIs Tryz.prog 95 Tryz.f95 23 := ⟨Tryz.func95, by kernel_rfl⟩
abbrev RS (f : FuncId) (ar : List V) (s : List UInt8) : Prop := ∀ S, AFn Tryz.prog TabI f ar S (Same (.d (.str s)) S)
theorem RS.of {f : FuncId} {ar : List V} {s : List UInt8} (hd : wkL 0 0 ar = ar) (h : AFn Tryz.prog TabI f ar ⟨[], []⟩ (Same (.d (.str s)) ⟨[], []⟩)) : RS f ar s := AFn.same h hd (by simp [wk])
theorem com_cnt : ∀ (b : Bool) (l : List (List UInt8)), 2 * l.length ≤ (comB b l).length + (if b = true then 0 else 2)
 | _, [] => by simp
 | b, x :: l => by
  have := com_cnt true l
  rw [if_pos rfl] at this
  cases b <;> simp [comB] <;> omega
theorem com_mem : ∀ (b : Bool) (l : List (List UInt8)), ∀ x ∈ l, x.length ≤ (comB b l).length
 | b, y :: l, x, hx => by
  rw [comB]
  simp only [List.length_append]
  rcases List.mem_cons.1 hx with rfl | h
  ·omega
  ·have := com_mem true l x h
   omega
set_option maxHeartbeats 1000000 in
theorem join2_in (l : List (List UInt8)) (hl : (comT l).length ≤ mostW) : AFn Tryz.prog TabI 19 [.d (.sl (ssD l))] ⟨[], []⟩ (Same (.d (.str (comT l))) ⟨[], []⟩) := by
 obtain ⟨a, ha⟩ : ∃ a, comT l = a := ⟨_, rfl⟩
 have hcn : 2 * l.length ≤ (comT l).length + 2 := com_cnt false l
 unfold mostW at hl
 rw [ha] at hl hcn ⊢
 refine b19.go 40 rfl fun hsm => ?_
 simp only [smw] at hsm
 simp only [W, seval, c19, ssD_length]
 refine ARun.loopW (fun p : Nat × List UInt8 => (envS 22 [(0, .d (.sl (ssD l))), (3, .d (.str p.2)), (4, .d (.int .i64 (p.1 : Int)))], ⟨[], []⟩)) (fun p => p.1 ≤ l.length ∧ p.2 ++ comB (decide (0 < p.1)) (l.drop p.1) = a) (fun p => l.length - p.1) (0, []) ⟨by simp, ha⟩ ?_ rfl ?_
 ·skip
  refine Agree.env _ ?_
  simp only [agw, seval]
 rintro ⟨j, s⟩ ⟨h1, h2⟩ ih
 dsimp only at h1 h2 ih ⊢
 by_cases hlt : j < l.length
 case neg =>
  have e1 : decide ((j : Int) < (l.length : Int)) = false := decide_eq_false (by omega)
  rw [List.drop_eq_nil_of_le (by omega), comB, List.append_nil] at h2
  rw [← h2]
  refine ARun.go 60 ?_
  simp only [W, seval, c19, e1, ssD_length]
  refine ARun.ret Tryz.func19 rfl (Left.empty ?_)
  exact ⟨rfl, rfl⟩
 have e1 : decide ((j : Int) < (l.length : Int)) = true := decide_eq_true (by omega)
 have hwj := wrap_in ((j : Int) + 1) (by omega)
 have hg := ss_get l j hlt
 rw [List.drop_eq_getElem_cons hlt, comB] at h2
 have h2l := congrArg List.length h2
 simp only [List.length_append] at h2l
 generalize l[j] = x at h2 h2l hg
 rcases Nat.eq_zero_or_pos j with h0 | h0
 ·have e2 : decide ((0 : Int) < (j : Int)) = false := decide_eq_false (by omega)
  have e0 : decide (0 < j) = false := decide_eq_false (by omega)
  have e3 : decide (0 < j + 1) = true := decide_eq_true (by omega)
  rw [e0, if_neg (by simp), List.nil_append, ← List.append_assoc] at h2
  have k1 : s.length + x.length ≤ 9223372036854775807 := by omega
  refine ARun.go 60 ?_
  simp only [W, seval, c19, e1, e2, hg, hlt, ssD_length, k1, hwj]
  refine ih (j + 1, s ++ x) ⟨by dsimp only; omega, by dsimp only; rw [e3]; exact h2⟩ (by dsimp only; omega) _ _ ?_ rfl
  refine Agree.env _ ?_
  simp only [agw, seval]
 ·have e0 : decide (0 < j) = true := decide_eq_true h0
  have e2 : decide ((0 : Int) < (j : Int)) = true := decide_eq_true (by omega)
  have e3 : decide (0 < j + 1) = true := decide_eq_true (by omega)
  rw [e0] at h2l h2
  rw [if_pos rfl] at h2 h2l
  have k1 : s.length + 2 ≤ 9223372036854775807 := by omega
  have k2 : s.length + 2 + x.length ≤ 9223372036854775807 := by simp only [List.length_cons, List.length_nil] at h2l; omega
  refine ARun.go 60 ?_
  simp only [W, seval, c19, e1, e2, hg, hlt, ssD_length, k1, k2, hwj]
  refine ih (j + 1, s ++ 44 :: 32 :: x) ⟨by dsimp only; omega, by dsimp only; rw [e3]; simpa using h2⟩ (by dsimp only; omega) _ _ ?_ rfl
  refine Agree.env _ ?_
  simp only [agw, seval]
theorem typ2_ab {y : TyT} (h : OkT y) (hb : (typT y).length ≤ mostW) : RS 18 [tyV y] (typT y) := by
 induction h with
 | bas q h1 h2 =>
  refine RS.of (by simp [tyV, wkL, wk]) ?_
  have hty : typT (.mk q [] []) = basT q := by
   unfold typT
   rw [if_neg (by omega), if_neg (by omega)]
  rw [hty]
  change AFn _ _ _ [.agg [.d (.int .i64 q), .d (.str []), .d (.sl [])]] _ _
  have hq : q = 1 ∨ q = 2 ∨ q = 3 ∨ q = 4 ∨ q = 5 ∨ q = 6 := by omega
  rcases hq with rfl | rfl | rfl | rfl | rfl | rfl
  all_goals
   refine b18.go 60 rfl fun hsm => ?_
   simp only [smw] at hsm
   simp only [W, seval, c18, mapD_nil, mapD_cons]
   refine ARun.ret Tryz.func18 rfl (Left.empty ?_)
   exact ⟨rfl, rfl⟩
 | nam n hn =>
  refine RS.of (by simp [tyV, wkL, wk]) ?_
  have hty : typT (.mk 7 n []) = n := rfl
  rw [hty]
  change AFn _ _ _ [.agg [.d (.int .i64 7), .d (.str n), .d (.sl [])]] _ _
  refine b18.go 60 rfl fun hsm => ?_
  simp only [smw] at hsm
  simp only [W, seval, c18]
  refine ARun.ret Tryz.func18 rfl (Left.empty ?_)
  exact ⟨rfl, rfl⟩
 | sli y hy ih =>
  refine RS.of (by simp [tyV, wkL, wk]) ?_
  have hty : typT (.mk 8 [] [y]) = [91, 93] ++ typT y := rfl
  rw [hty] at hb ⊢
  unfold mostW at hb ih
  simp only [lnw] at hb
  have ih := ih (by omega)
  generalize typT y = u at hb ih ⊢
  have k1 : 2 + u.length ≤ 9223372036854775807 := by omega
  change AFn _ _ _ [.agg [.d (.int .i64 8), .d (.str []), .d (.sl [tyD y])]] _ _
  unfold tyV at ih
  refine b18.go 60 rfl fun hsm => ?_
  simp only [smw] at hsm
  simp only [W, seval, c18, tyD_eq]
  refine callS_fn (ih _) ?_
  rintro _ _ ⟨rfl, rfl⟩
  refine ARun.go 20 ?_
  simp only [W, seval, c18, k1]
  refine ARun.ret Tryz.func18 rfl (Left.empty ?_)
  exact ⟨rfl, rfl⟩
theorem digF_low (f n : Nat) (h : n < 10) : digF f n = [UInt8.ofNat (48 + n)] := by
 cases f
 ·rw [digF, Nat.mod_eq_of_lt h]
 ·rw [digF, if_pos h]
theorem digF_ten (f n : Nat) (h : 10 ≤ n) : digF (f + 1) n = digF f (n / 10) ++ [UInt8.ofNat (48 + n % 10)] := by rw [digF, if_neg (by omega)]
set_option maxHeartbeats 1000000 in
theorem digits_in (q : Int) (h0 : 0 ≤ q) (h1 : q ≤ 18446744073709551615) : AFn Tryz.prog TabI 95 [.d (.int .u64 q)] ⟨[], []⟩ (Same (.d (.str (digF 24 q.toNat))) ⟨[], []⟩) := by
 obtain ⟨n, rfl⟩ : ∃ n : Nat, q = n := ⟨q.toNat, by omega⟩
 obtain ⟨a, ha⟩ : ∃ a, digF 24 n = a := ⟨_, rfl⟩
 rw [Int.toNat_natCast, ha]
 have hn10 : ¬ (10 : Int) = 0 := by omega
 refine b95.go 40 rfl fun hsm => ?_
 simp only [smw] at hsm
 simp only [W, seval, c95]
 refine ARun.loopW (fun p : Nat × List UInt8 => (envS 23 [(0, .d (.int .u64 (p.1 : Int))), (3, .d (.str p.2))], ⟨[], []⟩)) (fun p => p.1 ≤ 18446744073709551615 ∧ ∃ f, p.1 < 10 ^ (f + 1) ∧ p.2.length + f ≤ 24 ∧ digF f p.1 ++ p.2 = a) (fun p => p.1) (n, []) ⟨by dsimp only; omega, 24, by dsimp only; omega, by simp, by rw [List.append_nil]; exact ha⟩ ?_ rfl ?_
 ·skip
  refine Agree.env _ ?_
  simp only [agw, seval]
 rintro ⟨m, s⟩ ⟨g0, f, g1, g2, g3⟩ ih
 dsimp only at g0 g1 g2 g3 ih ⊢
 have k1 : 1 + s.length ≤ 9223372036854775807 := by omega
 have hu : ∀ z : Int, 0 ≤ z → z ≤ 18446744073709551615 → IntKind.u64.wrap z = z := fun z hz1 hz2 => by
  unfold IntKind.wrap
  simp [IntKind.signed, IntKind.bits]
  omega
 have hfb : ∀ r : Nat, r < 10 → IntKind.u8.wrap (48 + (r : Int)) = ((UInt8.ofNat (48 + r)).toNat : Int) := fun r hr => by
  have h2 : (UInt8.ofNat (48 + r)).toNat = 48 + r := by simp; omega
  rw [h2]
  unfold IntKind.wrap
  simp [IntKind.signed, IntKind.bits]
  omega
 have hby : ∀ b : UInt8, fromBytes [[D.int .u8 (b.toNat : Int)]] = some [b] := fun b => fromBytes_map [b]
 by_cases hlt : 10 ≤ m
 case neg =>
  have e1 : decide ((10 : Int) ≤ (m : Int)) = false := decide_eq_false (by omega)
  rw [digF_low f m (by omega)] at g3
  have w1 := hu (48 + (m : Int)) (by omega) (by omega)
  have w2 := hfb m (by omega)
  generalize UInt8.ofNat (48 + m) = b at g3 w2
  refine ARun.go 60 ?_
  simp only [W, seval, c95, e1, w1, w2, hby, k1, mapD_nil, mapD_cons]
  refine ARun.ret Tryz.func95 rfl (Left.empty ?_)
  rw [← g3]
  exact ⟨rfl, rfl⟩
 have e1 : decide ((10 : Int) ≤ (m : Int)) = true := decide_eq_true (by omega)
 obtain ⟨f, rfl⟩ : ∃ g, f = g + 1 := ⟨f - 1, by
  cases f
  ·simp at g1; omega
  ·rfl⟩
 rw [digF_ten f m hlt, List.append_assoc] at g3
 have w0 : (m : Int).tmod 10 = ((m % 10 : Nat) : Int) := by rw [Int.tmod_eq_emod_of_nonneg (by omega)]; omega
 have w3 : IntKind.u64.wrap ((m : Int).tdiv 10) = ((m / 10 : Nat) : Int) := by rw [Int.tdiv_eq_ediv_of_nonneg (by omega), hu _ (by omega) (by omega)]; omega
 obtain ⟨r, hr⟩ : ∃ r, m % 10 = r := ⟨_, rfl⟩
 obtain ⟨d, hd⟩ : ∃ d, m / 10 = d := ⟨_, rfl⟩
 rw [hr] at g3 w0
 rw [hd] at g3 w3
 have w1 := hu (48 + (r : Int)) (by omega) (by omega)
 have w2 := hfb r (by omega)
 generalize UInt8.ofNat (48 + r) = b at g3 w2
 refine ARun.go 60 ?_
 simp only [W, seval, c95, e1, w0, w1, w2, w3, hby, k1, hn10, mapD_nil, mapD_cons]
 refine ih (d, b :: s) ⟨by dsimp only; omega, f, ?_, by simp; omega, g3⟩ (by dsimp only; omega) _ _ ?_ rfl
 ·dsimp only
  rw [Nat.pow_succ] at g1
  omega
 ·skip
  refine Agree.env _ ?_
  simp only [agw, seval]
theorem digits_ab (q : Int) (h0 : 0 ≤ q) (h1 : q ≤ 18446744073709551615) : RS 95 [.d (.int .u64 q)] (digF 24 q.toNat) := RS.of (by simp [wkL, wk]) (digits_in q h0 h1)
def PL (f : FuncId) (ar : Nat → List V) (u : Nat → List UInt8) : Prop := ∀ (i t : Nat) (s : List UInt8) (k : Nat) (B : List (List V)) (T : List (Nat × Nat)), i < B.length → t < T.length → k ≤ 900 → s.length + (u k).length ≤ mostW →
 AFn Tryz.prog TabI f (.ptr i 0 :: ar i) ⟨B.set i (bxW i t s k), T.set t (s.length, 1)⟩ (Same (.tup []) ⟨B.set i (bxW i t (s ++ u k) k), T.set t ((s ++ u k).length, 1)⟩)
section
variable {f : FuncId} {ar : Nat → List V} {u : Nat → List UInt8} {i t k : Nat} {s : List UInt8} {B J : List (List V)} {T : List (Nat × Nat)} {stop : Cont} {q : List Item} {d : Option Tmp} {env : List V}
theorem PL.callJ (h : PL f ar u) (hi : i < B.length) (ht : t < T.length) (hk : k ≤ 900) (hb : s.length + (u k).length ≤ mostW) (hc : ∀ s', s ++ u k = s' → stop q (setV env d (.tup [])) ⟨B.set i (bxW i t s' k) ++ J, T.set t (s'.length, 1)⟩) :
 callS Tryz.prog TabI stop (.func f [] []) (.ptr i 0 :: ar i) q d env ⟨B.set i (bxW i t s k) ++ J, T.set t (s.length, 1)⟩ := by
 have h' := h i t s k (B ++ J) T (by simp; omega) ht hk hb
 rw [List.set_append_left _ _ hi, List.set_append_left _ _ hi] at h'
 exact callS_fn h' fun _ _ ⟨e1, e2⟩ => by rw [e1, e2]; exact hc _ rfl
theorem PL.call0 (h : PL f ar u) (hi : i < B.length) (ht : t < T.length) (hk : k ≤ 900) (hb : s.length + (u k).length ≤ mostW) (hc : ∀ s', s ++ u k = s' → stop q (setV env d (.tup [])) ⟨B.set i (bxW i t s' k), T.set t (s'.length, 1)⟩) :
 callS Tryz.prog TabI stop (.func f [] []) (.ptr i 0 :: ar i) q d env ⟨B.set i (bxW i t s k), T.set t (s.length, 1)⟩ :=
 callS_fn (h i t s k B T hi ht hk hb) fun _ _ ⟨e1, e2⟩ => by rw [e1, e2]; exact hc _ rfl
end
theorem put1 (x : List UInt8) : PW 49 [.sl [[.str x]] .full] fun _ => x := (put_pw [x] (by simp)).cong fun _ => by simp
theorem put2 (x y : List UInt8) : PW 49 [.sl [[.str x], [.str y]] .full] fun _ => x ++ y := (put_pw [x, y] (by simp)).cong fun _ => by simp
theorem put3 (x y z : List UInt8) : PW 49 [.sl [[.str x], [.str y], [.str z]] .full] fun _ => x ++ y ++ z := (put_pw [x, y, z] (by simp)).cong fun _ => by simp
theorem comb_cons (b : Bool) (x : List UInt8) (l : List (List UInt8)) : comB b (x :: l) = (if b = true then [44, 32] else []) ++ (x ++ comB true l) := rfl
theorem comb_drop (b : Bool) (us : List (List UInt8)) (j : Nat) (h : j < us.length) : comB b (us.drop j) = (if b = true then [44, 32] else []) ++ (us[j] ++ comB true (us.drop (j + 1))) := by
 rw [List.drop_eq_getElem_cons h, comb_cons]
theorem fitsW {n m i t k : Nat} {s s' : List UInt8} {B L : List (List V)} {T : List (Nat × Nat)} {a b : Nat × Nat} (hB : B.length = n) (hL : L.length = n) (hm : T.length = m) (hi : i < n) (ht : t < m) (hf : Fits ⟨B.set i (bxW i t s k), T.set t a⟩) (hl : FitL n m B L) : Fits ⟨L.set i (bxW i t s' k), T.set t b⟩ := by
 intro vs hvs
 have hvs : vs ∈ L.set i (bxW i t s' k) := hvs
 show vs.all (fit (L.set i _).length (T.set t b).length) = true
 rw [List.length_set, List.length_set, hL, hm]
 rcases List.mem_or_eq_of_mem_set hvs with h | rfl
 ·obtain ⟨j, hj⟩ := List.mem_iff_getElem?.1 h
  rcases hl j vs hj with h0 | h0
  ·by_cases e : j = i
   ·subst e
    obtain ⟨q, hq⟩ := List.mem_iff_getElem?.1 hvs
    by_cases e2 : q = j
    ·subst e2
     rw [List.getElem?_set_self (by omega)] at hq
     obtain rfl := Option.some.inj hq
     exact fitW hi ht
    ·rw [List.getElem?_set_ne (fun h => e2 h.symm)] at hq
     rcases hl q vs hq with h1 | h1
     ·have := hf vs (by
       show vs ∈ B.set j _
       exact List.mem_of_getElem? (i := q) (by rw [List.getElem?_set_ne (fun h => e2 h.symm)]; exact h1))
      have this : vs.all (fit (B.set j (bxW j t s k)).length (T.set t a).length) = true := this
      rwa [List.length_set, List.length_set, hB, hm] at this
     ·exact h1
   ·have := hf vs (by
     show vs ∈ B.set i _
     exact List.mem_of_getElem? (i := j) (by rw [List.getElem?_set_ne (fun h => e h.symm)]; exact h0))
    have this : vs.all (fit (B.set i (bxW i t s k)).length (T.set t a).length) = true := this
    rwa [List.length_set, List.length_set, hB, hm] at this
  ·exact h0
 ·exact fitW hi ht
theorem leftW {n m i t k : Nat} {s s' : List UInt8} {B L J : List (List V)} {T : List (Nat × Nat)} {a b : Nat × Nat} {R : V → Mem → Prop} {v : V} (hB : B.length = n) (hL : L.length = n) (hm : T.length = m) (hi : i < n) (ht : t < m) (hl : FitL n m B L)
 (h : R (wk (B.set i (bxW i t s k)).length (T.set t a).length v) ⟨L.set i (bxW i t s' k), T.set t b⟩) : Ab.Left ⟨B.set i (bxW i t s k), T.set t a⟩ R v ⟨L.set i (bxW i t s' k) ++ J, T.set t b⟩ := by
 have := Ab.Left.of (B := B.set i (bxW i t s k)) (L := L.set i (bxW i t s' k)) (J := J) (T := T.set t a) (U := T.set t b) (K := []) (R := R) (v := v) (by simp [hB, hL]) (by simp) (fun j vs hj => ?_) h
 ·rwa [List.append_nil] at this
 ·rw [List.length_set, List.length_set, hB, hm]
  by_cases e : j = i
  ·subst e
   rw [List.getElem?_set_self (by omega)] at hj
   obtain rfl := Option.some.inj hj
   exact .inr (fitW hi ht)
  ·rw [List.getElem?_set_ne (fun h => e h.symm)] at hj ⊢
   exact hl j vs hj
theorem leftW0 {n m i t k : Nat} {s s' : List UInt8} {B L : List (List V)} {T : List (Nat × Nat)} {a b : Nat × Nat} {R : V → Mem → Prop} {v : V} (hB : B.length = n) (hL : L.length = n) (hm : T.length = m) (hi : i < n) (ht : t < m) (hl : FitL n m B L)
 (h : R (wk (B.set i (bxW i t s k)).length (T.set t a).length v) ⟨L.set i (bxW i t s' k), T.set t b⟩) : Ab.Left ⟨B.set i (bxW i t s k), T.set t a⟩ R v ⟨L.set i (bxW i t s' k), T.set t b⟩ := by
 have := leftW (J := []) hB hL hm hi ht hl h
 rwa [List.append_nil] at this
set_option linter.defProp false
def c107 := by
 have c := KK_of Tryz.f107 (by conv => lhs; cbv)
 dsimp only [KK, KxP, doO, opO, List.map_cons, List.map_nil, List.toList_toArray] at c
 exact c
theorem b107 : FnIs Tryz.prog 107 Tryz.f107 24 := ⟨Tryz.func107, by kernel_rfl⟩
def c74 := by
 have c := KK_of Tryz.f74 (by conv => lhs; cbv)
 dsimp only [KK, KxP, doO, opO, List.map_cons, List.map_nil, List.toList_toArray] at c
 exact c
theorem b74 : FnIs Tryz.prog 74 Tryz.f74 22 := ⟨Tryz.func74, by kernel_rfl⟩
def ItemExpr (g : FuncId) (first caps : List V) (l : List ExT) (us : List (List UInt8)) (i t k : Nat) (N : Nat → List (List V)) (T : List (Nat × Nat)) : Prop :=
 us.length = l.length ∧ ∀ j (h : j < l.length) (h' : j < us.length) (s : List UInt8) (J : List (List V)), s.length + us[j].length ≤ mostW → AFn Tryz.prog TabI g (first ++ [exV l[j]] ++ caps) ⟨(N j).set i (bxW i t s k) ++ J, T.set t (s.length, 1)⟩ (Same (.tup []) ⟨(N (j + 1)).set i (bxW i t (s ++ us[j]) k) ++ J, T.set t ((s ++ us[j]).length, 1)⟩)
set_option maxHeartbeats 2000000 in
theorem each_Expr {g : FuncId} {first caps : List V} {l : List ExT} {us : List (List UInt8)} {i t k n m : Nat} {N : Nat → List (List V)} {T : List (Nat × Nat)} (hg : ItemExpr g first caps l us i t k N T) (hN : ∀ j, (N j).length = n) (hi : i < n) (hm : T.length = m) (ht : t < m) (hk : k ≤ 900) (hfit : ∀ j, FitL n m (N 0) (N j)) (s : List UInt8) (hb : s.length + (comT us).length ≤ mostW) :
 AFn Tryz.prog TabI 107 [.ptr i 0, .d (.sl (l.map exD)), .func g first caps] ⟨(N 0).set i (bxW i t s k), T.set t (s.length, 1)⟩ (Same (.tup []) ⟨(N l.length).set i (bxW i t (s ++ comT us) k), T.set t ((s ++ comT us).length, 1)⟩) := by
 obtain ⟨a, ha⟩ : ∃ a, s ++ comT us = a := ⟨_, rfl⟩
 have hal := congrArg List.length ha
 rw [List.length_append] at hal
 rw [ha]
 have hul := hg.1
 have hN0 := hN 0
 refine b107.go 8 rfl fun hsm => ?_
 simp only [smw] at hsm
 simp only [W, seval, c107, hN0, hm]
 refine ARun.fitE fun hfe => ?_
 have hfe2 := hfe 2
 simp only [envS_get, lk_cons, lk_nil, Nat.reduceBEq, Nat.reduceAdd, Nat.reduceSub, cond_true, cond_false, List.length_set, hN0, hm] at hfe2
 clear hfe
 refine ARun.fits fun hf => ?_
 refine ARun.loopB (fun p : Nat × List UInt8 => (envS 24 [(0, .ptr i 0), (2, .func g first caps), (8, .d (.sl (l.map exD))), (9, .d (.int .i64 (l.length : Int))), (10, .d (.int .i64 (p.1 : Int)))], ⟨(N p.1).set i (bxW i t p.2 k), T.set t (p.2.length, 1)⟩)) (fun p => p.1 ≤ l.length ∧ p.2 ++ comB (decide (0 < p.1)) (us.drop p.1) = a) (fun p => l.length - p.1) (0, s) ⟨by simp, ha⟩ ?_ rfl ?_
 ·skip
  refine Agree.env _ ?_
  simp only [agw, seval, hN0]
 rintro ⟨j, s1⟩ ⟨h1, h2⟩ ih
 dsimp only at h1 h2 ih ⊢
 have hNj := hN j
 by_cases hlt : j < l.length
 case neg =>
  have e1 : decide ((j : Int) < (l.length : Int)) = false := decide_eq_false (by omega)
  rw [List.drop_eq_nil_of_le (by omega), comB, List.append_nil] at h2
  subst h2
  obtain rfl : j = l.length := by omega
  refine ARun.go 60 ?_
  simp only [W, seval, c107, e1]
  refine ARun.fin Tryz.func107 rfl (leftW0 hN0 hNj hm hi ht (hfit _) ?_)
  exact ⟨rfl, rfl⟩
 have e1 : decide ((j : Int) < (l.length : Int)) = true := decide_eq_true (by omega)
 have hwj := wrap_in ((j : Int) + 1) (by omega)
 have hga := List.getElem?_eq_getElem hlt
 have hlt' : j < us.length := by omega
 have hgx := hg.2 j hlt hlt'
 rw [comb_drop _ us j hlt'] at h2
 obtain ⟨x, hx⟩ : ∃ x, l[j] = x := ⟨_, rfl⟩
 obtain ⟨ux, hux⟩ : ∃ x, us[j] = x := ⟨_, rfl⟩
 rw [hx] at hga hgx
 rw [hux] at h2 hgx
 have h2l := congrArg List.length h2
 simp only [List.length_append] at h2l
 have hin : i < (N j).length := by omega
 have htm : t < T.length := by omega
 by_cases hj0 : j = 0
 ·have e2 : decide ((0 : Int) < (j : Int)) = false := decide_eq_false (by omega)
  rw [if_neg (by rw [hj0]; simp), List.nil_append, ← List.append_assoc] at h2
  refine ARun.go 60 ?_
  simp only [W, seval, c107, e1, e2, hNj, List.getElem?_map, hga, exD_eq, mapD_nil, mapD_cons]
  refine callS_of (hgx s1 _ (by omega)) ?_
  rintro _ _ ⟨rfl, rfl⟩
  obtain ⟨s3, hs3⟩ : ∃ s3, s1 ++ ux = s3 := ⟨_, rfl⟩
  rw [hs3] at h2 ⊢
  refine ARun.go 60 ?_
  simp only [W, seval, c107, hwj]
  refine ih (j + 1, s3) ⟨by dsimp only; omega, by simpa using h2⟩ (by dsimp only; omega) _ _ _ _ rfl ⟨by simp [hN], by simp [hm]⟩ (fitsW hN0 (hN _) hm hi ht hf (hfit _)) ?_
  have hN1 := hN (j + 1)
  refine AgreeF.env _ ?_
  simp only [agf, seval, hN1, hm]
  exact ⟨decide_eq_true hi, hfe2⟩
 ·have e2 : decide ((0 : Int) < (j : Int)) = true := decide_eq_true (by omega)
  rw [if_pos (decide_eq_true (by omega)), ← List.append_assoc, ← List.append_assoc] at h2
  rw [if_pos (decide_eq_true (by omega))] at h2l
  simp only [List.length_cons, List.length_nil] at h2l
  refine ARun.go 60 ?_
  simp only [W, seval, c107, e1, e2, hNj, List.getElem?_map, hga, exD_eq, mapD_nil, mapD_cons]
  refine (put1 [44, 32]).callJ hin htm hk ?_ fun s2 hs2 => ?_
  ·simp only [List.length_cons, List.length_nil]
   omega
  have hl2 := congrArg List.length hs2
  simp only [List.length_append, List.length_cons, List.length_nil] at hl2
  rw [hs2] at h2
  refine ARun.go 60 ?_
  simp only [W, seval, c107, hNj, hin]
  refine callS_of (hgx s2 _ (by omega)) ?_
  rintro _ _ ⟨rfl, rfl⟩
  obtain ⟨s3, hs3⟩ : ∃ s3, s2 ++ ux = s3 := ⟨_, rfl⟩
  rw [hs3] at h2
  rw [hs3]
  refine ARun.go 60 ?_
  simp only [W, seval, c107, hwj]
  refine ih (j + 1, s3) ⟨by dsimp only; omega, by simpa using h2⟩ (by dsimp only; omega) _ _ _ _ rfl ⟨by simp [hN], by simp [hm]⟩ (fitsW hN0 (hN _) hm hi ht hf (hfit _)) ?_
  have hN1 := hN (j + 1)
  refine AgreeF.env _ ?_
  simp only [agf, seval, hN1, hm]
  exact ⟨decide_eq_true hi, hfe2⟩
set_option maxHeartbeats 2000000 in
theorem list_Expr {g : FuncId} {first caps : List V} {l : List ExT} {us : List (List UInt8)} {i t k n m : Nat} {N : Nat → List (List V)} {T : List (Nat × Nat)} (hg : ItemExpr g first caps l us i t k N T) (hN : ∀ j, (N j).length = n) (hi : i < n) (hm : T.length = m) (ht : t < m) (hk : k ≤ 900) (hfit : ∀ j, FitL n m (N 0) (N j)) (o e s : List UInt8) (hb : s.length + (o ++ comT us ++ e).length ≤ mostW) :
 AFn Tryz.prog TabI 74 [.ptr i 0, .d (.str o), .d (.sl (l.map exD)), .func g first caps, .d (.str e)] ⟨(N 0).set i (bxW i t s k), T.set t (s.length, 1)⟩ (Same (.tup []) ⟨(N l.length).set i (bxW i t (s ++ (o ++ comT us ++ e)) k), T.set t ((s ++ (o ++ comT us ++ e)).length, 1)⟩) := by
 obtain ⟨a, ha⟩ : ∃ a, s ++ (o ++ comT us ++ e) = a := ⟨_, rfl⟩
 rw [ha]
 simp only [List.length_append] at hb
 have hN0 := hN 0
 have hNl := hN l.length
 have hin : i < (N 0).length := by omega
 have htm : t < T.length := by omega
 refine b74.go 12 rfl fun hsm => ?_
 simp only [smw] at hsm
 simp only [W, seval, c74, hN0, hm, mapD_nil, mapD_cons]
 refine (put1 o).call0 hin htm hk ?_ fun s1 hs1 => ?_
 ·omega
 have hl1 := congrArg List.length hs1
 simp only [List.length_append] at hl1
 refine ARun.go 12 ?_
 simp only [W, seval, c74, hN0]
 refine callS_of (each_Expr hg hN hi hm ht hk hfit s1 (by omega)) ?_
 rintro _ _ ⟨rfl, rfl⟩
 obtain ⟨s2, hs2⟩ : ∃ s2, s1 ++ comT us = s2 := ⟨_, rfl⟩
 rw [hs2]
 have hl2 := congrArg List.length hs2
 simp only [List.length_append] at hl2
 refine ARun.go 12 ?_
 simp only [W, seval, c74, hNl, mapD_nil, mapD_cons]
 refine (put1 e).call0 (by omega) htm hk ?_ fun s3 hs3 => ?_
 ·omega
 refine ARun.go 12 ?_
 simp only [W, seval, c74, hNl, mapD_nil, mapD_cons]
 refine ARun.fin Tryz.func74 rfl (leftW0 hN0 hNl hm hi ht (hfit _) ?_)
 subst hs1
 subst hs2
 subst hs3
 subst ha
 exact ⟨rfl, by simp⟩
theorem itemExpr {g : FuncId} {l : List ExT} {tx : ExT → List UInt8} (hg : ∀ x ∈ l, PW g [exV x] fun _ => tx x) {i t k : Nat} {B : List (List V)} {T : List (Nat × Nat)} (hi : i < B.length) (ht : t < T.length) (hk : k ≤ 900) : ItemExpr g [.ptr i 0] [] l (l.map tx) i t k (fun _ => B) T := ⟨by simp, fun j h h' s J hs => by
 rw [List.getElem_map] at hs ⊢
 have := (hg l[j] (List.getElem_mem h)).fn (J := J) (K := []) hi ht hk hs
 rw [List.append_nil, List.append_nil] at this
 exact this⟩
theorem list_Expr_pl {g : FuncId} {l : List ExT} {tx : ExT → List UInt8} (hg : ∀ x ∈ l, PW g [exV x] fun _ => tx x) (o e : List UInt8) : PL 74 (fun i => [.d (.str o), .d (.sl (l.map exD)), .func g [.ptr i 0] [], .d (.str e)]) fun _ => o ++ comT (l.map tx) ++ e :=
 fun i t s k B T hi ht hk hb => list_Expr (N := fun _ => B) (itemExpr hg hi ht hk) (fun _ => rfl) hi rfl ht hk (fun _ => .refl _ _ _) o e s hb
theorem each_Expr_pl {g : FuncId} {l : List ExT} {tx : ExT → List UInt8} (hg : ∀ x ∈ l, PW g [exV x] fun _ => tx x) : PL 107 (fun i => [.d (.sl (l.map exD)), .func g [.ptr i 0] []]) fun _ => comT (l.map tx) :=
 fun i t s k B T hi ht hk hb => each_Expr (N := fun _ => B) (itemExpr hg hi ht hk) (fun _ => rfl) hi rfl ht hk (fun _ => .refl _ _ _) s hb
def c86 := by
 have c := KK_of Tryz.f86 (by conv => lhs; cbv)
 dsimp only [KK, KxP, doO, opO, List.map_cons, List.map_nil, List.toList_toArray] at c
 exact c
theorem b86 : FnIs Tryz.prog 86 Tryz.f86 24 := ⟨Tryz.func86, by kernel_rfl⟩
def c52 := by
 have c := KK_of Tryz.f52 (by conv => lhs; cbv)
 dsimp only [KK, KxP, doO, opO, List.map_cons, List.map_nil, List.toList_toArray] at c
 exact c
theorem b52 : FnIs Tryz.prog 52 Tryz.f52 22 := ⟨Tryz.func52, by kernel_rfl⟩
def ItemType (g : FuncId) (first caps : List V) (l : List TyT) (us : List (List UInt8)) (i t k : Nat) (N : Nat → List (List V)) (T : List (Nat × Nat)) : Prop :=
 us.length = l.length ∧ ∀ j (h : j < l.length) (h' : j < us.length) (s : List UInt8) (J : List (List V)), s.length + us[j].length ≤ mostW → AFn Tryz.prog TabI g (first ++ [tyV l[j]] ++ caps) ⟨(N j).set i (bxW i t s k) ++ J, T.set t (s.length, 1)⟩ (Same (.tup []) ⟨(N (j + 1)).set i (bxW i t (s ++ us[j]) k) ++ J, T.set t ((s ++ us[j]).length, 1)⟩)
set_option maxHeartbeats 2000000 in
theorem each_Type {g : FuncId} {first caps : List V} {l : List TyT} {us : List (List UInt8)} {i t k n m : Nat} {N : Nat → List (List V)} {T : List (Nat × Nat)} (hg : ItemType g first caps l us i t k N T) (hN : ∀ j, (N j).length = n) (hi : i < n) (hm : T.length = m) (ht : t < m) (hk : k ≤ 900) (hfit : ∀ j, FitL n m (N 0) (N j)) (s : List UInt8) (hb : s.length + (comT us).length ≤ mostW) :
 AFn Tryz.prog TabI 86 [.ptr i 0, .d (.sl (l.map tyD)), .func g first caps] ⟨(N 0).set i (bxW i t s k), T.set t (s.length, 1)⟩ (Same (.tup []) ⟨(N l.length).set i (bxW i t (s ++ comT us) k), T.set t ((s ++ comT us).length, 1)⟩) := by
 obtain ⟨a, ha⟩ : ∃ a, s ++ comT us = a := ⟨_, rfl⟩
 have hal := congrArg List.length ha
 rw [List.length_append] at hal
 rw [ha]
 have hul := hg.1
 have hN0 := hN 0
 refine b86.go 8 rfl fun hsm => ?_
 simp only [smw] at hsm
 simp only [W, seval, c86, hN0, hm]
 refine ARun.fitE fun hfe => ?_
 have hfe2 := hfe 2
 simp only [envS_get, lk_cons, lk_nil, Nat.reduceBEq, Nat.reduceAdd, Nat.reduceSub, cond_true, cond_false, List.length_set, hN0, hm] at hfe2
 clear hfe
 refine ARun.fits fun hf => ?_
 refine ARun.loopB (fun p : Nat × List UInt8 => (envS 24 [(0, .ptr i 0), (2, .func g first caps), (8, .d (.sl (l.map tyD))), (9, .d (.int .i64 (l.length : Int))), (10, .d (.int .i64 (p.1 : Int)))], ⟨(N p.1).set i (bxW i t p.2 k), T.set t (p.2.length, 1)⟩)) (fun p => p.1 ≤ l.length ∧ p.2 ++ comB (decide (0 < p.1)) (us.drop p.1) = a) (fun p => l.length - p.1) (0, s) ⟨by simp, ha⟩ ?_ rfl ?_
 ·skip
  refine Agree.env _ ?_
  simp only [agw, seval, hN0]
 rintro ⟨j, s1⟩ ⟨h1, h2⟩ ih
 dsimp only at h1 h2 ih ⊢
 have hNj := hN j
 by_cases hlt : j < l.length
 case neg =>
  have e1 : decide ((j : Int) < (l.length : Int)) = false := decide_eq_false (by omega)
  rw [List.drop_eq_nil_of_le (by omega), comB, List.append_nil] at h2
  subst h2
  obtain rfl : j = l.length := by omega
  refine ARun.go 60 ?_
  simp only [W, seval, c86, e1]
  refine ARun.fin Tryz.func86 rfl (leftW0 hN0 hNj hm hi ht (hfit _) ?_)
  exact ⟨rfl, rfl⟩
 have e1 : decide ((j : Int) < (l.length : Int)) = true := decide_eq_true (by omega)
 have hwj := wrap_in ((j : Int) + 1) (by omega)
 have hga := List.getElem?_eq_getElem hlt
 have hlt' : j < us.length := by omega
 have hgx := hg.2 j hlt hlt'
 rw [comb_drop _ us j hlt'] at h2
 obtain ⟨x, hx⟩ : ∃ x, l[j] = x := ⟨_, rfl⟩
 obtain ⟨ux, hux⟩ : ∃ x, us[j] = x := ⟨_, rfl⟩
 rw [hx] at hga hgx
 rw [hux] at h2 hgx
 have h2l := congrArg List.length h2
 simp only [List.length_append] at h2l
 have hin : i < (N j).length := by omega
 have htm : t < T.length := by omega
 by_cases hj0 : j = 0
 ·have e2 : decide ((0 : Int) < (j : Int)) = false := decide_eq_false (by omega)
  rw [if_neg (by rw [hj0]; simp), List.nil_append, ← List.append_assoc] at h2
  refine ARun.go 60 ?_
  simp only [W, seval, c86, e1, e2, hNj, List.getElem?_map, hga, tyD_eq, mapD_nil, mapD_cons]
  refine callS_of (hgx s1 _ (by omega)) ?_
  rintro _ _ ⟨rfl, rfl⟩
  obtain ⟨s3, hs3⟩ : ∃ s3, s1 ++ ux = s3 := ⟨_, rfl⟩
  rw [hs3] at h2 ⊢
  refine ARun.go 60 ?_
  simp only [W, seval, c86, hwj]
  refine ih (j + 1, s3) ⟨by dsimp only; omega, by simpa using h2⟩ (by dsimp only; omega) _ _ _ _ rfl ⟨by simp [hN], by simp [hm]⟩ (fitsW hN0 (hN _) hm hi ht hf (hfit _)) ?_
  have hN1 := hN (j + 1)
  refine AgreeF.env _ ?_
  simp only [agf, seval, hN1, hm]
  exact ⟨decide_eq_true hi, hfe2⟩
 ·have e2 : decide ((0 : Int) < (j : Int)) = true := decide_eq_true (by omega)
  rw [if_pos (decide_eq_true (by omega)), ← List.append_assoc, ← List.append_assoc] at h2
  rw [if_pos (decide_eq_true (by omega))] at h2l
  simp only [List.length_cons, List.length_nil] at h2l
  refine ARun.go 60 ?_
  simp only [W, seval, c86, e1, e2, hNj, List.getElem?_map, hga, tyD_eq, mapD_nil, mapD_cons]
  refine (put1 [44, 32]).callJ hin htm hk ?_ fun s2 hs2 => ?_
  ·simp only [List.length_cons, List.length_nil]
   omega
  have hl2 := congrArg List.length hs2
  simp only [List.length_append, List.length_cons, List.length_nil] at hl2
  rw [hs2] at h2
  refine ARun.go 60 ?_
  simp only [W, seval, c86, hNj, hin]
  refine callS_of (hgx s2 _ (by omega)) ?_
  rintro _ _ ⟨rfl, rfl⟩
  obtain ⟨s3, hs3⟩ : ∃ s3, s2 ++ ux = s3 := ⟨_, rfl⟩
  rw [hs3] at h2
  rw [hs3]
  refine ARun.go 60 ?_
  simp only [W, seval, c86, hwj]
  refine ih (j + 1, s3) ⟨by dsimp only; omega, by simpa using h2⟩ (by dsimp only; omega) _ _ _ _ rfl ⟨by simp [hN], by simp [hm]⟩ (fitsW hN0 (hN _) hm hi ht hf (hfit _)) ?_
  have hN1 := hN (j + 1)
  refine AgreeF.env _ ?_
  simp only [agf, seval, hN1, hm]
  exact ⟨decide_eq_true hi, hfe2⟩
set_option maxHeartbeats 2000000 in
theorem list_Type {g : FuncId} {first caps : List V} {l : List TyT} {us : List (List UInt8)} {i t k n m : Nat} {N : Nat → List (List V)} {T : List (Nat × Nat)} (hg : ItemType g first caps l us i t k N T) (hN : ∀ j, (N j).length = n) (hi : i < n) (hm : T.length = m) (ht : t < m) (hk : k ≤ 900) (hfit : ∀ j, FitL n m (N 0) (N j)) (o e s : List UInt8) (hb : s.length + (o ++ comT us ++ e).length ≤ mostW) :
 AFn Tryz.prog TabI 52 [.ptr i 0, .d (.str o), .d (.sl (l.map tyD)), .func g first caps, .d (.str e)] ⟨(N 0).set i (bxW i t s k), T.set t (s.length, 1)⟩ (Same (.tup []) ⟨(N l.length).set i (bxW i t (s ++ (o ++ comT us ++ e)) k), T.set t ((s ++ (o ++ comT us ++ e)).length, 1)⟩) := by
 obtain ⟨a, ha⟩ : ∃ a, s ++ (o ++ comT us ++ e) = a := ⟨_, rfl⟩
 rw [ha]
 simp only [List.length_append] at hb
 have hN0 := hN 0
 have hNl := hN l.length
 have hin : i < (N 0).length := by omega
 have htm : t < T.length := by omega
 refine b52.go 12 rfl fun hsm => ?_
 simp only [smw] at hsm
 simp only [W, seval, c52, hN0, hm, mapD_nil, mapD_cons]
 refine (put1 o).call0 hin htm hk ?_ fun s1 hs1 => ?_
 ·omega
 have hl1 := congrArg List.length hs1
 simp only [List.length_append] at hl1
 refine ARun.go 12 ?_
 simp only [W, seval, c52, hN0]
 refine callS_of (each_Type hg hN hi hm ht hk hfit s1 (by omega)) ?_
 rintro _ _ ⟨rfl, rfl⟩
 obtain ⟨s2, hs2⟩ : ∃ s2, s1 ++ comT us = s2 := ⟨_, rfl⟩
 rw [hs2]
 have hl2 := congrArg List.length hs2
 simp only [List.length_append] at hl2
 refine ARun.go 12 ?_
 simp only [W, seval, c52, hNl, mapD_nil, mapD_cons]
 refine (put1 e).call0 (by omega) htm hk ?_ fun s3 hs3 => ?_
 ·omega
 refine ARun.go 12 ?_
 simp only [W, seval, c52, hNl, mapD_nil, mapD_cons]
 refine ARun.fin Tryz.func52 rfl (leftW0 hN0 hNl hm hi ht (hfit _) ?_)
 subst hs1
 subst hs2
 subst hs3
 subst ha
 exact ⟨rfl, by simp⟩
theorem itemType {g : FuncId} {l : List TyT} {tx : TyT → List UInt8} (hg : ∀ x ∈ l, PW g [tyV x] fun _ => tx x) {i t k : Nat} {B : List (List V)} {T : List (Nat × Nat)} (hi : i < B.length) (ht : t < T.length) (hk : k ≤ 900) : ItemType g [.ptr i 0] [] l (l.map tx) i t k (fun _ => B) T := ⟨by simp, fun j h h' s J hs => by
 rw [List.getElem_map] at hs ⊢
 have := (hg l[j] (List.getElem_mem h)).fn (J := J) (K := []) hi ht hk hs
 rw [List.append_nil, List.append_nil] at this
 exact this⟩
theorem list_Type_pl {g : FuncId} {l : List TyT} {tx : TyT → List UInt8} (hg : ∀ x ∈ l, PW g [tyV x] fun _ => tx x) (o e : List UInt8) : PL 52 (fun i => [.d (.str o), .d (.sl (l.map tyD)), .func g [.ptr i 0] [], .d (.str e)]) fun _ => o ++ comT (l.map tx) ++ e :=
 fun i t s k B T hi ht hk hb => list_Type (N := fun _ => B) (itemType hg hi ht hk) (fun _ => rfl) hi rfl ht hk (fun _ => .refl _ _ _) o e s hb
def c85 := by
 have c := KK_of Tryz.f85 (by conv => lhs; cbv)
 dsimp only [KK, KxP, doO, opO, List.map_cons, List.map_nil, List.toList_toArray] at c
 exact c
theorem b85 : FnIs Tryz.prog 85 Tryz.f85 24 := ⟨Tryz.func85, by kernel_rfl⟩
def c51 := by
 have c := KK_of Tryz.f51 (by conv => lhs; cbv)
 dsimp only [KK, KxP, doO, opO, List.map_cons, List.map_nil, List.toList_toArray] at c
 exact c
theorem b51 : FnIs Tryz.prog 51 Tryz.f51 22 := ⟨Tryz.func51, by kernel_rfl⟩
def ItemParam (g : FuncId) (first caps : List V) (l : List PaT) (us : List (List UInt8)) (i t k : Nat) (N : Nat → List (List V)) (T : List (Nat × Nat)) : Prop :=
 us.length = l.length ∧ ∀ j (h : j < l.length) (h' : j < us.length) (s : List UInt8) (J : List (List V)), s.length + us[j].length ≤ mostW → AFn Tryz.prog TabI g (first ++ [paV l[j]] ++ caps) ⟨(N j).set i (bxW i t s k) ++ J, T.set t (s.length, 1)⟩ (Same (.tup []) ⟨(N (j + 1)).set i (bxW i t (s ++ us[j]) k) ++ J, T.set t ((s ++ us[j]).length, 1)⟩)
set_option maxHeartbeats 2000000 in
theorem each_Param {g : FuncId} {first caps : List V} {l : List PaT} {us : List (List UInt8)} {i t k n m : Nat} {N : Nat → List (List V)} {T : List (Nat × Nat)} (hg : ItemParam g first caps l us i t k N T) (hN : ∀ j, (N j).length = n) (hi : i < n) (hm : T.length = m) (ht : t < m) (hk : k ≤ 900) (hfit : ∀ j, FitL n m (N 0) (N j)) (s : List UInt8) (hb : s.length + (comT us).length ≤ mostW) :
 AFn Tryz.prog TabI 85 [.ptr i 0, .d (.sl (l.map paD)), .func g first caps] ⟨(N 0).set i (bxW i t s k), T.set t (s.length, 1)⟩ (Same (.tup []) ⟨(N l.length).set i (bxW i t (s ++ comT us) k), T.set t ((s ++ comT us).length, 1)⟩) := by
 obtain ⟨a, ha⟩ : ∃ a, s ++ comT us = a := ⟨_, rfl⟩
 have hal := congrArg List.length ha
 rw [List.length_append] at hal
 rw [ha]
 have hul := hg.1
 have hN0 := hN 0
 refine b85.go 8 rfl fun hsm => ?_
 simp only [smw] at hsm
 simp only [W, seval, c85, hN0, hm]
 refine ARun.fitE fun hfe => ?_
 have hfe2 := hfe 2
 simp only [envS_get, lk_cons, lk_nil, Nat.reduceBEq, Nat.reduceAdd, Nat.reduceSub, cond_true, cond_false, List.length_set, hN0, hm] at hfe2
 clear hfe
 refine ARun.fits fun hf => ?_
 refine ARun.loopB (fun p : Nat × List UInt8 => (envS 24 [(0, .ptr i 0), (2, .func g first caps), (8, .d (.sl (l.map paD))), (9, .d (.int .i64 (l.length : Int))), (10, .d (.int .i64 (p.1 : Int)))], ⟨(N p.1).set i (bxW i t p.2 k), T.set t (p.2.length, 1)⟩)) (fun p => p.1 ≤ l.length ∧ p.2 ++ comB (decide (0 < p.1)) (us.drop p.1) = a) (fun p => l.length - p.1) (0, s) ⟨by simp, ha⟩ ?_ rfl ?_
 ·skip
  refine Agree.env _ ?_
  simp only [agw, seval, hN0]
 rintro ⟨j, s1⟩ ⟨h1, h2⟩ ih
 dsimp only at h1 h2 ih ⊢
 have hNj := hN j
 by_cases hlt : j < l.length
 case neg =>
  have e1 : decide ((j : Int) < (l.length : Int)) = false := decide_eq_false (by omega)
  rw [List.drop_eq_nil_of_le (by omega), comB, List.append_nil] at h2
  subst h2
  obtain rfl : j = l.length := by omega
  refine ARun.go 60 ?_
  simp only [W, seval, c85, e1]
  refine ARun.fin Tryz.func85 rfl (leftW0 hN0 hNj hm hi ht (hfit _) ?_)
  exact ⟨rfl, rfl⟩
 have e1 : decide ((j : Int) < (l.length : Int)) = true := decide_eq_true (by omega)
 have hwj := wrap_in ((j : Int) + 1) (by omega)
 have hga := List.getElem?_eq_getElem hlt
 have hlt' : j < us.length := by omega
 have hgx := hg.2 j hlt hlt'
 rw [comb_drop _ us j hlt'] at h2
 obtain ⟨x, hx⟩ : ∃ x, l[j] = x := ⟨_, rfl⟩
 obtain ⟨ux, hux⟩ : ∃ x, us[j] = x := ⟨_, rfl⟩
 rw [hx] at hga hgx
 rw [hux] at h2 hgx
 have h2l := congrArg List.length h2
 simp only [List.length_append] at h2l
 have hin : i < (N j).length := by omega
 have htm : t < T.length := by omega
 by_cases hj0 : j = 0
 ·have e2 : decide ((0 : Int) < (j : Int)) = false := decide_eq_false (by omega)
  rw [if_neg (by rw [hj0]; simp), List.nil_append, ← List.append_assoc] at h2
  refine ARun.go 60 ?_
  simp only [W, seval, c85, e1, e2, hNj, List.getElem?_map, hga, paD_eq, mapD_nil, mapD_cons]
  refine callS_of (hgx s1 _ (by omega)) ?_
  rintro _ _ ⟨rfl, rfl⟩
  obtain ⟨s3, hs3⟩ : ∃ s3, s1 ++ ux = s3 := ⟨_, rfl⟩
  rw [hs3] at h2 ⊢
  refine ARun.go 60 ?_
  simp only [W, seval, c85, hwj]
  refine ih (j + 1, s3) ⟨by dsimp only; omega, by simpa using h2⟩ (by dsimp only; omega) _ _ _ _ rfl ⟨by simp [hN], by simp [hm]⟩ (fitsW hN0 (hN _) hm hi ht hf (hfit _)) ?_
  have hN1 := hN (j + 1)
  refine AgreeF.env _ ?_
  simp only [agf, seval, hN1, hm]
  exact ⟨decide_eq_true hi, hfe2⟩
 ·have e2 : decide ((0 : Int) < (j : Int)) = true := decide_eq_true (by omega)
  rw [if_pos (decide_eq_true (by omega)), ← List.append_assoc, ← List.append_assoc] at h2
  rw [if_pos (decide_eq_true (by omega))] at h2l
  simp only [List.length_cons, List.length_nil] at h2l
  refine ARun.go 60 ?_
  simp only [W, seval, c85, e1, e2, hNj, List.getElem?_map, hga, paD_eq, mapD_nil, mapD_cons]
  refine (put1 [44, 32]).callJ hin htm hk ?_ fun s2 hs2 => ?_
  ·simp only [List.length_cons, List.length_nil]
   omega
  have hl2 := congrArg List.length hs2
  simp only [List.length_append, List.length_cons, List.length_nil] at hl2
  rw [hs2] at h2
  refine ARun.go 60 ?_
  simp only [W, seval, c85, hNj, hin]
  refine callS_of (hgx s2 _ (by omega)) ?_
  rintro _ _ ⟨rfl, rfl⟩
  obtain ⟨s3, hs3⟩ : ∃ s3, s2 ++ ux = s3 := ⟨_, rfl⟩
  rw [hs3] at h2
  rw [hs3]
  refine ARun.go 60 ?_
  simp only [W, seval, c85, hwj]
  refine ih (j + 1, s3) ⟨by dsimp only; omega, by simpa using h2⟩ (by dsimp only; omega) _ _ _ _ rfl ⟨by simp [hN], by simp [hm]⟩ (fitsW hN0 (hN _) hm hi ht hf (hfit _)) ?_
  have hN1 := hN (j + 1)
  refine AgreeF.env _ ?_
  simp only [agf, seval, hN1, hm]
  exact ⟨decide_eq_true hi, hfe2⟩
set_option maxHeartbeats 2000000 in
theorem list_Param {g : FuncId} {first caps : List V} {l : List PaT} {us : List (List UInt8)} {i t k n m : Nat} {N : Nat → List (List V)} {T : List (Nat × Nat)} (hg : ItemParam g first caps l us i t k N T) (hN : ∀ j, (N j).length = n) (hi : i < n) (hm : T.length = m) (ht : t < m) (hk : k ≤ 900) (hfit : ∀ j, FitL n m (N 0) (N j)) (o e s : List UInt8) (hb : s.length + (o ++ comT us ++ e).length ≤ mostW) :
 AFn Tryz.prog TabI 51 [.ptr i 0, .d (.str o), .d (.sl (l.map paD)), .func g first caps, .d (.str e)] ⟨(N 0).set i (bxW i t s k), T.set t (s.length, 1)⟩ (Same (.tup []) ⟨(N l.length).set i (bxW i t (s ++ (o ++ comT us ++ e)) k), T.set t ((s ++ (o ++ comT us ++ e)).length, 1)⟩) := by
 obtain ⟨a, ha⟩ : ∃ a, s ++ (o ++ comT us ++ e) = a := ⟨_, rfl⟩
 rw [ha]
 simp only [List.length_append] at hb
 have hN0 := hN 0
 have hNl := hN l.length
 have hin : i < (N 0).length := by omega
 have htm : t < T.length := by omega
 refine b51.go 12 rfl fun hsm => ?_
 simp only [smw] at hsm
 simp only [W, seval, c51, hN0, hm, mapD_nil, mapD_cons]
 refine (put1 o).call0 hin htm hk ?_ fun s1 hs1 => ?_
 ·omega
 have hl1 := congrArg List.length hs1
 simp only [List.length_append] at hl1
 refine ARun.go 12 ?_
 simp only [W, seval, c51, hN0]
 refine callS_of (each_Param hg hN hi hm ht hk hfit s1 (by omega)) ?_
 rintro _ _ ⟨rfl, rfl⟩
 obtain ⟨s2, hs2⟩ : ∃ s2, s1 ++ comT us = s2 := ⟨_, rfl⟩
 rw [hs2]
 have hl2 := congrArg List.length hs2
 simp only [List.length_append] at hl2
 refine ARun.go 12 ?_
 simp only [W, seval, c51, hNl, mapD_nil, mapD_cons]
 refine (put1 e).call0 (by omega) htm hk ?_ fun s3 hs3 => ?_
 ·omega
 refine ARun.go 12 ?_
 simp only [W, seval, c51, hNl, mapD_nil, mapD_cons]
 refine ARun.fin Tryz.func51 rfl (leftW0 hN0 hNl hm hi ht (hfit _) ?_)
 subst hs1
 subst hs2
 subst hs3
 subst ha
 exact ⟨rfl, by simp⟩
theorem itemParam {g : FuncId} {l : List PaT} {tx : PaT → List UInt8} (hg : ∀ x ∈ l, PW g [paV x] fun _ => tx x) {i t k : Nat} {B : List (List V)} {T : List (Nat × Nat)} (hi : i < B.length) (ht : t < T.length) (hk : k ≤ 900) : ItemParam g [.ptr i 0] [] l (l.map tx) i t k (fun _ => B) T := ⟨by simp, fun j h h' s J hs => by
 rw [List.getElem_map] at hs ⊢
 have := (hg l[j] (List.getElem_mem h)).fn (J := J) (K := []) hi ht hk hs
 rw [List.append_nil, List.append_nil] at this
 exact this⟩
theorem list_Param_pl {g : FuncId} {l : List PaT} {tx : PaT → List UInt8} (hg : ∀ x ∈ l, PW g [paV x] fun _ => tx x) (o e : List UInt8) : PL 51 (fun i => [.d (.str o), .d (.sl (l.map paD)), .func g [.ptr i 0] [], .d (.str e)]) fun _ => o ++ comT (l.map tx) ++ e :=
 fun i t s k B T hi ht hk hb => list_Param (N := fun _ => B) (itemParam hg hi ht hk) (fun _ => rfl) hi rfl ht hk (fun _ => .refl _ _ _) o e s hb
end Go.Proofs.YtfaoamebphckbaaGreatDoor
namespace Go.Proofs
open Go.Shelf
def Tryz.lays105_ren : Go.Shelf.Ren := ⟨fun | 105 => 145 | 212 => 166 | 99 => 167 | 165 => 168 | 166 => 84 | 170 => 54 | 169 => 47 | 263 => 179 | 264 => 180 | 206 => 181 | 240 => 114 | 241 => 182 | 276 => 144 | 277 => 185 | n => n, fun | 9 => 9 | 3 => 3 | 4 => 4 | 20 => 20 | 0 => 0 | 46 => 190 | 109 => 195 | 5 => 5 | 72 => 52 | 76 => 135 | 51 => 188 | 146 => 206 | 53 => 39 | 148 => 208 | 70 => 50 | 37 => 28 | 75 => 134 | 127 => 128 | 164 => 176 | 80 => 70 | n => n, fun | n => n⟩
theorem Tryz.lays105 : Go.Proofs.Lays.n105 Tryz.prog Tryz.lays105_ren := {
 mixed := by kernel_rfl
 f99 := Tryz.func167.trans (congrArg some (by kernel_rfl))
 f105 := Tryz.func145.trans (congrArg some (by kernel_rfl))
 f165 := Tryz.func168.trans (congrArg some (by kernel_rfl))
 f166 := Tryz.func84.trans (congrArg some (by kernel_rfl))
 f169 := Tryz.func47.trans (congrArg some (by kernel_rfl))
 f170 := Tryz.func54.trans (congrArg some (by kernel_rfl))
 f206 := Tryz.func181.trans (congrArg some (by kernel_rfl))
 f212 := Tryz.func166.trans (congrArg some (by kernel_rfl))
 f240 := Tryz.func114.trans (congrArg some (by kernel_rfl))
 f241 := Tryz.func182.trans (congrArg some (by kernel_rfl))
 f263 := Tryz.func179.trans (congrArg some (by kernel_rfl))
 f264 := Tryz.func180.trans (congrArg some (by kernel_rfl))
 f276 := Tryz.func144.trans (congrArg some (by kernel_rfl))
 f277 := Tryz.func185.trans (congrArg some (by kernel_rfl))
 t0 := Tryz.underlying0
 a0 := Tryz.isAgg0
 z0 := Tryz.sizeOf0
 v0 := Tryz.zeroValue0
 t3 := Tryz.underlying3
 a3 := Tryz.isAgg3
 z3 := Tryz.sizeOf3
 v3 := Tryz.zeroValue3
 t4 := Tryz.underlying4
 a4 := Tryz.isAgg4
 z4 := Tryz.sizeOf4
 v4 := Tryz.zeroValue4
 t5 := Tryz.underlying5
 a5 := Tryz.isAgg5
 z5 := Tryz.sizeOf5
 v5 := Tryz.zeroValue5
 t9 := Tryz.underlying9
 a9 := Tryz.isAgg9
 z9 := Tryz.sizeOf9
 v9 := Tryz.zeroValue9
 t20 := Tryz.underlying20
 a20 := Tryz.isAgg20
 z20 := Tryz.sizeOf20
 v20 := Tryz.zeroValue20
 t37 := Tryz.underlying28
 a37 := Tryz.isAgg28
 z37 := Tryz.sizeOf28
 v37 := Tryz.zeroValue28
 t46 := Tryz.underlying190
 a46 := Tryz.isAgg190
 z46 := Tryz.sizeOf190
 v46 := Tryz.zeroValue190
 t51 := Tryz.underlying188
 a51 := Tryz.isAgg188
 z51 := Tryz.sizeOf188
 v51 := Tryz.zeroValue188
 t53 := Tryz.underlying39
 a53 := Tryz.isAgg39
 z53 := Tryz.sizeOf39
 v53 := Tryz.zeroValue39
 t70 := Tryz.underlying50
 a70 := Tryz.isAgg50
 z70 := Tryz.sizeOf50
 v70 := Tryz.zeroValue50
 t72 := Tryz.underlying52
 a72 := Tryz.isAgg52
 z72 := Tryz.sizeOf52
 v72 := Tryz.zeroValue52
 t75 := Tryz.underlying134
 a75 := Tryz.isAgg134
 z75 := Tryz.sizeOf134
 v75 := Tryz.zeroValue134
 t76 := Tryz.underlying135
 a76 := Tryz.isAgg135
 z76 := Tryz.sizeOf135
 v76 := Tryz.zeroValue135
 t109 := Tryz.underlying195
 a109 := Tryz.isAgg195
 z109 := Tryz.sizeOf195
 v109 := Tryz.zeroValue195
 t127 := Tryz.underlying128
 a127 := Tryz.isAgg128
 z127 := Tryz.sizeOf128
 v127 := Tryz.zeroValue128
 t146 := Tryz.underlying206
 a146 := Tryz.isAgg206
 z146 := Tryz.sizeOf206
 v146 := Tryz.zeroValue206
 t148 := Tryz.underlying208
 a148 := Tryz.isAgg208
 z148 := Tryz.sizeOf208
 v148 := Tryz.zeroValue208
 t164 := Tryz.underlying176
 a164 := Tryz.isAgg176
 z164 := Tryz.sizeOf176
 v164 := Tryz.zeroValue176 }
theorem Tryz.Builder_Extra_105 : Builder.Extra Tryz.prog Tryz.lays105_ren := {
 sizeBuilder := by kernel_rfl
 liesBuilder := by kernel_rfl
 t5 := Tryz.underlying5
 a5 := Tryz.isAgg5
 z5 := Tryz.sizeOf5
 v5 := Tryz.zeroValue5
 infoByte := by kernel_rfl
 cellsByte := by kernel_rfl
 sizeByte := by kernel_rfl
 neB5 := by decide }
open Go.RowKit Go.Lib in
def Tryz.lays283_ren : Go.Shelf.Ren := ⟨fun | 283 => 135 | n => n, fun | 3 => 3 | 9 => 9 | 4 => 4 | n => n, fun | n => n⟩
theorem Tryz.lays283 : Go.Proofs.Lays.n283 Tryz.prog Tryz.lays283_ren := {
 mixed := by kernel_rfl
 f283 := Tryz.func135.trans (congrArg some (by kernel_rfl))
 t3 := Tryz.underlying3
 a3 := Tryz.isAgg3
 z3 := Tryz.sizeOf3
 v3 := Tryz.zeroValue3
 t4 := Tryz.underlying4
 a4 := Tryz.isAgg4
 z4 := Tryz.sizeOf4
 v4 := Tryz.zeroValue4
 t9 := Tryz.underlying9
 a9 := Tryz.isAgg9
 z9 := Tryz.sizeOf9
 v9 := Tryz.zeroValue9 }
open Go.Lib in
def Tryz.laysM284_ren : Go.Shelf.Ren := ⟨fun | 284 => 136 | 129 => 156 | 317 => 155 | 318 => 157 | n => n, fun | 53 => 39 | 3 => 3 | 212 => 187 | 0 => 0 | 4 => 4 | 46 => 190 | 5 => 5 | 9 => 9 | n => n, fun | 17 => 2 | n => n⟩
theorem Tryz.laysM284 : Go.Proofs.LaysM.n284 Tryz.prog Tryz.laysM284_ren := {
 mixed := by kernel_rfl
 f129 := Tryz.func156.trans (congrArg some (by kernel_rfl))
 f284 := Tryz.func136.trans (congrArg some (by kernel_rfl))
 f317 := Tryz.func155.trans (congrArg some (by kernel_rfl))
 f318 := Tryz.func157.trans (congrArg some (by kernel_rfl))
 t0 := Tryz.underlying0
 a0 := Tryz.isAgg0
 z0 := Tryz.sizeOf0
 v0 := Tryz.zeroValue0
 t3 := Tryz.underlying3
 a3 := Tryz.isAgg3
 z3 := Tryz.sizeOf3
 v3 := Tryz.zeroValue3
 t4 := Tryz.underlying4
 a4 := Tryz.isAgg4
 z4 := Tryz.sizeOf4
 v4 := Tryz.zeroValue4
 t5 := Tryz.underlying5
 a5 := Tryz.isAgg5
 z5 := Tryz.sizeOf5
 v5 := Tryz.zeroValue5
 t9 := Tryz.underlying9
 a9 := Tryz.isAgg9
 z9 := Tryz.sizeOf9
 v9 := Tryz.zeroValue9
 t46 := Tryz.underlying190
 a46 := Tryz.isAgg190
 z46 := Tryz.sizeOf190
 v46 := Tryz.zeroValue190
 t53 := Tryz.underlying39
 a53 := Tryz.isAgg39
 z53 := Tryz.sizeOf39
 v53 := Tryz.zeroValue39
 t212 := Tryz.underlying187
 a212 := Tryz.isAgg187
 z212 := Tryz.sizeOf187
 v212 := Tryz.zeroValue187
 g17 := by kernel_rfl
 i0 := by kernel_rfl
 i3 := by kernel_rfl
 i4 := by kernel_rfl
 i5 := by kernel_rfl
 i9 := by kernel_rfl
 i46 := by kernel_rfl
 i53 := by kernel_rfl
 i212 := by kernel_rfl
 m17 := by kernel_rfl }
open Go.Lib in
def Tryz.lays285_ren : Go.Shelf.Ren := ⟨fun | 285 => 137 | n => n, fun | 37 => 28 | 53 => 39 | 3 => 3 | 4 => 4 | 51 => 188 | 9 => 9 | 5 => 5 | 0 => 0 | n => n, fun | n => n⟩
theorem Tryz.lays285 : Go.Proofs.Lays.n285 Tryz.prog Tryz.lays285_ren := {
 mixed := by kernel_rfl
 f285 := Tryz.func137.trans (congrArg some (by kernel_rfl))
 t0 := Tryz.underlying0
 a0 := Tryz.isAgg0
 z0 := Tryz.sizeOf0
 v0 := Tryz.zeroValue0
 t3 := Tryz.underlying3
 a3 := Tryz.isAgg3
 z3 := Tryz.sizeOf3
 v3 := Tryz.zeroValue3
 t4 := Tryz.underlying4
 a4 := Tryz.isAgg4
 z4 := Tryz.sizeOf4
 v4 := Tryz.zeroValue4
 t5 := Tryz.underlying5
 a5 := Tryz.isAgg5
 z5 := Tryz.sizeOf5
 v5 := Tryz.zeroValue5
 t9 := Tryz.underlying9
 a9 := Tryz.isAgg9
 z9 := Tryz.sizeOf9
 v9 := Tryz.zeroValue9
 t37 := Tryz.underlying28
 a37 := Tryz.isAgg28
 z37 := Tryz.sizeOf28
 v37 := Tryz.zeroValue28
 t51 := Tryz.underlying188
 a51 := Tryz.isAgg188
 z51 := Tryz.sizeOf188
 v51 := Tryz.zeroValue188
 t53 := Tryz.underlying39
 a53 := Tryz.isAgg39
 z53 := Tryz.sizeOf39
 v53 := Tryz.zeroValue39 }
end Go.Proofs
namespace Go.Proofs.YtfaoamebphckbaaGreatDoor
open Go.RowKit Go.Av Go.Ab Go.Sort Go.Lib
set_option linter.unusedSimpArgs false
set_option maxRecDepth 100000
set_option linter.defProp false
def c70 := by
 have c := KK_of Tryz.f70 (by conv => lhs; cbv)
 dsimp only [KK, KxP, doO, opO, List.map_cons, List.map_nil, List.toList_toArray] at c
 exact c
theorem b70 : FnIs Tryz.prog 70 Tryz.f70 8 := ⟨Tryz.func70, by kernel_rfl⟩
def c71 := by
 have c := KK_of Tryz.f71 (by conv => lhs; cbv)
 dsimp only [KK, KxP, doO, opO, List.map_cons, List.map_nil, List.toList_toArray] at c
 exact c
theorem b71 : FnIs Tryz.prog 71 Tryz.f71 5 := ⟨Tryz.func71, by kernel_rfl⟩
def c103 := by
 have c := KK_of Tryz.f103 (by conv => lhs; cbv)
 dsimp only [KK, KxP, doO, opO, List.map_cons, List.map_nil, List.toList_toArray] at c
 exact c
theorem b103 : FnIs Tryz.prog 103 Tryz.f103 4 := ⟨Tryz.func103, by kernel_rfl⟩
theorem rep_list (x : UInt8) (c : Nat) : Lib.repeatL [x] c = List.replicate c x := by
 have := Lib.repeatL_replicate x 1 c
 rw [Nat.mul_one] at this
 exact this
theorem repeat_ab (x : UInt8) (c : Nat) (hc : c ≤ 1000) (S : Mem) : AFn Tryz.prog TabI 145 [.d (.str [x]), .d (.int .i64 (c : Int))] S (Same (.d (.str (List.replicate c x))) S) := by
 refine AFn.of_calls Tryz.func145 rfl (by kernel_rfl) fun cx w xs h1 h2 h3 hI => ?_
 have hv := h2 0 (by simp)
 have hv1 := h2 1 (by simp)
 obtain ⟨y, z, rfl⟩ : ∃ y z, xs = #[y, z] := ⟨xs[0]'(by simp at h1; omega), xs[1]'(by simp at h1; omega), by
  apply Array.ext
  ·simpa using h1
  ·intro j hj hj'
   have : j = 0 ∨ j = 1 := by simp at hj'; omega
   rcases this with rfl | rfl <;> rfl⟩
 simp at hv hv1
 cases hv with
 | d _ _ hv => cases hv with
  | str _ hl =>
   cases hv1 with
   | d _ _ hv1 => cases hv1 with
    | int _ _ =>
     refine (Any.strings_Repeat Tryz.lays105 Tryz.Builder_Extra_105 ⟨[x].toArray⟩ c w (by omega) (by show 1 * c ≤ _; omega)).mono ?_
     rintro e w' ⟨rfl, hb⟩
     refine ⟨_, _, rfl, ⟨rfl, rfl⟩, hb, .d _ _ ?_⟩
     have := DR.str (M := cx.M) (w := w') (List.replicate c x) (by simp; omega)
     rw [← rep_list x c] at this ⊢
     exact this
theorem fbool_in (b : Bool) (B : List (List V)) (T : List (Nat × Nat)) : AFn Tryz.prog TabI 103 [.d (.bool b)] ⟨B, T⟩ (Same (.d (.str (if b = true then [116, 114, 117, 101] else [102, 97, 108, 115, 101]))) ⟨B, T⟩) := by
 cases b
 ·refine b103.go 20 rfl fun _ => ?_
  simp only [W, seval, c103]
  refine ARun.ret Tryz.func103 rfl (Left.none ?_)
  exact ⟨rfl, rfl⟩
 ·refine b103.go 20 rfl fun _ => ?_
  simp only [W, seval, c103]
  refine ARun.ret Tryz.func103 rfl (Left.none ?_)
  exact ⟨rfl, rfl⟩
theorem fbool_ab (b : Bool) (B : List (List V)) (T : List (Nat × Nat)) : AFn Tryz.prog TabI 71 [.d (.bool b)] ⟨B, T⟩ (Same (.d (.str (if b = true then [116, 114, 117, 101] else [102, 97, 108, 115, 101]))) ⟨B, T⟩) := by
 refine b71.go 10 rfl fun _ => ?_
 simp only [W, seval, c71]
 refine callS_fn (fbool_in b B T) ?_
 rintro _ _ ⟨rfl, rfl⟩
 refine ARun.go 20 ?_
 simp only [W, seval, c71]
 refine ARun.ret Tryz.func71 rfl (Left.none ?_)
 exact ⟨rfl, rfl⟩
theorem pow_tab {w : World} (h : Tabs w) : Lib.TabIs Tryz.prog w "internal/strconv.uint64pow10" .u64 Lib.pow10Tab := by
 obtain ⟨t, fr, h1⟩ := h.pow
 have hg : Tryz.prog.globalNamed "internal/strconv.uint64pow10" = some 2 := by kernel_rfl
 unfold Lib.TabIs World.var?
 simp only [hg, Option.bind_some, h1]
 rfl
theorem holds_zero0 (w : World) (T : TypeId) (nd : Nat) (hs : nd ≤ 24) : Holds (fun (b : UInt8) => Value.int .u8 (b.toNat : Int)) (w.alloc (.cells Lib.zeros24 T)) w.heap.size 0 (Array.replicate nd (0 : UInt8)) := fun j hj => by
 have hj' : j < nd := by simpa using hj
 refine ⟨?_, World.frozen?_alloc_new _ _ _ _⟩
 rw [World.cell?_alloc_new, Lib.zeros24_at _ (by omega), getElem!_pos _ j hj]
 simp
theorem fin_pos0 (w : World) (o : Obj) (dk : Array UInt8) (k : Nat) : ∃ os, (putRow (fun (b : UInt8) => Value.int .u8 (b.toNat : Int)) (w.alloc o) w.heap.size 0 dk).drewN k = grow (w.drewN k) os := by
 rw [alloc_eq_grow]
 obtain ⟨os', _, e⟩ := putRow_grow_new (fun (b : UInt8) => Value.int .u8 (b.toNat : Int)) w #[o] w.heap.size 0 dk (Nat.le_refl _)
 exact ⟨os', by rw [e]; rfl⟩
set_option maxHeartbeats 6400000 in
theorem funt_in (u : Nat) (hu64 : u < 18446744073709551616) (w : World) (htab : Lib.TabIs Tryz.prog w "internal/strconv.uint64pow10" .u64 Lib.pow10Tab) :
 Calls Tryz.prog 102 #[.int .u64 u, .int .i64 10] w fun e w' => e = .returned (.string ⟨(Lib.decDigits u).toArray⟩) ∧ ∃ k os, w' = grow (w.drewN k) os := by
 by_cases hs : u < 100
 ·go_enter Tryz.func102, Tryz.ntmps102
  go_wp2_with fail
  refine (Any.internal_strconv_small Tryz.lays283 u hs _).mono ?_
  rintro e w' ⟨rfl, rfl⟩
  go_wp2
  go_ret
  exact ⟨rfl, 0, #[], by simp [World.drewN_zero]⟩
 ·have hu1 : 1 ≤ u := by omega
  have hnd20 : Lib.nDigits u ≤ 20 := by have := Lib.numDigits_eq u hu1 hu64; split at this <;> omega
  have hal : Tryz.prog.arrayLen 167 = 24 := by kernel_rfl
  have hsl1 : ∀ W, (Instr.sliceAt 167 (.pointer (some ⟨w.heap.size, 0, none⟩)) none (some (.int .i64 (Lib.nDigits u : Int))) none).run Tryz.prog W = .ok (.slice (some ⟨w.heap.size, 0, none⟩) (Lib.nDigits u) 24) W := fun W => by
   rw [run_sliceAt_array_h W 167 ⟨w.heap.size, 0, none⟩ (by kernel_rfl) .i64 (Lib.nDigits u : Int) (by omega) (by rw [hal]; omega)]
   go_simp
  have hH0 := holds_zero0 w 167 (Lib.nDigits u) (by omega)
  have hfmt := Any.internal_strconv_formatBase10 Tryz.lays285 w.heap.size 0 24 u (Array.replicate (Lib.nDigits u) 0) (w.alloc (.cells Lib.zeros24 167)) hH0 (by rw [Array.size_replicate]; exact Lib.lt_pow_nDigits u) hu64 (by rw [Array.size_replicate]; omega)
  rw [Array.size_replicate] at hfmt
  have HH0 := Lib.hid hH0
  clear hH0 hal
  go_enter Tryz.func102, Tryz.ntmps102
  have hd : decide ((u : Int) < 100) = false := decide_eq_false (by omega)
  go_wp2_with fail
  refine (Any.internal_strconv_numDigits Tryz.laysM284 u hu1 hu64 _ (Lib.tabIs_alloc htab _)).mono ?_
  rintro e w' ⟨rfl, rfl⟩
  go_wp2_with fail
  refine hfmt.mono ?_
  rintro e w' ⟨rfl, k, v', dk, rfl, hF⟩
  have hcv : (convert 28 9 (.slice (some ⟨w.heap.size, 0, none⟩) (Lib.nDigits u) 24)).run Tryz.prog ((putRow (fun (b : UInt8) => Value.int .u8 (b.toNat : Int)) (w.alloc (.cells Lib.zeros24 167)) w.heap.size 0 dk).drewN k) = .ok (.string ⟨(Lib.decDigits u).toArray⟩) ((putRow (fun (b : UInt8) => Value.int .u8 (b.toNat : Int)) (w.alloc (.cells Lib.zeros24 167)) w.heap.size 0 dk).drewN k) := by
   have h := run_convert_bytes_back (P := Tryz.prog) ((putRow (fun (b : UInt8) => Value.int .u8 (b.toNat : Int)) (w.alloc (.cells Lib.zeros24 167)) w.heap.size 0 dk).drewN k) 28 9 5 ⟨w.heap.size, 0, none⟩ 24 (Lib.decDigits u) Tryz.underlying28 Tryz.underlying5 Tryz.underlying9 (fun j hj => by
    rw [Lib.row_is_numeral hF j hj, Lib.add_plain, World.cell?_drewN]
    exact cell?_putRow (fun (b : UInt8) => Value.int .u8 (b.toNat : Int)) _ w.heap.size 0 _ dk HH0.out (by rw [hF.size, Array.size_replicate]) j (by rw [hF.size]; rw [Lib.decDigits_length] at hj; exact hj))
   rw [Lib.decDigits_length] at h
   exact h
  go_wp2
  go_ret
  obtain ⟨os, eo⟩ := fin_pos0 w (.cells Lib.zeros24 167) dk k
  exact ⟨rfl, k, os, eo⟩
theorem dig_dec : ∀ (f u : Nat), u < 10 ^ (f + 1) → digF f u = Lib.decDigits u
 | 0, u, h => by
  have h : u < 10 := by simpa using h
  rw [Lib.decDigits, dif_pos h, digF, Nat.mod_eq_of_lt h]
 | f + 1, u, h => by
  rw [digF, Lib.decDigits]
  by_cases h0 : u < 10
  ·rw [if_pos h0, dif_pos h0]
  ·rw [if_neg h0, dif_neg h0, dig_dec f (u / 10) (by rw [Nat.pow_succ] at h; omega)]
theorem dec_len (u : Nat) (h : u < 18446744073709551616) : (Lib.decDigits u).length ≤ 20 := by
 rw [Lib.decDigits_length]
 exact Lib.nDigits_le20 u h
theorem funt_run (i : Int) (h0 : 0 ≤ i) (h1 : i ≤ 18446744073709551615) (B : List (List V)) (T : List (Nat × Nat)) : AFn Tryz.prog TabI 102 [.d (.int .u64 i), .d (.int .i64 10)] ⟨B, T⟩ (Same (.d (.str (digF 24 i.toNat))) ⟨B, T⟩) := by
 refine AFn.of_calls Tryz.func102 (by kernel_rfl) (by kernel_rfl) fun cx w xs a1 a2 a3 hI => ?_
 have hv := a2 0 (by simp)
 have hv1 := a2 1 (by simp)
 obtain ⟨y, z, rfl⟩ : ∃ y z, xs = #[y, z] := ⟨xs[0]'(by simp at a1; omega), xs[1]'(by simp at a1; omega), by
  apply Array.ext
  ·simpa using a1
  ·intro j hj hj'
   have : j = 0 ∨ j = 1 := by simp at hj'; omega
   rcases this with rfl | rfl <;> rfl⟩
 have hv : VR cx w (.d (.int .u64 i)) y := hv
 have hv1 : VR cx w (.d (.int .i64 10)) z := hv1
 obtain rfl : y = .int .u64 i := by cases hv with | d _ _ hv => cases hv; rfl
 obtain rfl : z = .int .i64 10 := by cases hv1 with | d _ _ hv1 => cases hv1; rfl
 obtain ⟨u, rfl⟩ : ∃ u : Nat, i = u := ⟨i.toNat, by omega⟩
 have hu : u < 18446744073709551616 := by omega
 refine (funt_in u hu w (pow_tab hI)).mono ?_
 rintro e w' ⟨rfl, k, os, rfl⟩
 have hl := dec_len u hu
 rw [Int.toNat_natCast, dig_dec 24 u (by have : (18446744073709551616 : Nat) ≤ 10 ^ (24 + 1) := by decide
                                         omega)]
 exact ⟨_, _, rfl, ⟨rfl, rfl⟩, below_grow _ _ (Nat.le_refl _) _ _, .d _ _ (.str _ (by omega))⟩
theorem funt_ab (i : Int) (h0 : 0 ≤ i) (h1 : i ≤ 18446744073709551615) (B : List (List V)) (T : List (Nat × Nat)) : AFn Tryz.prog TabI 70 [.d (.int .u64 i), .d (.int .i64 10)] ⟨B, T⟩ (Same (.d (.str (digF 24 i.toNat))) ⟨B, T⟩) := by
 refine b70.go 10 rfl fun _ => ?_
 simp only [W, seval, c70]
 refine callS_fn (funt_run i h0 h1 B T) ?_
 rintro _ _ ⟨rfl, rfl⟩
 refine ARun.go 20 ?_
 simp only [W, seval, c70]
 refine ARun.ret Tryz.func70 rfl (Left.none ?_)
 exact ⟨rfl, rfl⟩
end Go.Proofs.YtfaoamebphckbaaGreatDoor
namespace Go.Proofs.YtfaoamebphckbaaGreatDoor
open Go.RowKit Go.Av Go.Ab
set_option linter.unusedSimpArgs false
set_option linter.unusedVariables false
set_option maxRecDepth 100000
set_option linter.defProp false
def c77 := by
 have c := KK_of Tryz.f77 (by conv => lhs; cbv)
 dsimp only [KK, KxP, doO, opO, List.map_cons, List.map_nil, List.toList_toArray] at c
 exact c
theorem b77 : FnIs Tryz.prog 77 Tryz.f77 14 := ⟨Tryz.func77, by kernel_rfl⟩
def c46 := by
 have c := KK_of Tryz.f46 (by conv => lhs; cbv)
 dsimp only [KK, KxP, doO, opO, List.map_cons, List.map_nil, List.toList_toArray] at c
 exact c
theorem b46 : FnIs Tryz.prog 46 Tryz.f46 30 := ⟨Tryz.func46, by kernel_rfl⟩
theorem gbasic_ab (k : Int) (B : List (List V)) (T : List (Nat × Nat)) : AFn Tryz.prog TabI 77 [.d (.int .i64 k)] ⟨B, T⟩ (Same (.d (.str (basT k))) ⟨B, T⟩) := by
 unfold basT
 refine b77.go 90 rfl fun _ => ?_
 simp only [W, seval, c77]
 repeat' ((first | refine guardB_of (fun h => ?_) (fun h => ?_) | refine condS_of (fun h => ?_) (fun h => ?_)) <;> simp only [W, seval, c77, h])
 all_goals
  refine ARun.ret Tryz.func77 rfl (Left.none ?_)
  refine ⟨?_, rfl⟩
  change V.d (.str _) = _
  simp only [decide_eq_true_eq, decide_eq_false_iff_not] at *
  simp [*]
set_option maxHeartbeats 1000000 in
theorem typ_pw {y : TyT} (h : OkT y) : PW 46 [tyV y] fun _ => typT y := by
 induction h with
 | bas q h1 h2 =>
  intro i t s k B T hin htm hk hb
  have e7 : decide (q = 7) = false := decide_eq_false (by omega)
  have e8 : decide (q = 8) = false := decide_eq_false (by omega)
  have hty : typT (.mk q [] []) = basT q := by
   unfold typT
   rw [if_neg (by omega), if_neg (by omega)]
  rw [hty] at hb ⊢
  obtain ⟨a, ha⟩ : ∃ a, s ++ basT q = a := ⟨_, rfl⟩
  dsimp only at hb ⊢
  rw [ha]
  change AFn _ _ _ [.ptr i 0, .agg [.d (.int .i64 q), .d (.str []), .d (.sl [])]] _ _
  refine b46.go 60 rfl fun hsm => ?_
  simp only [smw] at hsm
  simp only [W, seval, c46, e7, e8, hin, htm, mapD_nil, mapD_cons]
  refine callS_fn (gbasic_ab q _ _) ?_
  rintro _ _ ⟨rfl, rfl⟩
  refine ARun.go 60 ?_
  simp only [W, seval, c46, hin, htm, mapD_nil, mapD_cons]
  refine (put1 (basT q)).callJ hin htm hk ?_ fun s1 h_s1 => ?_
  ·try simp only [lnw]
   omega
  have hl_s1 := congrArg List.length h_s1
  simp only [lnw] at hl_s1
  refine ARun.go 60 ?_
  simp only [W, seval, c46]
  refine ARun.fin Tryz.func46 rfl (PW.retJ hin htm ?_)
  subst h_s1 ha
  exact ⟨rfl, by simp⟩
 | nam n hn =>
  intro i t s k B T hin htm hk hb
  have hty : typT (.mk 7 n []) = n := rfl
  rw [hty] at hb ⊢
  obtain ⟨a, ha⟩ : ∃ a, s ++ n = a := ⟨_, rfl⟩
  dsimp only at hb ⊢
  rw [ha]
  change AFn _ _ _ [.ptr i 0, .agg [.d (.int .i64 7), .d (.str n), .d (.sl [])]] _ _
  refine b46.go 60 rfl fun hsm => ?_
  simp only [smw] at hsm
  simp only [W, seval, c46, hin, htm, mapD_nil, mapD_cons]
  refine (put1 n).callJ hin htm hk ?_ fun s1 h_s1 => ?_
  ·try simp only [lnw]
   omega
  have hl_s1 := congrArg List.length h_s1
  simp only [lnw] at hl_s1
  refine ARun.go 60 ?_
  simp only [W, seval, c46]
  refine ARun.fin Tryz.func46 rfl (PW.retJ hin htm ?_)
  subst h_s1 ha
  exact ⟨rfl, by simp⟩
 | sli y hy ih =>
  intro i t s k B T hin htm hk hb
  have hty : typT (.mk 8 [] [y]) = [91, 93] ++ typT y := rfl
  rw [hty] at hb ⊢
  obtain ⟨a, ha⟩ : ∃ a, s ++ ([91, 93] ++ typT y) = a := ⟨_, rfl⟩
  dsimp only at hb ⊢
  rw [ha]
  simp only [lnw] at hb
  change AFn _ _ _ [.ptr i 0, .agg [.d (.int .i64 8), .d (.str []), .d (.sl [tyD y])]] _ _
  refine b46.go 60 rfl fun hsm => ?_
  simp only [smw] at hsm
  simp only [W, seval, c46, hin, htm, mapD_nil, mapD_cons]
  refine (put1 [91, 93]).callJ hin htm hk ?_ fun s1 h_s1 => ?_
  ·try simp only [lnw]
   omega
  have hl_s1 := congrArg List.length h_s1
  simp only [lnw] at hl_s1
  refine ARun.go 60 ?_
  simp only [W, seval, c46, hin, htm, tyD_eq]
  refine (ih).callJ hin htm hk ?_ fun s2 h_s2 => ?_
  ·try simp only [lnw]
   omega
  have hl_s2 := congrArg List.length h_s2
  simp only [lnw] at hl_s2
  refine ARun.go 60 ?_
  simp only [W, seval, c46]
  refine ARun.fin Tryz.func46 rfl (PW.retJ hin htm ?_)
  subst h_s1 h_s2 ha
  exact ⟨rfl, by simp⟩
def c104 := by
 have c := KK_of Tryz.f104 (by conv => lhs; cbv)
 dsimp only [KK, KxP, doO, opO, List.map_cons, List.map_nil, List.toList_toArray] at c
 exact c
theorem b104 : FnIs Tryz.prog 104 Tryz.f104 17 := ⟨Tryz.func104, by kernel_rfl⟩
def c72 := by
 have c := KK_of Tryz.f72 (by conv => lhs; cbv)
 dsimp only [KK, KxP, doO, opO, List.map_cons, List.map_nil, List.toList_toArray] at c
 exact c
theorem b72 : FnIs Tryz.prog 72 Tryz.f72 20 := ⟨Tryz.func72, by kernel_rfl⟩
def c106 := by
 have c := KK_of Tryz.f106 (by conv => lhs; cbv)
 dsimp only [KK, KxP, doO, opO, List.map_cons, List.map_nil, List.toList_toArray] at c
 exact c
theorem b106 : FnIs Tryz.prog 106 Tryz.f106 15 := ⟨Tryz.func106, by kernel_rfl⟩
def c73 := by
 have c := KK_of Tryz.f73 (by conv => lhs; cbv)
 dsimp only [KK, KxP, doO, opO, List.map_cons, List.map_nil, List.toList_toArray] at c
 exact c
theorem b73 : FnIs Tryz.prog 73 Tryz.f73 41 := ⟨Tryz.func73, by kernel_rfl⟩
theorem Same.lexc {W : List Nat} {MM : Mem → Prop} {K : List V → Mem → Prop} {o : Oper} {l : List Oper} {k : Nat} {env : List V} {S S' : Mem} {g : FuncId} {args : List V} {v : V} (h : AFn Tryz.prog TabI g args S (Same v S')) (hS : MM S) (hk : W.contains k = true) (hg : o.guard = none)
 (h1 : ∃ q f0 first caps, o.op = .call q ∧ q.callee = .value f0 ∧ evalV TabI env f0 = .func g first caps ∧ first ++ q.args.toList.map (evalV TabI env) ++ caps = args) (h5 : lexC Tryz.prog TabI W MM K l (k + 1) (setV env o.dst v) S') : lexC Tryz.prog TabI W MM K (o :: l) k env S := by
 obtain ⟨q, f0, first, caps, e1, e2, e3, e4⟩ := h1
 refine lexC_c (Q := Same v S') hS hk hg e1 e2 e3 ⟨_, _, rfl, rfl⟩ (by rw [e4]; exact h) ?_
 rintro v' S' ⟨rfl, rfl⟩
 exact h5
def PWE (x : ExT) : Prop := PW 44 [exV x] fun _ => exT x
set_option maxHeartbeats 1000000 in
theorem within_pw {x : ExT} (hx : PWE x) (b : Bool) : PW 104 [exV x, .d (.bool b)] fun _ => parT b (exT x) := by
 intro i t s k B T hin htm hk hb
 obtain ⟨N, hn⟩ : ∃ N, B.length = N := ⟨_, rfl⟩
 obtain ⟨a, ha⟩ : ∃ a, s ++ parT b (exT x) = a := ⟨_, rfl⟩
 unfold parT at hb ha
 dsimp only at hb ⊢
 rw [show s ++ parT b (exT x) = a from ha]
 cases b
 ·rw [if_neg (by simp)] at hb ha
  unfold exV
  refine b104.go 20 rfl fun _ => ?_
  simp only [W, seval, c104, hin, htm, hn]
  refine (hx).callJ hin htm hk ?_ fun s1 h_s1 => ?_
  ·try simp only [lnw]
   omega
  have hl_s1 := congrArg List.length h_s1
  simp only [lnw] at hl_s1
  refine ARun.go 20 ?_
  simp only [W, seval, c104]
  refine ARun.ret Tryz.func104 rfl (PW.retJ hin htm ?_)
  subst h_s1 ha
  exact ⟨rfl, rfl⟩
 ·rw [if_pos rfl] at hb ha
  simp only [lnw] at hb
  unfold exV
  refine b104.go 18 rfl fun _ => ?_
  simp only [W, seval, c104, hin, htm, hn, mapD_nil, mapD_cons, Nat.reduceMul, rows8]
  have hcx : (comT (List.map exT [x])).length = (exT x).length := by simp [comT, comB]
  refine ARun.plainS 13 [exD x] .full (by rfl) ?_
  refine ARun.go 1 ?_
  simp only [W, seval, c104]
  refine (list_Expr_pl (g := 44) (l := [x]) (tx := exT) (fun y hy => by rw [List.mem_singleton.1 hy]; exact hx) [40] [41]).callJ hin htm hk ?_ fun s1 h_s1 => ?_
  ·try simp only [lnw]
   omega
  have hl_s1 := congrArg List.length h_s1
  simp only [lnw] at hl_s1
  refine ARun.go 20 ?_
  simp only [W, seval, c104]
  refine ARun.fin Tryz.func104 rfl (PW.retJ hin htm ?_)
  subst h_s1 ha
  exact ⟨rfl, by simp [comT, comB]⟩
theorem low_ab (x : ExT) (r : Int) (B : List (List V)) (T : List (Nat × Nat)) : AFn Tryz.prog TabI 106 [exV x, .d (.int .i64 r)] ⟨B, T⟩ (Same (.d (.bool (lowB x r))) ⟨B, T⟩) := by
 obtain ⟨N, hn⟩ : ∃ N, B.length = N := ⟨_, rfl⟩
 unfold lowB exV
 cases e6 : decide (x.kind = 6)
 ·refine b106.go 60 rfl fun _ => ?_
  simp only [W, seval, c106, e6, hn]
  refine ARun.ret Tryz.func106 rfl (Left.box ?_)
  exact ⟨rfl, rfl⟩
 ·refine b106.go 60 rfl fun _ => ?_
  simp only [W, seval, c106, e6, hn]
  refine callS_fn (rank_ab x.text _ _) ?_
  rintro _ _ ⟨rfl, rfl⟩
  refine ARun.go 60 ?_
  simp only [W, seval, c106, hn]
  refine ARun.ret Tryz.func106 rfl (Left.box ?_)
  exact ⟨rfl, rfl⟩
set_option maxHeartbeats 1000000 in
theorem tight_pw {x : ExT} (hx : PWE x) : PW 72 [exV x] fun _ => parT (tigB x) (exT x) := by
 intro i t s k B T hin htm hk hb
 obtain ⟨N, hn⟩ : ∃ N, B.length = N := ⟨_, rfl⟩
 obtain ⟨b, hbb⟩ : ∃ b, tigB x = b := ⟨_, rfl⟩
 dsimp only at hb ⊢
 rw [hbb] at hb ⊢
 have hw := within_pw hx b
 obtain ⟨a, ha⟩ : ∃ a, s ++ parT b (exT x) = a := ⟨_, rfl⟩
 rw [ha]
 unfold tigB at hbb
 unfold exV at hw ⊢
 cases e4 : decide (x.kind = 4) <;> cases e5 : decide (x.kind = 5) <;> cases e6 : decide (x.kind = 6)
 all_goals
  rw [e4, e5, e6] at hbb
  simp only [Bool.or_true, Bool.or_false, Bool.true_or] at hbb
  subst hbb
  refine b72.go 60 rfl fun _ => ?_
  simp only [W, seval, c72, hin, htm, hn, e4, e5, e6]
  refine (hw).callJ hin htm hk ?_ fun s1 h_s1 => ?_
  ·try simp only [lnw]
   omega
  have hl_s1 := congrArg List.length h_s1
  simp only [lnw] at hl_s1
  refine ARun.go 20 ?_
  simp only [W, seval, c72]
  refine ARun.fin Tryz.func72 rfl (PW.retJ hin htm ?_)
  subst h_s1 ha
  exact ⟨rfl, rfl⟩
theorem rank_five (s : List UInt8) : 0 ≤ rankS s ∧ rankS s ≤ 5 := by
 by_cases h : ∃ x ∈ rankT, s = x.1
 ·obtain ⟨x, hx, rfl⟩ := h
  revert x
  decide
 ·rw [rank_no s (fun x hx e => h ⟨x, hx, e⟩)]
  decide
theorem PW.lexc {f : FuncId} {ar : List V} {u : Nat → List UInt8} {i t k : Nat} {s : List UInt8} {B J : List (List V)} {T : List (Nat × Nat)} {W : List Nat} {MM : Mem → Prop} {K : List V → Mem → Prop} {o : Oper} {l : List Oper} {p : Nat} {env : List V}
 (h : PW f ar u) (hi : i < B.length) (ht : t < T.length) (hk : k ≤ 900) (hb : s.length + (u k).length ≤ mostW) (hS : MM ⟨B.set i (bxW i t s k) ++ J, T.set t (s.length, 1)⟩) (hp : W.contains p = true) (hg : o.guard = none)
 (h1 : ∃ q f0, o.op = .call q ∧ q.callee = .value f0 ∧ evalV TabI env f0 = .func f [] [] ∧ q.args.toList.map (evalV TabI env) = .ptr i 0 :: ar) (h5 : ∀ s', s ++ u k = s' → lexC Tryz.prog TabI W MM K l (p + 1) (setV env o.dst (.tup [])) ⟨B.set i (bxW i t s' k) ++ J, T.set t (s'.length, 1)⟩) :
 lexC Tryz.prog TabI W MM K (o :: l) p env ⟨B.set i (bxW i t s k) ++ J, T.set t (s.length, 1)⟩ := by
 have h' := h.fn (J := J) (K := []) hi ht hk hb
 rw [List.append_nil, List.append_nil] at h'
 obtain ⟨q, f0, e1, e2, e3, e4⟩ := h1
 exact Same.lexc h' hS hp hg ⟨q, f0, [], [], e1, e2, e3, by rw [e4, List.nil_append, List.append_nil]⟩ (h5 _ rfl)
set_option maxHeartbeats 2000000 in
theorem binary_pw {y z : ExT} (g : List UInt8) (hy : PWE y) (hz : PWE z) : PW 73 [exV (.mk 6 g 0 noT [] [y, z])] fun _ => parT (lowB y (rankS g)) (exT y) ++ ([32] ++ g ++ [32]) ++ parT (lowB z (rankS g + 1)) (exT z) := by
 intro i t s k B T hin htm hk hb
 obtain ⟨N, hn⟩ : ∃ N, B.length = N := ⟨_, rfl⟩
 have hin' : i < N := by omega
 obtain ⟨a, ha⟩ : ∃ a, s ++ (parT (lowB y (rankS g)) (exT y) ++ ([32] ++ g ++ [32]) ++ parT (lowB z (rankS g + 1)) (exT z)) = a := ⟨_, rfl⟩
 dsimp only at hb ⊢
 rw [ha]
 simp only [lnw] at hb
 have hwr := wrap_in (rankS g + 1) (by have := rank_five g; omega)
 change AFn _ _ _ [.ptr i 0, .agg [.d (.int .i64 6), .d (.str g), .d (.int .u64 0), .d (.int .i64 0), .d (.str []), .d (.sl []), .d (.sl []), .d (.sl [exD y, exD z])]] _ _
 refine b73.go 20 rfl fun hsm => ?_
 simp only [smw] at hsm
 simp only [W, seval, c73, hin, htm, hn]
 refine callS_fn (rank_ab g _ _) ?_
 rintro _ _ ⟨rfl, rfl⟩
 refine ARun.go 7 ?_
 simp only [W, seval, c73, hn]
 refine ARun.drawC [11, 12] (fun S => S.boxes[N]? = some [.d (.int .i64 6), .d (.str g), .d (.int .u64 0), .d (.int .i64 0), .d (.str []), .d (.sl []), .d (.sl []), .d (.sl [exD y, exD z])]) (by kernel_rfl) (by kernel_rfl) (by kernel_rfl) ?_
 simp only [W, seval, c73]
 refine lexC_q (v := ?_) (by rfl) (by kernel_rfl) (fun S hS => ?_) ?_
 rotate_left
 ·simp only [W, seval, c73]
  exact rfl
 simp only [W, seval, c73]
 refine lexC_q (v := ?_) (by rfl) (by kernel_rfl) (fun S hS => ?_) ?_
 rotate_left
 ·simp only [W, seval, c73]
  exact rfl
 simp only [W, seval, c73]
 refine lexC_q (v := ?_) (by rfl) (by kernel_rfl) (fun S hS => ?_) ?_
 rotate_left
 ·try dsimp only at hS
  simp only [W, seval, c73, hS]
  exact rfl
 simp only [W, seval, c73]
 refine lexC_q (v := ?_) (by rfl) (by kernel_rfl) (fun S hS => ?_) ?_
 rotate_left
 ·simp only [W, seval, c73, exD_eq]
  exact rfl
 simp only [W, seval, c73]
 refine lexC_q (v := ?_) (by rfl) (by kernel_rfl) (fun S hS => ?_) ?_
 rotate_left
 ·simp only [W, seval, c73, exD_eq]
  exact rfl
 simp only [W, seval, c73]
 refine lexC_q (v := ?_) (by rfl) (by kernel_rfl) (fun S hS => ?_) ?_
 rotate_left
 ·simp only [W, seval, c73]
  exact rfl
 simp only [W, seval, c73]
 refine lexC_q (v := ?_) (by rfl) (by kernel_rfl) (fun S hS => ?_) ?_
 rotate_left
 ·simp only [W, seval, c73]
  exact rfl
 simp only [W, seval, c73]
 refine lexC_q (v := ?_) (by rfl) (by kernel_rfl) (fun S hS => ?_) ?_
 rotate_left
 ·try dsimp only at hS
  simp only [W, seval, c73, hS]
  exact rfl
 simp only [W, seval, c73]
 refine lexC_q (v := ?_) (by rfl) (by kernel_rfl) (fun S hS => ?_) ?_
 rotate_left
 ·simp only [W, seval, c73, exD_eq]
  exact rfl
 simp only [W, seval, c73]
 refine lexC_q (v := ?_) (by rfl) (by kernel_rfl) (fun S hS => ?_) ?_
 rotate_left
 ·simp only [W, seval, c73, exD_eq]
  exact rfl
 simp only [W, seval, c73]
 refine lexC_q (v := ?_) (by rfl) (by kernel_rfl) (fun S hS => ?_) ?_
 rotate_left
 ·simp only [W, seval, c73]
  exact rfl
 simp only [W, seval, c73]
 refine Same.lexc (low_ab y (rankS g) _ _) ?_ (by rfl) (by kernel_rfl) ?_ ?_
 ·simp [bx_loc0, hn]
 ·simp only [W, seval, c73]
  exact ⟨_, _, _, _, rfl, rfl, rfl, by simp only [W, seval, c73]; rfl⟩
 simp only [W, seval, c73]
 refine (within_pw hy (lowB y (rankS g))).lexc hin htm hk ?_ ?_ (by rfl) (by kernel_rfl) ?_ fun s1 h_s1 => ?_
 ·try dsimp only
  omega
 ·simp [bx_loc0, hn]
 ·simp only [W, seval, c73]
  exact ⟨_, _, rfl, rfl, rfl, by simp only [W, seval, c73]; rfl⟩
 have hl_s1 := congrArg List.length h_s1
 try dsimp only at hl_s1
 simp only [lnw] at hl_s1
 refine lexC_end (by simp [bx_loc0, hn]) ?_
 refine ARun.go 20 ?_
 simp only [W, seval, c73, hn, htm, mapD_nil, mapD_cons]
 refine (put3 [32] g [32]).callJ hin htm hk ?_ fun s2 h_s2 => ?_
 ·try simp only [lnw]
  omega
 have hl_s2 := congrArg List.length h_s2
 simp only [lnw] at hl_s2
 refine ARun.go 3 ?_
 simp only [W, seval, c73, hn]
 refine ARun.drawC [12, 13] (fun S => S.boxes[N]? = some [.d (.int .i64 6), .d (.str g), .d (.int .u64 0), .d (.int .i64 0), .d (.str []), .d (.sl []), .d (.sl []), .d (.sl [exD y, exD z])]) (by kernel_rfl) (by kernel_rfl) (by kernel_rfl) ?_
 simp only [W, seval, c73]
 refine lexC_q (v := ?_) (by rfl) (by kernel_rfl) (fun S hS => ?_) ?_
 rotate_left
 ·simp only [W, seval, c73]
  exact rfl
 simp only [W, seval, c73]
 refine lexC_q (v := ?_) (by rfl) (by kernel_rfl) (fun S hS => ?_) ?_
 rotate_left
 ·simp only [W, seval, c73]
  exact rfl
 simp only [W, seval, c73]
 refine lexC_q (v := ?_) (by rfl) (by kernel_rfl) (fun S hS => ?_) ?_
 rotate_left
 ·try dsimp only at hS
  simp only [W, seval, c73, hS]
  exact rfl
 simp only [W, seval, c73]
 refine lexC_q (v := ?_) (by rfl) (by kernel_rfl) (fun S hS => ?_) ?_
 rotate_left
 ·simp only [W, seval, c73, exD_eq]
  exact rfl
 simp only [W, seval, c73]
 refine lexC_q (v := ?_) (by rfl) (by kernel_rfl) (fun S hS => ?_) ?_
 rotate_left
 ·simp only [W, seval, c73, exD_eq]
  exact rfl
 simp only [W, seval, c73]
 refine lexC_q (v := ?_) (by rfl) (by kernel_rfl) (fun S hS => ?_) ?_
 rotate_left
 ·simp only [W, seval, c73]
  exact rfl
 simp only [W, seval, c73]
 refine lexC_q (v := ?_) (by rfl) (by kernel_rfl) (fun S hS => ?_) ?_
 rotate_left
 ·simp only [W, seval, c73]
  exact rfl
 simp only [W, seval, c73]
 refine lexC_q (v := ?_) (by rfl) (by kernel_rfl) (fun S hS => ?_) ?_
 rotate_left
 ·try dsimp only at hS
  simp only [W, seval, c73, hS]
  exact rfl
 simp only [W, seval, c73]
 refine lexC_q (v := ?_) (by rfl) (by kernel_rfl) (fun S hS => ?_) ?_
 rotate_left
 ·simp only [W, seval, c73, exD_eq]
  exact rfl
 simp only [W, seval, c73]
 refine lexC_q (v := ?_) (by rfl) (by kernel_rfl) (fun S hS => ?_) ?_
 rotate_left
 ·simp only [W, seval, c73, exD_eq]
  exact rfl
 simp only [W, seval, c73]
 refine lexC_q (v := ?_) (by rfl) (by kernel_rfl) (fun S hS => ?_) ?_
 rotate_left
 ·simp only [W, seval, c73]
  exact rfl
 simp only [W, seval, c73]
 refine lexC_q (v := ?_) (by rfl) (by kernel_rfl) (fun S hS => ?_) ?_
 rotate_left
 ·simp only [W, seval, c73, hwr]
  exact rfl
 simp only [W, seval, c73]
 refine Same.lexc (low_ab z (rankS g + 1) _ _) ?_ (by rfl) (by kernel_rfl) ?_ ?_
 ·simp [bx_loc0, hn]
 ·simp only [W, seval, c73]
  exact ⟨_, _, _, _, rfl, rfl, rfl, by simp only [W, seval, c73]; rfl⟩
 simp only [W, seval, c73]
 refine (within_pw hz (lowB z (rankS g + 1))).lexc hin htm hk ?_ ?_ (by rfl) (by kernel_rfl) ?_ fun s3 h_s3 => ?_
 ·try dsimp only
  omega
 ·simp [bx_loc0, hn]
 ·simp only [W, seval, c73]
  exact ⟨_, _, rfl, rfl, rfl, by simp only [W, seval, c73]; rfl⟩
 have hl_s3 := congrArg List.length h_s3
 try dsimp only at hl_s3
 simp only [lnw] at hl_s3
 refine lexC_end (by simp [bx_loc0, hn]) ?_
 refine ARun.go 20 ?_
 simp only [W, seval, c73, hn]
 refine ARun.fin Tryz.func73 rfl (PW.retJ hin htm ?_)
 subst h_s1 h_s2 h_s3 ha
 exact ⟨rfl, by simp⟩
def c146 := by
 have c := KK_of Tryz.f146 (by conv => lhs; cbv)
 dsimp only [KK, KxP, doO, opO, List.map_cons, List.map_nil, List.toList_toArray] at c
 exact c
theorem b146 : FnIs Tryz.prog 146 Tryz.f146 18 := ⟨Tryz.func146, by kernel_rfl⟩
def c123 := by
 have c := KK_of Tryz.f123 (by conv => lhs; cbv)
 dsimp only [KK, KxP, doO, opO, List.map_cons, List.map_nil, List.toList_toArray] at c
 exact c
theorem b123 : FnIs Tryz.prog 123 Tryz.f123 25 := ⟨Tryz.func123, by kernel_rfl⟩
def c89 := by
 have c := KK_of Tryz.f89 (by conv => lhs; cbv)
 dsimp only [KK, KxP, doO, opO, List.map_cons, List.map_nil, List.toList_toArray] at c
 exact c
theorem b89 : FnIs Tryz.prog 89 Tryz.f89 20 := ⟨Tryz.func89, by kernel_rfl⟩
def c67 := by
 have c := KK_of Tryz.f67 (by conv => lhs; cbv)
 dsimp only [KK, KxP, doO, opO, List.map_cons, List.map_nil, List.toList_toArray] at c
 exact c
theorem b67 : FnIs Tryz.prog 67 Tryz.f67 17 := ⟨Tryz.func67, by kernel_rfl⟩
theorem in_ab (s : List UInt8) (l : List (List UInt8)) (B : List (List V)) (T : List (Nat × Nat)) : AFn Tryz.prog TabI 146 [.d (.str s), .d (.sl (ssD l))] ⟨B, T⟩ (Same (.d (.bool (l.contains s))) ⟨B, T⟩) := by
 refine b146.go 40 rfl fun hsm => ?_
 simp only [smw] at hsm
 simp only [W, seval, c146]
 refine ARun.loopW (fun i : Nat => (envS 18 [(0, .d (.str s)), (1, .d (.sl (ssD l))), (5, .d (.int .i64 (i : Int)))], ⟨B, T⟩)) (fun i => i ≤ l.length ∧ (l.drop i).contains s = l.contains s) (fun i => l.length - i) 0 ⟨by omega, rfl⟩ ?_ rfl ?_
 ·skip
  refine Agree.env _ ?_
  simp only [agw, seval]
 rintro i ⟨h1, h2⟩ ih
 dsimp only at h1 h2 ih ⊢
 by_cases hlt : i < l.length
 ·have hw := wrap_in ((i : Int) + 1) (by omega)
  have hg := List.getElem?_eq_getElem hlt
  rw [drop_get hlt, List.contains_cons] at h2
  have hlt' : decide ((i : Int) < (l.length : Int)) = true := decide_eq_true (by omega)
  cases hb : decide (l[i] = s)
  ·have hb' : (s == l[i]) = false := beq_eq_false_iff_ne.2 fun e => of_decide_eq_false hb e.symm
   rw [hb', Bool.false_or] at h2
   refine ARun.go 100 ?_
   simp only [W, seval, c146, hg, hlt', hw, hb]
   refine ih (i + 1) ⟨by omega, h2⟩ (by omega) _ _ ?_ rfl
   refine Agree.env _ ?_
   simp only [agw, seval]
  ·have hb' : (s == l[i]) = true := beq_iff_eq.2 (of_decide_eq_true hb).symm
   rw [hb', Bool.true_or] at h2
   refine ARun.go 100 ?_
   simp only [W, seval, c146, hg, hlt', hw, hb]
   refine ARun.ret Tryz.func146 rfl (Left.none ?_)
   rw [← h2]
   exact ⟨rfl, rfl⟩
 ·have hlt' : decide ((i : Int) < (l.length : Int)) = false := decide_eq_false (by omega)
  rw [List.drop_eq_nil_of_le (by omega)] at h2
  refine ARun.go 100 ?_
  simp only [W, seval, c146, hlt']
  refine ARun.ret Tryz.func146 rfl (Left.none ?_)
  rw [← h2]
  exact ⟨rfl, rfl⟩
def rankLs : List (List (List UInt8)) := [[[124, 124]], [[38, 38]], [[61, 61], [33, 61], [60], [60, 61], [62], [62, 61]], [[43], [45], [124], [94]], [[42], [47], [37], [60, 60], [62, 62], [38]]]
def rankF (s : List UInt8) : List (List (List UInt8)) → Nat → Int
 | [], _ => 0
 | l :: ls, i => if l.contains s = true then ((i + 1 : Nat) : Int) else rankF s ls (i + 1)
theorem rankF_eq (s : List UInt8) : rankF s rankLs 0 = rankS s := by
 rcases rank_in s with ⟨x, hx, rfl⟩ | h
 ·have : ∀ x ∈ rankT, rankF x.1 rankLs 0 = rankS x.1 := by decide
  exact this x hx
 ·have h2 : rankS s = 0 := rank_no s fun x hx e => by simpa [e] using h x hx
  rw [h2]
  simp only [rankT, List.mem_cons, List.not_mem_nil, or_false, forall_eq_or_imp, forall_eq, beq_eq_false_iff_ne] at h
  simp [rankF, rankLs, h]
def slD (ls : List (List (List UInt8))) : List (List D) := ls.map fun l => [.sl (ssD l)]
set_option maxHeartbeats 2000000 in
theorem rankR_ab (s : List UInt8) (B : List (List V)) (T : List (Nat × Nat)) : AFn Tryz.prog TabI 123 [.d (.str s)] ⟨B, T⟩ (Same (.d (.int .i64 (rankS s))) ⟨B, T⟩) := by
 rw [← rankF_eq]
 refine b123.go 60 rfl fun hsm => ?_
 simp only [smw] at hsm
 simp only [W, seval, c123, mapD_nil, mapD_cons, mapD_sl, Nat.reduceMul]
 refine ARun.loopW (fun i : Nat => (envS 25 [(0, .d (.str s)), (3, .sl (slD rankLs) .full), (4, .d (.int .i64 (i : Int)))], ⟨B, T⟩)) (fun i => i ≤ 5 ∧ rankF s (rankLs.drop i) i = rankF s rankLs 0) (fun i => 5 - i) 0 ⟨by omega, rfl⟩ ?_ rfl ?_
 ·skip
  refine Agree.env _ ?_
  simp only [agw, seval]
  rfl
 rintro i ⟨h1, h2⟩ ih
 dsimp only at h1 h2 ih ⊢
 have hlen : (slD rankLs).length = 5 := rfl
 by_cases hi : i < 5
 ·have hd : decide ((i : Int) < 5) = true := decide_eq_true (by omega)
  have hw := wrap_in ((i : Int) + 1) (by omega)
  obtain ⟨l, hl⟩ : ∃ l, rankLs[i]? = some l := ⟨_, List.getElem?_eq_getElem (show i < rankLs.length from hi)⟩
  have hg : (slD rankLs)[i]? = some [.sl (ssD l)] := by simp [slD, hl]
  have hdr : rankLs.drop i = l :: rankLs.drop (i + 1) := by
   obtain ⟨h3, h4⟩ := List.getElem?_eq_some_iff.1 hl
   rw [← h4]
   exact drop_get h3
  rw [hdr, rankF] at h2
  refine ARun.go 40 ?_
  simp only [W, seval, c123, hlen, hd, hg]
  refine callS_fn (in_ab s l _ _) ?_
  rintro _ _ ⟨rfl, rfl⟩
  cases hc : l.contains s
  ·rw [hc, if_neg (by simp)] at h2
   refine ARun.go 60 ?_
   simp only [W, seval, c123, hw]
   refine ih (i + 1) ⟨by omega, h2⟩ (by omega) _ _ ?_ rfl
   refine Agree.env _ ?_
   simp only [agw, seval]
  ·rw [hc, if_pos rfl] at h2
   refine ARun.go 60 ?_
   simp only [W, seval, c123, hw]
   refine ARun.ret Tryz.func123 rfl (Left.none ?_)
   rw [← h2]
   exact ⟨rfl, rfl⟩
 ·have h8 : i = 5 := by omega
  subst h8
  have h3 : (0 : Int) = rankF s rankLs 0 := h2
  refine ARun.go 60 ?_
  simp only [W, seval, c123, hlen]
  refine ARun.ret Tryz.func123 rfl (Left.none ?_)
  rw [← h3]
  exact ⟨rfl, rfl⟩
def plusM (a b : Int) : Int := if a < 0 ∨ b < 0 ∨ 60000 < a + b then -1 else a + b
set_option maxHeartbeats 1000000 in
theorem plus_ab (a b : Int) (ha : a ≤ 60000) (hb : b ≤ 60000) (B : List (List V)) (T : List (Nat × Nat)) : AFn Tryz.prog TabI 89 [.d (.int .i64 a), .d (.int .i64 b)] ⟨B, T⟩ (Same (.d (.int .i64 (plusM a b))) ⟨B, T⟩) := by
 unfold plusM
 by_cases h1 : a < 0
 ·have e1 := decide_eq_true h1
  rw [if_pos (.inl h1)]
  refine b89.go 60 rfl fun hsm => ?_
  simp only [smw] at hsm
  simp only [W, seval, c89, e1]
  refine ARun.ret Tryz.func89 rfl (Left.none ?_)
  exact ⟨rfl, rfl⟩
 have e1 := decide_eq_false h1
 by_cases h2 : b < 0
 ·have e2 := decide_eq_true h2
  rw [if_pos (.inr (.inl h2))]
  refine b89.go 60 rfl fun hsm => ?_
  simp only [smw] at hsm
  simp only [W, seval, c89, e1, e2]
  refine ARun.ret Tryz.func89 rfl (Left.none ?_)
  exact ⟨rfl, rfl⟩
 have e2 := decide_eq_false h2
 have hw := wrap_in (a + b) (by omega)
 by_cases h3 : 60000 < a + b
 ·have e3 := decide_eq_true h3
  rw [if_pos (.inr (.inr h3))]
  refine b89.go 60 rfl fun hsm => ?_
  simp only [smw] at hsm
  simp only [W, seval, c89, e1, e2, hw, e3]
  refine ARun.ret Tryz.func89 rfl (Left.none ?_)
  exact ⟨rfl, rfl⟩
 have e3 := decide_eq_false h3
 rw [if_neg (by omega)]
 refine b89.go 60 rfl fun hsm => ?_
 simp only [smw] at hsm
 simp only [W, seval, c89, e1, e2, hw, e3]
 refine ARun.ret Tryz.func89 rfl (Left.none ?_)
 exact ⟨rfl, rfl⟩
theorem none_ab (t : TyT) (B : List (List V)) (T : List (Nat × Nat)) : AFn Tryz.prog TabI 67 [tyV t] ⟨B, T⟩ (Same (.d (.bool (zeroS t))) ⟨B, T⟩) := by
 obtain ⟨N, hn⟩ : ∃ N, B.length = N := ⟨_, rfl⟩
 unfold tyV zeroS
 have hl0 : decide ((t.elem.length : Int) = 0) = decide (t.elem.length = 0) := by
  rw [decide_eq_decide]; omega
 cases e1 : decide (t.kind = 0) <;> cases e2 : decide (t.name = [])
 all_goals
  refine b67.go 60 rfl fun hsm => ?_
  simp only [smw] at hsm
  simp only [W, seval, c67, hn, e1, e2, hl0]
  refine ARun.ret Tryz.func67 rfl (Left.box ?_)
  first | exact ⟨rfl, rfl⟩ | (refine ⟨?_, rfl⟩; simp_all)
def c93 := by
 have c := KK_of Tryz.f93 (by conv => lhs; cbv)
 dsimp only [KK, KxP, doO, opO, List.map_cons, List.map_nil, List.toList_toArray] at c
 exact c
theorem b93 : FnIs Tryz.prog 93 Tryz.f93 21 := ⟨Tryz.func93, by kernel_rfl⟩
def c124 := by
 have c := KK_of Tryz.f124 (by conv => lhs; cbv)
 dsimp only [KK, KxP, doO, opO, List.map_cons, List.map_nil, List.toList_toArray] at c
 exact c
theorem b124 : FnIs Tryz.prog 124 Tryz.f124 12 := ⟨Tryz.func124, by kernel_rfl⟩
def c122 := by
 have c := KK_of Tryz.f122 (by conv => lhs; cbv)
 dsimp only [KK, KxP, doO, opO, List.map_cons, List.map_nil, List.toList_toArray] at c
 exact c
theorem b122 : FnIs Tryz.prog 122 Tryz.f122 13 := ⟨Tryz.func122, by kernel_rfl⟩
abbrev RX (x : ExT) : Prop := RS 94 [exV x] (exT x)
def RE (x : ExT) : Prop := (exT x).length ≤ mostW → RX x
set_option maxHeartbeats 1000000 in
theorem exps2_ab (l : List ExT) (h : ∀ x ∈ l, RE x) (hl : (comT (l.map exT)).length ≤ mostW) : RS 93 [.d (.sl (l.map exD))] (comT (l.map exT)) := by
 refine RS.of (by simp [wkL, wk]) ?_
 have hx : ∀ x ∈ l, RX x := fun x hx => h x hx (Nat.le_trans (com_mem false _ _ (List.mem_map.2 ⟨x, hx, rfl⟩)) hl)
 clear h
 have hcn : 2 * (l.map exT).length ≤ (comT (l.map exT)).length + 2 := com_cnt false _
 have hj := AFn.sameW (join2_in (l.map exT) hl).only (args := [.sl (ssD (l.map exT)) (.own 0)]) (by simp [wkL, wk]) rfl ⟨[], [(l.length, 1)]⟩
 unfold mostW at hl
 rw [List.length_map] at hcn
 refine b93.go 40 rfl fun hsm => ?_
 simp only [smw] at hsm
 simp only [W, seval, c93]
 refine ARun.token 3 [] (by rfl) 1 (by omega) rfl ?_
 simp only [envS_put, List.length_nil]
 refine ARun.loopW (fun i : Nat => (envS 21 [(0, .d (.sl (l.map exD))), (3, .sl (ssD ((l.take i).map exT)) (.own 0)), (4, .d (.int .i64 (i : Int)))], ⟨[], [(i, 1)]⟩)) (fun i => i ≤ l.length) (fun i => l.length - i) 0 (by omega) ?_ rfl ?_
 ·skip
  refine Agree.env _ ?_
  simp only [agw, seval]
  try rfl
 intro i h1 ih
 dsimp only at h1 ih ⊢
 by_cases hlt : i < l.length
 case neg =>
  have e1 : decide ((i : Int) < (l.length : Int)) = false := decide_eq_false (by omega)
  obtain rfl : i = l.length := by omega
  rw [List.take_length]
  refine ARun.go 60 ?_
  simp only [W, seval, c93, e1]
  refine callS_fn hj ?_
  rintro _ _ ⟨rfl, rfl⟩
  refine ARun.go 20 ?_
  simp only [W, seval, c93]
  refine ARun.ret Tryz.func93 rfl (Left.empty ?_)
  exact ⟨rfl, rfl⟩
 have e1 : decide ((i : Int) < (l.length : Int)) = true := decide_eq_true (by omega)
 have hwi := wrap_in ((i : Int) + 1) (by omega)
 have hg : (l.map exD)[i]? = some (exD l[i]) := by simp [hlt]
 have htk : (l.take (i + 1)).map exT = (l.take i).map exT ++ [exT l[i]] := by
  rw [List.take_succ_eq_append_getElem hlt, List.map_append]
  rfl
 have hy := hx l[i] (List.getElem_mem hlt)
 generalize l[i] = y at hg htk hy
 rw [exD_eq] at hg
 unfold RX exV at hy
 have hcap : (i + 1) * 16 ≤ 140737488355328 := by omega
 have hsn : ssD ((l.take i).map exT) ++ [[D.str (exT y)]] = ssD ((l.take (i + 1)).map exT) := by rw [htk]; exact ssD_snoc _ _
 have hsn2 : (ssD ((l.take i).map exT)).length = i := by simp [ssD]; omega
 refine ARun.go 60 ?_
 simp only [W, seval, c93, e1, hg, hlt]
 refine callS_fn (hy _) ?_
 rintro _ _ ⟨rfl, rfl⟩
 refine ARun.go 60 ?_
 simp only [W, seval, c93, hsn2, mapD_nil, mapD_cons, Nat.reduceMul, hcap, hsn, ss1, hwi]
 refine ih (i + 1) (by omega) (by omega) _ _ ?_ rfl
 refine Agree.env _ ?_
 simp only [agw, seval]
 try rfl
theorem paren_ab {x : ExT} (hx : RX x) (b : Bool) (hb : (exT x).length ≤ mostW) : RS 124 [exV x, .d (.bool b)] (parT b (exT x)) := by
 refine RS.of (by simp [exV, wkL, wk]) ?_
 unfold mostW at hb
 unfold RX at hx
 generalize exT x = u at hx hb ⊢
 have k1 : 1 + u.length ≤ 9223372036854775807 := by omega
 have k2 : u.length ≤ 9223372036854775805 := by omega
 unfold exV at hx ⊢
 cases b
 ·rw [show parT false u = u from rfl]
  refine b124.go 20 rfl fun hsm => ?_
  simp only [smw] at hsm
  simp only [W, seval, c124]
  refine callS_fn (hx _) ?_
  rintro _ _ ⟨rfl, rfl⟩
  refine ARun.go 20 ?_
  simp only [W, seval, c124]
  refine ARun.ret Tryz.func124 rfl (Left.empty ?_)
  exact ⟨rfl, rfl⟩
 ·rw [show parT true u = [40] ++ u ++ [41] from rfl]
  refine b124.go 20 rfl fun hsm => ?_
  simp only [smw] at hsm
  simp only [W, seval, c124]
  refine callS_fn (hx _) ?_
  rintro _ _ ⟨rfl, rfl⟩
  refine ARun.go 20 ?_
  simp only [W, seval, c124, k1, k2]
  refine ARun.ret Tryz.func124 rfl (Left.empty ?_)
  exact ⟨rfl, rfl⟩
theorem tight2_ab {x : ExT} (hx : RX x) (hb : (exT x).length ≤ mostW) : RS 122 [exV x] (parT (tigB x) (exT x)) := by
 refine RS.of (by simp [exV, wkL, wk]) ?_
 have hp := paren_ab hx (tigB x) hb
 have ht : tigB x = (decide (4 ≤ x.kind) && decide (x.kind ≤ 6)) := by
  unfold tigB
  rw [← Bool.decide_or, ← Bool.decide_or, ← Bool.decide_and]
  exact decide_eq_decide.2 (by omega)
 rw [ht] at hp ⊢
 unfold exV at hp ⊢
 cases e4 : decide (4 ≤ x.kind)
 ·rw [e4, Bool.false_and] at hp
  refine b122.go 20 rfl fun hsm => ?_
  simp only [smw] at hsm
  simp only [W, seval, c122, e4, Bool.false_and]
  refine callS_fn (hp _) ?_
  rintro _ _ ⟨rfl, rfl⟩
  refine ARun.go 20 ?_
  simp only [W, seval, c122]
  refine ARun.ret Tryz.func122 rfl (Left.empty ?_)
  exact ⟨rfl, rfl⟩
 ·rw [e4, Bool.true_and] at hp
  refine b122.go 20 rfl fun hsm => ?_
  simp only [smw] at hsm
  simp only [W, seval, c122, e4, Bool.true_and]
  refine callS_fn (hp _) ?_
  rintro _ _ ⟨rfl, rfl⟩
  refine ARun.go 20 ?_
  simp only [W, seval, c122]
  refine ARun.ret Tryz.func122 rfl (Left.empty ?_)
  exact ⟨rfl, rfl⟩
def c75 := by
 have c := KK_of Tryz.f75 (by conv => lhs; cbv)
 dsimp only [KK, KxP, doO, opO, List.map_cons, List.map_nil, List.toList_toArray] at c
 exact c
theorem b75 : FnIs Tryz.prog 75 Tryz.f75 32 := ⟨Tryz.func75, by kernel_rfl⟩
def c108 := by
 have c := KK_of Tryz.f108 (by conv => lhs; cbv)
 dsimp only [KK, KxP, doO, opO, List.map_cons, List.map_nil, List.toList_toArray] at c
 exact c
theorem b108 : FnIs Tryz.prog 108 Tryz.f108 18 := ⟨Tryz.func108, by kernel_rfl⟩
set_option maxHeartbeats 2000000 in
theorem conv_pw {y : ExT} (q : Int) (h2 : 2 ≤ q) (h6 : q ≤ 6) (hy : PWE y) : PW 75 [exV (.mk 8 [] 0 (.mk q [] []) [] [y])] fun _ => typT (.mk q [] []) ++ ([40] ++ comT [exT y] ++ [41]) := by
 intro i t s k B T hin htm hk hb
 obtain ⟨N, hn⟩ : ∃ N, B.length = N := ⟨_, rfl⟩
 have hin' : i < N := by omega
 obtain ⟨a, ha⟩ : ∃ a, s ++ (typT (.mk q [] []) ++ ([40] ++ comT [exT y] ++ [41])) = a := ⟨_, rfl⟩
 dsimp only at hb ⊢
 rw [ha]
 simp only [lnw] at hb
 have hcx : (comT (List.map exT [y])).length = (comT [exT y]).length := rfl
 change AFn _ _ _ [.ptr i 0, .agg [.d (.int .i64 8), .d (.str []), .d (.int .u64 0), .d (.int .i64 q), .d (.str []), .d (.sl []), .d (.sl []), .d (.sl [exD y])]] _ _
 refine b75.go 20 rfl fun hsm => ?_
 simp only [smw] at hsm
 simp only [W, seval, c75, hin, htm, hn]
 refine (typ_pw (.bas q (by omega) h6)).callJ hin htm hk ?_ fun s1 h_s1 => ?_
 ·try simp only [lnw]
  omega
 have hl_s1 := congrArg List.length h_s1
 simp only [lnw] at hl_s1
 refine ARun.go 60 ?_
 simp only [W, seval, c75, hn, hin]
 refine (list_Expr_pl (g := 44) (l := [y]) (tx := exT) (fun x hx => by rw [List.mem_singleton.1 hx]; exact hy) [40] [41]).callJ hin htm hk ?_ fun s2 h_s2 => ?_
 ·try simp only [lnw]
  omega
 have hl_s2 := congrArg List.length h_s2
 simp only [lnw] at hl_s2
 refine ARun.go 20 ?_
 simp only [W, seval, c75]
 refine ARun.fin Tryz.func75 rfl (PW.retJ hin htm ?_)
 subst h_s1 h_s2 ha
 exact ⟨rfl, by simp⟩
set_option maxHeartbeats 2000000 in
theorem lis_pw {y : TyT} {l : List ExT} (ht : OkT y) (hl : ∀ x ∈ l, PWE x) : PW 75 [exV (.mk 15 [] 0 (.mk 8 [] [y]) [] l)] fun _ => typT (.mk 8 [] [y]) ++ ([123] ++ comT (exTs l) ++ [125]) := by
 intro i t s k B T hin htm hk hb
 obtain ⟨N, hn⟩ : ∃ N, B.length = N := ⟨_, rfl⟩
 have hin' : i < N := by omega
 rw [exTs_map] at hb ⊢
 obtain ⟨a, ha⟩ : ∃ a, s ++ (typT (.mk 8 [] [y]) ++ ([123] ++ comT (l.map exT) ++ [125])) = a := ⟨_, rfl⟩
 dsimp only at hb ⊢
 rw [ha]
 simp only [lnw] at hb
 change AFn _ _ _ [.ptr i 0, .agg [.d (.int .i64 15), .d (.str []), .d (.int .u64 0), .d (.int .i64 8), .d (.str []), .d (.sl [tyD y]), .d (.sl []), .d (.sl (l.map exD))]] _ _
 refine b75.go 20 rfl fun hsm => ?_
 simp only [smw] at hsm
 simp only [W, seval, c75, hin, htm, hn]
 refine (typ_pw (.sli y ht)).callJ hin htm hk ?_ fun s1 h_s1 => ?_
 ·try simp only [lnw]
  omega
 have hl_s1 := congrArg List.length h_s1
 simp only [lnw] at hl_s1
 refine ARun.go 60 ?_
 simp only [W, seval, c75, hn, hin]
 refine (list_Expr_pl (g := 44) (tx := exT) hl [123] [125]).callJ hin htm hk ?_ fun s2 h_s2 => ?_
 ·try simp only [lnw]
  omega
 have hl_s2 := congrArg List.length h_s2
 simp only [lnw] at hl_s2
 refine ARun.go 20 ?_
 simp only [W, seval, c75]
 refine ARun.fin Tryz.func75 rfl (PW.retJ hin htm ?_)
 subst h_s1 h_s2 ha
 exact ⟨rfl, by simp⟩
theorem namT_len : ∀ (ns xs : List (List UInt8)), ns.length = xs.length → (namT ns xs).length = xs.length
 | [], [], _ => rfl
 | n :: ns, x :: xs, h => by
  simp only [namT, List.length_cons]
  rw [namT_len ns xs (by simpa using h)]
theorem namT_get : ∀ (ns xs : List (List UInt8)) (j : Nat) (h : j < ns.length) (h' : j < xs.length) (h2 : j < (namT ns xs).length), (namT ns xs)[j] = ns[j] ++ [58, 32] ++ xs[j]
 | n :: ns, x :: xs, 0, _, _, _ => rfl
 | n :: ns, x :: xs, j + 1, h, h', h2 => namT_get ns xs j (by simpa using h) (by simpa using h') (by simpa [namT] using h2)
theorem fitL_mid {n m : Nat} (A C : List (List V)) (x y : List V) (hy : y.all (fit n m) = true) : FitL n m (A ++ x :: C) (A ++ y :: C) := by
 intro j vs h
 rcases Nat.lt_or_ge j A.length with h' | h'
 ·rw [List.getElem?_append_left h'] at h ⊢
  exact .inl h
 ·rw [List.getElem?_append_right h'] at h ⊢
  cases hj : j - A.length with
  | zero =>
   rw [hj] at h
   obtain rfl := Option.some.inj h
   exact .inr hy
  | succ q =>
   rw [hj] at h
   exact .inl h
theorem leftS {n m i t k : Nat} {s s' : List UInt8} {B A A' J : List (List V)} {T : List (Nat × Nat)} {a b : Nat × Nat} {R : V → Mem → Prop} {v : V} (hin : i < B.length) (hB : (B ++ A).length = n) (hA : (B ++ A').length = n) (hm : T.length = m) (ht : t < m) (hl : FitL n m (B ++ A) (B ++ A'))
 (h : R (wk (B.set i (bxW i t s k) ++ A).length (T.set t a).length v) ⟨B.set i (bxW i t s' k) ++ A', T.set t b⟩) : Ab.Left ⟨B.set i (bxW i t s k) ++ A, T.set t a⟩ R v ⟨B.set i (bxW i t s' k) ++ (A' ++ J), T.set t b⟩ := by
 have := leftW (B := B ++ A) (L := B ++ A') (J := J) (i := i) (t := t) (k := k) (s := s) (s' := s') (a := a) (b := b) (R := R) (v := v) hB hA hm (by rw [← hB]; simp; omega) ht hl (by rw [List.set_append_left _ _ hin, List.set_append_left _ _ hin]; exact h)
 rw [List.set_append_left _ _ hin, List.set_append_left _ _ hin, List.append_assoc] at this
 exact this
def slL (n : List UInt8) (ns : List (List UInt8)) (l : List ExT) : List V := [.d (.int .i64 14), .d (.str []), .d (.int .u64 0), .d (.int .i64 7), .d (.str n), .d (.sl []), .d (.sl (ssD ns)), .d (.sl (l.map exD))]
set_option maxHeartbeats 2000000 in
theorem fld_ab {n : List UInt8} {ns : List (List UInt8)} {l : List ExT} {i t k N : Nat} {B J : List (List V)} {T : List (Nat × Nat)} (hn : B.length = N) (hin : i < B.length) (htm : t < T.length) (hk : k ≤ 900) {y : ExT} (hy : PWE y) (j : Nat) (hj : j < ns.length) (hj9 : (j : Int) + 1 ≤ 9223372036854775807) (s : List UInt8) (hb : s.length + (ns[j] ++ [58, 32] ++ exT y).length ≤ mostW) :
 AFn Tryz.prog TabI 108 [exV y, .ptr N 0, .ptr (N + 1) 0, .ptr (N + 2) 0] ⟨B.set i (bxW i t s k) ++ ([.ptr i 0] :: slL n ns l :: [.d (.int .i64 (j : Int))] :: J), T.set t (s.length, 1)⟩
  (Same (.tup []) ⟨B.set i (bxW i t (s ++ (ns[j] ++ [58, 32] ++ exT y)) k) ++ ([.ptr i 0] :: slL n ns l :: [.d (.int .i64 ((j + 1 : Nat) : Int))] :: J), T.set t ((s ++ (ns[j] ++ [58, 32] ++ exT y)).length, 1)⟩) := by
 obtain ⟨a, ha⟩ : ∃ a, s ++ (ns[j] ++ [58, 32] ++ exT y) = a := ⟨_, rfl⟩
 rw [ha]
 have hin' : i < N := by omega
 have hg := ss_get ns j hj
 obtain ⟨nj, hnj⟩ : ∃ x, ns[j] = x := ⟨_, rfl⟩
 rw [hnj] at hg hb ha
 simp only [lnw] at hb
 have hwj := wrap_in ((j : Int) + 1) (by omega)
 obtain ⟨M, hM⟩ : ∃ M, J.length = M := ⟨_, rfl⟩
 unfold exV slL
 refine b108.go 5 rfl fun hsm => ?_
 simp only [smw] at hsm
 simp only [W, seval, c108, hin, htm, hn, hM]
 refine ARun.drawC [7] (fun S => S.boxes[N]? = some [.ptr i 0] ∧ S.boxes[N + 1]? = some (slL n ns l) ∧ S.boxes[N + 2]? = some [.d (.int .i64 (j : Int))]) (by kernel_rfl) (by kernel_rfl) (by kernel_rfl) ?_
 simp only [W, seval, c108]
 refine lexC_q (v := ?_) (by rfl) (by kernel_rfl) (fun S hS => ?_) ?_
 rotate_left
 ·try dsimp only at hS
  simp only [W, seval, c108, hS.1]
  exact rfl
 simp only [W, seval, c108]
 refine lexC_q (v := ?_) (by rfl) (by kernel_rfl) (fun S hS => ?_) ?_
 rotate_left
 ·simp only [W, seval, c108]
  exact rfl
 simp only [W, seval, c108]
 refine lexC_q (v := ?_) (by rfl) (by kernel_rfl) (fun S hS => ?_) ?_
 rotate_left
 ·try dsimp only at hS
  simp only [W, seval, c108, hS.2.1, slL]
  exact rfl
 simp only [W, seval, c108]
 refine lexC_q (v := ?_) (by rfl) (by kernel_rfl) (fun S hS => ?_) ?_
 rotate_left
 ·try dsimp only at hS
  simp only [W, seval, c108, hS.2.2]
  exact rfl
 simp only [W, seval, c108]
 refine lexC_q (v := ?_) (by rfl) (by kernel_rfl) (fun S hS => ?_) ?_
 rotate_left
 ·simp only [W, seval, c108, hg]
  exact rfl
 simp only [W, seval, c108]
 refine lexC_q (v := ?_) (by rfl) (by kernel_rfl) (fun S hS => ?_) ?_
 rotate_left
 ·simp only [W, seval, c108]
  exact rfl
 simp only [W, seval, c108]
 refine lexC_q (v := ?_) (by rfl) (by kernel_rfl) (fun S hS => ?_) ?_
 rotate_left
 ·simp only [W, seval, c108, mapD_nil, mapD_cons]
  exact rfl
 simp only [W, seval, c108]
 refine (put2 nj [58, 32]).lexc hin htm hk ?_ ?_ (by rfl) (by kernel_rfl) ?_ fun s1 h_s1 => ?_
 ·simp only [List.length_append, List.length_cons, List.length_nil]
  omega
 ·simp [bx_loc, bx_loc0, hn, slL]
 ·simp only [W, seval, c108]
  exact ⟨_, _, rfl, rfl, rfl, by simp only [W, seval, c108]⟩
 have hl_s1 := congrArg List.length h_s1
 try dsimp only at hl_s1
 simp only [lnw] at hl_s1
 refine lexC_end (by simp [bx_loc, bx_loc0, hn, slL]) ?_
 refine ARun.go 20 ?_
 simp only [W, seval, c108, hin, hn, hM]
 refine (hy).callJ hin htm hk ?_ fun s2 h_s2 => ?_
 ·try simp only [lnw]
  omega
 have hl_s2 := congrArg List.length h_s2
 simp only [lnw] at hl_s2
 refine ARun.go 40 ?_
 simp only [W, seval, c108, hin, hn, hM, hwj]
 refine ARun.fin Tryz.func108 rfl (leftS (A' := [.ptr i 0] :: slL n ns l :: [.d (.int .i64 ((j : Int) + 1))] :: J) hin rfl (by simp) rfl htm ?_ ?_)
 ·have h := fitL_mid (n := (B ++ [.ptr i 0] :: slL n ns l :: [.d (.int .i64 (j : Int))] :: J).length) (m := T.length) (B ++ [[.ptr i 0], slL n ns l]) J [.d (.int .i64 (j : Int))] [.d (.int .i64 ((j : Int) + 1))] (by rfl)
  rw [List.append_assoc, List.append_assoc] at h
  exact h
 ·subst h_s1 h_s2 ha
  exact ⟨rfl, by simp [slL]⟩
set_option maxHeartbeats 2000000 in
theorem str_pw {n : List UInt8} {ns : List (List UInt8)} {l : List ExT} (hid : identS n = true) (hlen : ns.length = l.length) (hl : ∀ x ∈ l, PWE x) : PW 75 [exV (.mk 14 [] 0 (.mk 7 n []) ns l)] fun _ => n ++ ([123] ++ comT (namT ns (exTs l)) ++ [125]) := by
 intro i t s k B T hin htm hk hb
 obtain ⟨N, hn⟩ : ∃ N, B.length = N := ⟨_, rfl⟩
 have hin' : i < N := by omega
 obtain ⟨a, ha⟩ : ∃ a, s ++ (n ++ ([123] ++ comT (namT ns (exTs l)) ++ [125])) = a := ⟨_, rfl⟩
 dsimp only at hb ⊢
 rw [ha]
 simp only [lnw] at hb
 change AFn _ _ _ [.ptr i 0, .agg [.d (.int .i64 14), .d (.str []), .d (.int .u64 0), .d (.int .i64 7), .d (.str n), .d (.sl []), .d (.sl (ssD ns)), .d (.sl (l.map exD))]] _ _
 refine b75.go 20 rfl fun hsm => ?_
 simp only [smw] at hsm
 simp only [W, seval, c75, hin, htm, hn]
 have htl : (typT (.mk 7 n [])).length = n.length := by simp [typT]
 refine (typ_pw (.nam n hid)).callJ hin htm hk ?_ fun s1 h_s1 => ?_
 ·try simp only [lnw]
  omega
 have hl_s1 := congrArg List.length h_s1
 simp only [lnw] at hl_s1
 have hl1 : s1.length = s.length + n.length := by rw [← h_s1]; simp [typT]
 refine ARun.go 60 ?_
 simp only [W, seval, c75, hn, hin]
 have hus : (namT ns (exTs l)).length = l.length := by rw [namT_len _ _ (by rw [hlen, exTs_map]; simp), exTs_map]; simp
 have hls := list_Expr (g := 108) (first := []) (caps := [.ptr N 0, .ptr (N + 1) 0, .ptr (N + 2) 0]) (l := l) (us := namT ns (exTs l)) (i := i) (t := t) (k := k) (n := N + 3) (m := T.length) (N := fun j => B ++ [[.ptr i 0], slL n ns l, [.d (.int .i64 (j : Int))]]) (T := T) ⟨hus, fun j h h' u J hu => by
  have h2 : j < ns.length := by omega
  rw [namT_get ns _ j h2 (by rw [exTs_map]; simpa using h) h'] at hu ⊢
  have e : (exTs l)[j]'(by rw [exTs_map]; simpa using h) = exT l[j] := by simp [exTs_map]
  rw [e] at hu ⊢
  have := fld_ab (n := n) (ns := ns) (l := l) (k := k) (J := J) hn hin htm hk (hl l[j] (List.getElem_mem h)) j h2 (by omega) u hu
  rw [List.set_append_left _ _ hin, List.set_append_left _ _ hin]
  simpa only [List.append_assoc, List.cons_append, List.nil_append] using this⟩ (fun j => by simp [hn]) (by omega) rfl htm hk (fun j => by
   have h := fitL_mid (n := N + 3) (m := T.length) (B ++ [[.ptr i 0], slL n ns l]) [] [.d (.int .i64 ((0 : Nat) : Int))] [.d (.int .i64 (j : Int))] (by rfl)
   rw [List.append_assoc, List.append_assoc] at h
   exact h) [123] [125] s1 (by simp only [lnw]; omega)
 try dsimp only at hls
 rw [List.set_append_left _ _ hin, List.set_append_left _ _ hin] at hls
 refine callS_fn hls ?_
 rintro _ _ ⟨rfl, rfl⟩
 obtain ⟨s2, h_s2⟩ : ∃ s2, s1 ++ ([123] ++ comT (namT ns (exTs l)) ++ [125]) = s2 := ⟨_, rfl⟩
 rw [h_s2]
 refine ARun.go 20 ?_
 simp only [W, seval, c75]
 refine ARun.fin Tryz.func75 rfl (PW.retJ hin htm ?_)
 subst h_s1 h_s2 ha
 exact ⟨rfl, by simp [typT]⟩
def c94 := by
 have c := KK_of Tryz.f94 (by conv => lhs; cbv)
 dsimp only [KK, KxP, doO, opO, List.map_cons, List.map_nil, List.toList_toArray] at c
 exact c
theorem b94 : FnIs Tryz.prog 94 Tryz.f94 212 := ⟨Tryz.func94, by kernel_rfl⟩
theorem par_le (b : Bool) (u : List UInt8) : u.length ≤ (parT b u).length := by unfold parT; split <;> simp; omega
set_option maxHeartbeats 4000000 in
theorem bin2_ab {y z : ExT} (g : List UInt8) (hy : RX y) (hz : RX z) (hb : (parT (lowB y (rankS g)) (exT y) ++ ([32] ++ g ++ [32]) ++ parT (lowB z (rankS g + 1)) (exT z)).length ≤ mostW) : RX (.mk 6 g 0 noT [] [y, z]) := by
 refine RS.of (by simp [exV, wkL, wk]) ?_
 have hty : exT (.mk 6 g 0 noT [] [y, z]) = parT (lowB y (rankS g)) (exT y) ++ ([32] ++ g ++ [32]) ++ parT (lowB z (rankS g + 1)) (exT z) := rfl
 rw [hty]
 unfold mostW at hb
 simp only [lnw] at hb
 have l1 := par_le (lowB y (rankS g)) (exT y)
 have l2 := par_le (lowB z (rankS g + 1)) (exT z)
 have hp := paren_ab hy (lowB y (rankS g)) (by unfold mostW; omega)
 have hq := paren_ab hz (lowB z (rankS g + 1)) (by unfold mostW; omega)
 clear l1 l2 hy hz hty
 generalize hv : parT (lowB z (rankS g + 1)) (exT z) = v at hq hb ⊢
 generalize hu : parT (lowB y (rankS g)) (exT y) = u at hp hb ⊢
 clear hu hv
 have kk : u.length ≤ 9223372036854775806 ∧ u.length + 1 ≤ 9223372036854775807 ∧ u.length + 1 + g.length ≤ 9223372036854775807 ∧ u.length + (g.length + 1) ≤ 9223372036854775806 ∧ u.length + (g.length + 1) + 1 ≤ 9223372036854775807 ∧ u.length + (g.length + 1 + 1) + v.length ≤ 9223372036854775807 ∧ u.length + (g.length + 2) + v.length ≤ 9223372036854775807 := by omega
 have hr : u ++ ([32] ++ g ++ [32]) ++ v = u ++ [32] ++ g ++ [32] ++ v := by simp
 rw [hr]
 have hly : lowB y (rankS g) = (decide (y.kind = 6) && decide (rankS y.text < rankS g)) := rfl
 have hlz : lowB z (rankS g + 1) = (decide (z.kind = 6) && decide (rankS z.text ≤ rankS g)) := by
  unfold lowB
  rw [show decide (rankS z.text < rankS g + 1) = decide (rankS z.text ≤ rankS g) from decide_eq_decide.2 (by omega)]
 rw [hly] at hp
 rw [hlz] at hq
 unfold exV at hp hq
 change AFn _ _ _ [.agg [.d (.int .i64 6), .d (.str g), .d (.int .u64 0), .d (.int .i64 0), .d (.str []), .d (.sl []), .d (.sl []), .d (.sl [exD y, exD z])]] _ _
 refine b94.go 90 rfl fun hsm => ?_
 simp only [smw] at hsm
 simp only [W, seval, c94, exD_eq]
 refine callS_fn (rankR_ab g _ _) ?_
 rintro _ _ ⟨rfl, rfl⟩
 refine ARun.go 9 ?_
 simp only [W, seval, c94]
 cases ey : decide (y.kind = 6) <;> cases ez : decide (z.kind = 6)
 all_goals rw [ey] at hp
 all_goals rw [ez] at hq
 all_goals simp only [Bool.true_and, Bool.false_and] at hp hq
 ·refine ARun.draw (by kernel_rfl) (by kernel_rfl) (lexQ_ok 60 _ _ ?_)
  simp only [W, seval, c94, ey, ez]
  refine ⟨_, hp _, ?_⟩
  simp only [W, seval, c94, kk, ez]
  refine ⟨_, hq _, ?_⟩
  simp only [W, seval, c94, kk]
  refine ARun.go 20 ?_
  simp only [W, seval, c94]
  refine ARun.ret Tryz.func94 rfl (Left.empty ?_)
  exact ⟨rfl, rfl⟩
 ·refine ARun.draw (by kernel_rfl) (by kernel_rfl) (lexQ_ok 60 _ _ ?_)
  simp only [W, seval, c94, ey, ez]
  refine ⟨_, hp _, ?_⟩
  simp only [W, seval, c94, kk, ez]
  refine ⟨_, rankR_ab z.text _ _, ?_⟩
  simp only [W, seval, c94]
  refine ⟨_, hq _, ?_⟩
  simp only [W, seval, c94, kk]
  refine ARun.go 20 ?_
  simp only [W, seval, c94]
  refine ARun.ret Tryz.func94 rfl (Left.empty ?_)
  exact ⟨rfl, rfl⟩
 ·refine ARun.draw (by kernel_rfl) (by kernel_rfl) (lexQ_ok 60 _ _ ?_)
  simp only [W, seval, c94, ey, ez]
  refine ⟨_, rankR_ab y.text _ _, ?_⟩
  simp only [W, seval, c94]
  refine ⟨_, hp _, ?_⟩
  simp only [W, seval, c94, kk, ez]
  refine ⟨_, hq _, ?_⟩
  simp only [W, seval, c94, kk]
  refine ARun.go 20 ?_
  simp only [W, seval, c94]
  refine ARun.ret Tryz.func94 rfl (Left.empty ?_)
  exact ⟨rfl, rfl⟩
 ·refine ARun.draw (by kernel_rfl) (by kernel_rfl) (lexQ_ok 60 _ _ ?_)
  simp only [W, seval, c94, ey, ez]
  refine ⟨_, rankR_ab y.text _ _, ?_⟩
  simp only [W, seval, c94]
  refine ⟨_, hp _, ?_⟩
  simp only [W, seval, c94, kk, ez]
  refine ⟨_, rankR_ab z.text _ _, ?_⟩
  simp only [W, seval, c94]
  refine ⟨_, hq _, ?_⟩
  simp only [W, seval, c94, kk]
  refine ARun.go 20 ?_
  simp only [W, seval, c94]
  refine ARun.ret Tryz.func94 rfl (Left.empty ?_)
  exact ⟨rfl, rfl⟩
set_option maxHeartbeats 4000000 in
theorem str2_ab {n : List UInt8} {ns : List (List UInt8)} {l : List ExT} (hlen : ns.length = l.length) (hl : ∀ x ∈ l, RE x) (hb : (n ++ ([123] ++ comT (namT ns (exTs l)) ++ [125])).length ≤ mostW) : RX (.mk 14 [] 0 (.mk 7 n []) ns l) := by
 refine RS.of (by simp [exV, wkL, wk]) ?_
 have hty : exT (.mk 14 [] 0 (.mk 7 n []) ns l) = n ++ ([123] ++ comT (namT ns (exTs l)) ++ [125]) := rfl
 rw [hty]
 have hus : (namT ns (exTs l)).length = l.length := by rw [namT_len _ _ (by rw [hlen, exTs_map]; simp), exTs_map]; simp
 have hug : ∀ (ns : List (List UInt8)) (l : List ExT) (i : Nat) (h1 : i < ns.length) (h2 : i < l.length), (namT ns (exTs l))[i]? = some (ns[i] ++ [58, 32] ++ exT l[i]) := by
  intro ns
  induction ns with
  | nil => intro l i h1; simp at h1
  | cons a ns ih =>
   intro l i h1 h2
   cases l with
   | nil => simp at h2
   | cons x l =>
    cases i with
    | zero => simp [namT, exTs]
    | succ i => simpa [namT, exTs] using ih l i (by simpa using h1) (by simpa using h2)
 have hug := hug ns l
 have hmem : ∀ x ∈ namT ns (exTs l), x.length ≤ (comT (namT ns (exTs l))).length := com_mem false _
 have hcn : 2 * (namT ns (exTs l)).length ≤ (comT (namT ns (exTs l))).length + 2 := com_cnt false _
 have hb' := hb
 simp only [lnw] at hb'
 have hj := AFn.sameW (join2_in (namT ns (exTs l)) (by omega)).only (args := [.sl (ssD (namT ns (exTs l))) (.own 0)]) (by simp [wkL, wk]) rfl ⟨[[.d (.int .i64 14), .d (.str []), .d (.int .u64 0), .d (.int .i64 7), .d (.str n), .d (.sl []), .d (.sl (ssD ns)), .d (.sl (l.map exD))]], [(l.length, 1)]⟩
 clear hb
 unfold mostW at hb'
 generalize namT ns (exTs l) = u at hus hug hmem hcn hj hb' ⊢
 have kk : n.length ≤ 9223372036854775806 ∧ n.length + 1 ≤ 9223372036854775807 ∧ n.length + 1 + ((comT u).length) ≤ 9223372036854775807 ∧ n.length + ((comT u).length + 1) ≤ 9223372036854775806 ∧ n.length + ((comT u).length + 1) + 1 ≤ 9223372036854775807 := by omega
 change AFn _ _ _ [.agg [.d (.int .i64 14), .d (.str []), .d (.int .u64 0), .d (.int .i64 7), .d (.str n), .d (.sl []), .d (.sl (ssD ns)), .d (.sl (l.map exD))]] _ _
 refine b94.go 160 rfl fun hsm => ?_
 simp only [smw] at hsm
 simp only [W, seval, c94]
 refine ARun.token 6 [] (by rfl) 1 (by omega) rfl ?_
 simp only [envS_put, List.length_nil]
 refine ARun.loopW (fun i : Nat => (envS 212 [(1, .ptr 0 0), (6, .sl (ssD (u.take i)) (.own 0)), (7, .d (.int .i64 (i : Int)))], ⟨[[.d (.int .i64 14), .d (.str []), .d (.int .u64 0), .d (.int .i64 7), .d (.str n), .d (.sl []), .d (.sl (ssD ns)), .d (.sl (l.map exD))]], [(i, 1)]⟩)) (fun i => i ≤ l.length) (fun i => l.length - i) 0 (by omega) ?_ rfl ?_
 ·skip
  refine Agree.env _ ?_
  simp only [agw, seval]
  try rfl
 intro i h1 ih
 dsimp only at h1 ih ⊢
 by_cases hlt : i < l.length
 case neg =>
  have e1 : decide ((i : Int) < (l.length : Int)) = false := decide_eq_false (by omega)
  obtain rfl : i = l.length := by omega
  rw [List.take_of_length_le (by omega)]
  refine ARun.go 20 ?_
  simp only [W, seval, c94, e1]
  refine ARun.draw (by kernel_rfl) (by kernel_rfl) (lexQ_ok 60 _ _ ?_)
  simp only [W, seval, c94, kk]
  refine ⟨_, hj, ?_⟩
  simp only [W, seval, c94, kk]
  refine ARun.go 20 ?_
  simp only [W, seval, c94]
  refine ARun.ret Tryz.func94 rfl (Left.empty ?_)
  exact ⟨rfl, rfl⟩
 have e1 : decide ((i : Int) < (l.length : Int)) = true := decide_eq_true (by omega)
 have hwi := wrap_in ((i : Int) + 1) (by omega)
 have hg : (l.map exD)[i]? = some (exD l[i]) := by simp [hlt]
 have hgn := ss_get ns i (by omega)
 have hnl : i < ns.length := by omega
 have hui := hug i hnl hlt
 have hilt : i < u.length := by omega
 have htk : u.take (i + 1) = u.take i ++ [ns[i] ++ [58, 32] ++ exT l[i]] := by
  rw [List.take_succ_eq_append_getElem hilt]
  rw [List.getElem?_eq_getElem hilt] at hui
  rw [Option.some.inj hui]
 have hul := hmem _ (List.mem_of_getElem? hui)
 have hy := hl l[i] (List.getElem_mem hlt)
 clear hui hl
 generalize l[i] = y at hg htk hy hul
 generalize ns[i] = m at hgn htk hul
 simp only [lnw] at hul
 have hy := hy (by unfold mostW; omega)
 rw [exD_eq] at hg
 unfold RX exV at hy
 have kq : m.length ≤ 9223372036854775805 ∧ m.length + 2 ≤ 9223372036854775807 ∧ m.length + 2 + ((exT y).length) ≤ 9223372036854775807 := by omega
 have hcap : (i + 1) * 16 ≤ 140737488355328 := by omega
 have hsn : ssD (u.take i) ++ [[D.str (m ++ 58 :: 32 :: exT y)]] = ssD (u.take (i + 1)) := by rw [htk, show m ++ [58, 32] ++ exT y = m ++ 58 :: 32 :: exT y by simp]; exact ssD_snoc _ _
 have hsn2 : (ssD (u.take i)).length = i := by simp [ssD]; omega
 refine ARun.go 20 ?_
 simp only [W, seval, c94, e1]
 refine ARun.drawC [12, 15] (fun S => S.boxes[0]? = some [.d (.int .i64 14), .d (.str []), .d (.int .u64 0), .d (.int .i64 7), .d (.str n), .d (.sl []), .d (.sl (ssD ns)), .d (.sl (l.map exD))]) (by kernel_rfl) (by kernel_rfl) (by kernel_rfl) ?_
 simp only [W, seval, c94]
 refine lexC_q (v := ?_) (by rfl) (by kernel_rfl) (fun S hS => ?_) ?_
 rotate_left
 ·simp only [W, seval, c94]
  exact rfl
 simp only [W, seval, c94]
 refine lexC_q (v := ?_) (by rfl) (by kernel_rfl) (fun S hS => ?_) ?_
 rotate_left
 ·simp only [W, seval, c94]
  exact rfl
 simp only [W, seval, c94]
 refine lexC_q (v := ?_) (by rfl) (by kernel_rfl) (fun S hS => ?_) ?_
 rotate_left
 ·try dsimp only at hS
  simp only [W, seval, c94, hS]
  exact rfl
 simp only [W, seval, c94]
 refine lexC_q (v := ?_) (by rfl) (by kernel_rfl) (fun S hS => ?_) ?_
 rotate_left
 ·simp only [W, seval, c94]
  exact rfl
 simp only [W, seval, c94]
 refine lexC_q (v := ?_) (by rfl) (by kernel_rfl) (fun S hS => ?_) ?_
 rotate_left
 ·simp only [W, seval, c94, hgn, hnl, ssD_length]
  exact rfl
 simp only [W, seval, c94]
 refine lexC_q (v := ?_) (by rfl) (by kernel_rfl) (fun S hS => ?_) ?_
 rotate_left
 ·simp only [W, seval, c94, hgn, hnl, ssD_length]
  exact rfl
 simp only [W, seval, c94]
 refine lexC_q (v := ?_) (by rfl) (by kernel_rfl) (fun S hS => ?_) ?_
 rotate_left
 ·simp only [W, seval, c94, kq]
  exact rfl
 simp only [W, seval, c94]
 refine lexC_q (v := ?_) (by rfl) (by kernel_rfl) (fun S hS => ?_) ?_
 rotate_left
 ·simp only [W, seval, c94]
  exact rfl
 simp only [W, seval, c94]
 refine lexC_q (v := ?_) (by rfl) (by kernel_rfl) (fun S hS => ?_) ?_
 rotate_left
 ·try dsimp only at hS
  simp only [W, seval, c94, hS]
  exact rfl
 simp only [W, seval, c94]
 refine lexC_q (v := ?_) (by rfl) (by kernel_rfl) (fun S hS => ?_) ?_
 rotate_left
 ·simp only [W, seval, c94]
  exact rfl
 simp only [W, seval, c94]
 refine lexC_q (v := ?_) (by rfl) (by kernel_rfl) (fun S hS => ?_) ?_
 rotate_left
 ·simp only [W, seval, c94, hg, hlt]
  exact rfl
 simp only [W, seval, c94]
 refine lexC_q (v := ?_) (by rfl) (by kernel_rfl) (fun S hS => ?_) ?_
 rotate_left
 ·simp only [W, seval, c94, hg, hlt]
  exact rfl
 simp only [W, seval, c94]
 refine Same.lexc (hy _) ?_ (by rfl) (by kernel_rfl) ?_ ?_
 ·rfl
 ·simp only [W, seval, c94]
  exact ⟨_, _, _, _, rfl, rfl, rfl, by simp only [W, seval, c94]⟩
 simp only [W, seval, c94]
 refine lexC_q (v := ?_) (by rfl) (by kernel_rfl) (fun S hS => ?_) ?_
 rotate_left
 ·simp only [W, seval, c94, kq]
  exact rfl
 simp only [W, seval, c94]
 refine lexC_q (v := ?_) (by rfl) (by kernel_rfl) (fun S hS => ?_) ?_
 rotate_left
 ·simp only [W, seval, c94, mapD_nil, mapD_cons]
  exact rfl
 simp only [W, seval, c94]
 refine lexC_w (v := ?_) (S' := ?_) ?_ (by rfl) (by kernel_rfl) ?_ ?_
 rotate_left 2
 ·first | trivial | simp [bx_loc, bx_loc0, hsn2, hcap, hsn, ss1, Nat.reduceMul]
 ·simp only [W, seval, c94, hsn2, hcap, hsn, ss1, Nat.reduceMul]
  exact rfl
 simp only [W, seval, c94]
 refine lexC_q (v := ?_) (by rfl) (by kernel_rfl) (fun S hS => ?_) ?_
 rotate_left
 ·simp only [W, seval, c94]
  exact rfl
 simp only [W, seval, c94]
 refine lexC_end rfl ?_
 refine ARun.go 20 ?_
 simp only [W, seval, c94, hwi]
 refine ih (i + 1) (by omega) (by omega) _ _ ?_ rfl
 refine Agree.env _ ?_
 simp only [agw, seval]
 try rfl
set_option maxHeartbeats 4000000 in
theorem expr2_ab {d : Int} {x : ExT} (h : OkE d x) : RE x := by
 induction h with
 | nam d g hd hid =>
  intro hb
  refine RS.of (by simp [exV, wkL, wk]) ?_
  have hty : exT (.mk 1 g 0 noT [] []) = g := rfl
  rw [hty] at hb ⊢
  change AFn _ _ _ [.agg [.d (.int .i64 1), .d (.str g), .d (.int .u64 0), .d (.int .i64 0), .d (.str []), .d (.sl []), .d (.sl []), .d (.sl [])]] _ _
  refine b94.go 160 rfl fun hsm => ?_
  simp only [smw] at hsm
  simp only [W, seval, c94]
  refine ARun.ret Tryz.func94 rfl (Left.empty ?_)
  exact ⟨rfl, rfl⟩
 | num d q hd h0 h1 =>
  intro hb
  refine RS.of (by simp [exV, wkL, wk]) ?_
  have hty : exT (.mk 2 [] q noT [] []) = digF 24 q.toNat := rfl
  rw [hty] at hb ⊢
  change AFn _ _ _ [.agg [.d (.int .i64 2), .d (.str []), .d (.int .u64 q), .d (.int .i64 0), .d (.str []), .d (.sl []), .d (.sl []), .d (.sl [])]] _ _
  refine b94.go 160 rfl fun hsm => ?_
  simp only [smw] at hsm
  simp only [W, seval, c94]
  refine callS_fn (digits_ab q h0 h1 _) ?_
  rintro _ _ ⟨rfl, rfl⟩
  refine ARun.go 20 ?_
  simp only [W, seval, c94]
  refine ARun.ret Tryz.func94 rfl (Left.empty ?_)
  exact ⟨rfl, rfl⟩
 | tru d q hd h0 h1 =>
  intro hb
  refine RS.of (by simp [exV, wkL, wk]) ?_
  have hty : exT (.mk 3 [] q noT [] []) = if q = 1 then [116, 114, 117, 101] else [102, 97, 108, 115, 101] := rfl
  rw [hty]
  change AFn _ _ _ [.agg [.d (.int .i64 3), .d (.str []), .d (.int .u64 q), .d (.int .i64 0), .d (.str []), .d (.sl []), .d (.sl []), .d (.sl [])]] _ _
  by_cases e : q = 1
  ·have e1 := decide_eq_true e
   rw [if_pos e]
   refine b94.go 160 rfl fun hsm => ?_
   simp only [smw] at hsm
   simp only [W, seval, c94, e1]
   refine ARun.ret Tryz.func94 rfl (Left.empty ?_)
   exact ⟨rfl, rfl⟩
  ·have e1 := decide_eq_false e
   rw [if_neg e]
   refine b94.go 160 rfl fun hsm => ?_
   simp only [smw] at hsm
   simp only [W, seval, c94, e1]
   refine ARun.ret Tryz.func94 rfl (Left.empty ?_)
   exact ⟨rfl, rfl⟩
 | sgn d q y hd hq hy ih =>
  intro hb
  refine RS.of (by simp [exV, wkL, wk]) ?_
  rcases hq with rfl | rfl
  ·have hty : exT (.mk 4 [] 0 noT [] [y]) = [33] ++ parT (tigB y) (exT y) := rfl
   rw [hty] at hb ⊢
   unfold RE mostW at ih
   unfold mostW at hb
   simp only [lnw] at hb
   have := par_le (tigB y) (exT y)
   have ht := tight2_ab (ih (by omega)) (by unfold mostW; omega)
   clear this ih
   generalize parT (tigB y) (exT y) = u at ht hb ⊢
   have kk : 1 + u.length ≤ 9223372036854775807 := by omega
   unfold exV at ht
   change AFn _ _ _ [.agg [.d (.int .i64 4), .d (.str []), .d (.int .u64 0), .d (.int .i64 0), .d (.str []), .d (.sl []), .d (.sl []), .d (.sl [exD y])]] _ _
   refine b94.go 160 rfl fun hsm => ?_
   simp only [smw] at hsm
   simp only [W, seval, c94, exD_eq]
   refine callS_fn (ht _) ?_
   rintro _ _ ⟨rfl, rfl⟩
   refine ARun.go 20 ?_
   simp only [W, seval, c94, kk]
   refine ARun.ret Tryz.func94 rfl (Left.empty ?_)
   exact ⟨rfl, rfl⟩
  ·have hty : exT (.mk 5 [] 0 noT [] [y]) = [45] ++ parT (tigB y) (exT y) := rfl
   rw [hty] at hb ⊢
   unfold RE mostW at ih
   unfold mostW at hb
   simp only [lnw] at hb
   have := par_le (tigB y) (exT y)
   have ht := tight2_ab (ih (by omega)) (by unfold mostW; omega)
   clear this ih
   generalize parT (tigB y) (exT y) = u at ht hb ⊢
   have kk : 1 + u.length ≤ 9223372036854775807 := by omega
   unfold exV at ht
   change AFn _ _ _ [.agg [.d (.int .i64 5), .d (.str []), .d (.int .u64 0), .d (.int .i64 0), .d (.str []), .d (.sl []), .d (.sl []), .d (.sl [exD y])]] _ _
   refine b94.go 160 rfl fun hsm => ?_
   simp only [smw] at hsm
   simp only [W, seval, c94, exD_eq]
   refine callS_fn (ht _) ?_
   rintro _ _ ⟨rfl, rfl⟩
   refine ARun.go 20 ?_
   simp only [W, seval, c94, kk]
   refine ARun.ret Tryz.func94 rfl (Left.empty ?_)
   exact ⟨rfl, rfl⟩
 | bin d g y z hd hg hy hz ihy ihz =>
  intro hb
  have hty : exT (.mk 6 g 0 noT [] [y, z]) = parT (lowB y (rankS g)) (exT y) ++ ([32] ++ g ++ [32]) ++ parT (lowB z (rankS g + 1)) (exT z) := rfl
  rw [hty] at hb
  have l1 := par_le (lowB y (rankS g)) (exT y)
  have l2 := par_le (lowB z (rankS g + 1)) (exT z)
  unfold RE mostW at ihy ihz
  have hb' := hb
  unfold mostW at hb'
  simp only [lnw] at hb'
  exact bin2_ab g (ihy (by omega)) (ihz (by omega)) hb
 | cal d g ks hd hg hks ih =>
  intro hb
  refine RS.of (by simp [exV, wkL, wk]) ?_
  have hty : exT (.mk 7 g 0 noT [] ks) = g ++ [40] ++ comT (ks.map exT) ++ [41] := by rw [← exTs_map]; rfl
  rw [hty] at hb ⊢
  unfold mostW at hb
  simp only [lnw] at hb
  have hx := exps2_ab ks ih (by unfold mostW; omega)
  generalize comT (ks.map exT) = u at hx hb ⊢
  have kk : g.length ≤ 9223372036854775806 ∧ g.length + 1 ≤ 9223372036854775807 ∧ g.length + 1 + u.length ≤ 9223372036854775807 ∧ g.length + (u.length + 1) ≤ 9223372036854775806 ∧ g.length + (u.length + 1) + 1 ≤ 9223372036854775807 := by omega
  change AFn _ _ _ [.agg [.d (.int .i64 7), .d (.str g), .d (.int .u64 0), .d (.int .i64 0), .d (.str []), .d (.sl []), .d (.sl []), .d (.sl (ks.map exD))]] _ _
  refine b94.go 160 rfl fun hsm => ?_
  simp only [smw] at hsm
  simp only [W, seval, c94]
  refine ARun.draw (by kernel_rfl) (by kernel_rfl) (lexQ_ok 60 _ _ ?_)
  simp only [W, seval, c94, kk]
  refine ⟨_, hx _, ?_⟩
  simp only [W, seval, c94, kk]
  refine ARun.go 20 ?_
  simp only [W, seval, c94]
  refine ARun.ret Tryz.func94 rfl (Left.empty ?_)
  exact ⟨rfl, rfl⟩
 | con d q y hd h2 h6 hy ih =>
  intro hb
  refine RS.of (by simp [exV, wkL, wk]) ?_
  have hty : exT (.mk 8 [] 0 (.mk q [] []) [] [y]) = typT (.mk q [] []) ++ ([40] ++ exT y ++ [41]) := by simp [exT, exTs, exW, comT, comB]
  rw [hty] at hb ⊢
  unfold mostW at hb
  simp only [lnw] at hb
  have ht := typ2_ab (OkT.bas q (by omega) h6) (by unfold mostW; omega)
  unfold RE mostW at ih
  have hx := ih (by omega)
  clear ih
  generalize typT (.mk q [] []) = v at ht hb ⊢
  unfold RX at hx
  generalize exT y = u at hx hb ⊢
  have kk : v.length ≤ 9223372036854775806 ∧ v.length + 1 ≤ 9223372036854775807 ∧ v.length + 1 + u.length ≤ 9223372036854775807 ∧ v.length + (u.length + 1) ≤ 9223372036854775806 ∧ v.length + (u.length + 1) + 1 ≤ 9223372036854775807 := by omega
  unfold exV at hx
  change RS _ [.agg [.d (.int .i64 q), .d (.str []), .d (.sl [])]] _ at ht
  rw [show v ++ ([40] ++ u ++ [41]) = v ++ [40] ++ u ++ [41] by simp]
  change AFn _ _ _ [.agg [.d (.int .i64 8), .d (.str []), .d (.int .u64 0), .d (.int .i64 q), .d (.str []), .d (.sl []), .d (.sl []), .d (.sl [exD y])]] _ _
  refine b94.go 160 rfl fun hsm => ?_
  simp only [smw] at hsm
  simp only [W, seval, c94]
  refine ARun.draw (by kernel_rfl) (by kernel_rfl) (lexQ_ok 60 _ _ ?_)
  simp only [W, seval, c94, exD_eq]
  refine ⟨_, ht _, ?_⟩
  simp only [W, seval, c94, kk, exD_eq]
  refine ⟨_, hx _, ?_⟩
  simp only [W, seval, c94, kk]
  refine ARun.go 20 ?_
  simp only [W, seval, c94]
  refine ARun.ret Tryz.func94 rfl (Left.empty ?_)
  exact ⟨rfl, rfl⟩
 | fld d g y hd hg hy ih =>
  intro hb
  refine RS.of (by simp [exV, wkL, wk]) ?_
  have hty : exT (.mk 9 g 0 noT [] [y]) = parT (tigB y) (exT y) ++ ([46] ++ g) := rfl
  rw [hty] at hb ⊢
  unfold mostW at hb
  simp only [lnw] at hb
  have := par_le (tigB y) (exT y)
  unfold RE mostW at ih
  have ht := tight2_ab (ih (by omega)) (by unfold mostW; omega)
  clear this ih
  generalize parT (tigB y) (exT y) = u at ht hb ⊢
  have kk : u.length ≤ 9223372036854775806 ∧ u.length + 1 ≤ 9223372036854775807 ∧ u.length + 1 + g.length ≤ 9223372036854775807 := by omega
  unfold exV at ht
  rw [← List.append_assoc]
  change AFn _ _ _ [.agg [.d (.int .i64 9), .d (.str g), .d (.int .u64 0), .d (.int .i64 0), .d (.str []), .d (.sl []), .d (.sl []), .d (.sl [exD y])]] _ _
  refine b94.go 160 rfl fun hsm => ?_
  simp only [smw] at hsm
  simp only [W, seval, c94]
  refine ARun.draw (by kernel_rfl) (by kernel_rfl) (lexQ_ok 60 _ _ ?_)
  simp only [W, seval, c94, exD_eq]
  refine ⟨_, ht _, ?_⟩
  simp only [W, seval, c94, kk]
  refine ARun.go 20 ?_
  simp only [W, seval, c94]
  refine ARun.ret Tryz.func94 rfl (Left.empty ?_)
  exact ⟨rfl, rfl⟩
 | idx d y z hd hy hz ihy ihz =>
  intro hb
  refine RS.of (by simp [exV, wkL, wk]) ?_
  have hty : exT (.mk 10 [] 0 noT [] [y, z]) = parT (tigB y) (exT y) ++ [91] ++ exT z ++ [93] := rfl
  rw [hty] at hb ⊢
  unfold mostW at hb
  simp only [lnw] at hb
  have := par_le (tigB y) (exT y)
  unfold RE mostW at ihy ihz
  have ht := tight2_ab (ihy (by omega)) (by unfold mostW; omega)
  have hz := ihz (by omega)
  clear this ihy ihz
  unfold RX at hz
  generalize parT (tigB y) (exT y) = u at ht hb ⊢
  generalize exT z = v at hz hb ⊢
  have kk : u.length ≤ 9223372036854775806 ∧ u.length + 1 ≤ 9223372036854775807 ∧ u.length + 1 + v.length ≤ 9223372036854775807 ∧ u.length + (v.length + 1) ≤ 9223372036854775806 ∧ u.length + (v.length + 1) + 1 ≤ 9223372036854775807 := by omega
  unfold exV at ht hz
  change AFn _ _ _ [.agg [.d (.int .i64 10), .d (.str []), .d (.int .u64 0), .d (.int .i64 0), .d (.str []), .d (.sl []), .d (.sl []), .d (.sl [exD y, exD z])]] _ _
  refine b94.go 160 rfl fun hsm => ?_
  simp only [smw] at hsm
  simp only [W, seval, c94]
  refine ARun.draw (by kernel_rfl) (by kernel_rfl) (lexQ_ok 60 _ _ ?_)
  simp only [W, seval, c94, exD_eq]
  refine ⟨_, ht _, ?_⟩
  simp only [W, seval, c94, kk, exD_eq]
  refine ⟨_, hz _, ?_⟩
  simp only [W, seval, c94, kk]
  refine ARun.go 20 ?_
  simp only [W, seval, c94]
  refine ARun.ret Tryz.func94 rfl (Left.empty ?_)
  exact ⟨rfl, rfl⟩
 | cut d y z t hd hy hz ht ihy ihz iht =>
  intro hb
  refine RS.of (by simp [exV, wkL, wk]) ?_
  have hty : exT (.mk 11 [] 0 noT [] [y, z, t]) = parT (tigB y) (exT y) ++ [91] ++ exT z ++ [58] ++ exT t ++ [93] := rfl
  rw [hty] at hb ⊢
  unfold mostW at hb
  simp only [lnw] at hb
  have := par_le (tigB y) (exT y)
  unfold RE mostW at ihy ihz iht
  have hy := tight2_ab (ihy (by omega)) (by unfold mostW; omega)
  have hz := ihz (by omega)
  have ht := iht (by omega)
  clear this ihy ihz iht
  unfold RX at hz ht
  generalize parT (tigB y) (exT y) = u at hy hb ⊢
  generalize exT z = v at hz hb ⊢
  generalize exT t = s at ht hb ⊢
  have kk : u.length ≤ 9223372036854775806 ∧ u.length + 1 ≤ 9223372036854775807 ∧ u.length + 1 + v.length ≤ 9223372036854775807 ∧ u.length + (v.length + 1) ≤ 9223372036854775806 ∧ u.length + (v.length + 1) + 1 ≤ 9223372036854775807 ∧ u.length + (v.length + 1 + 1) + s.length ≤ 9223372036854775807 ∧ u.length + (v.length + 2) + s.length ≤ 9223372036854775807 ∧ u.length + (v.length + (s.length + 1) + 1) ≤ 9223372036854775806 ∧ u.length + (v.length + (s.length + 1) + 1) + 1 ≤ 9223372036854775807 := by omega
  unfold exV at hy ht hz
  change AFn _ _ _ [.agg [.d (.int .i64 11), .d (.str []), .d (.int .u64 0), .d (.int .i64 0), .d (.str []), .d (.sl []), .d (.sl []), .d (.sl [exD y, exD z, exD t])]] _ _
  refine b94.go 160 rfl fun hsm => ?_
  simp only [smw] at hsm
  simp only [W, seval, c94]
  refine ARun.draw (by kernel_rfl) (by kernel_rfl) (lexQ_ok 60 _ _ ?_)
  simp only [W, seval, c94, exD_eq]
  refine ⟨_, hy _, ?_⟩
  simp only [W, seval, c94, kk, exD_eq]
  refine ⟨_, hz _, ?_⟩
  simp only [W, seval, c94, kk, exD_eq]
  refine ⟨_, ht _, ?_⟩
  simp only [W, seval, c94, kk]
  refine ARun.go 20 ?_
  simp only [W, seval, c94]
  refine ARun.ret Tryz.func94 rfl (Left.empty ?_)
  exact ⟨rfl, rfl⟩
 | len d y hd hy ih =>
  intro hb
  refine RS.of (by simp [exV, wkL, wk]) ?_
  have hty : exT (.mk 12 [] 0 noT [] [y]) = [108, 101, 110, 40] ++ exT y ++ [41] := by simp [exT, exTs, exW, comT, comB]
  rw [hty] at hb ⊢
  unfold mostW at hb
  simp only [lnw] at hb
  unfold RE mostW at ih
  have hx := ih (by omega)
  clear ih
  unfold RX at hx
  generalize exT y = u at hx hb ⊢
  have kk : 4 + u.length ≤ 9223372036854775807 ∧ u.length ≤ 9223372036854775802 ∧ u.length + 4 + 1 ≤ 9223372036854775807 := by omega
  unfold exV at hx
  change AFn _ _ _ [.agg [.d (.int .i64 12), .d (.str []), .d (.int .u64 0), .d (.int .i64 0), .d (.str []), .d (.sl []), .d (.sl []), .d (.sl [exD y])]] _ _
  refine b94.go 160 rfl fun hsm => ?_
  simp only [smw] at hsm
  simp only [W, seval, c94, exD_eq]
  refine callS_fn (hx _) ?_
  rintro _ _ ⟨rfl, rfl⟩
  refine ARun.go 20 ?_
  simp only [W, seval, c94, kk]
  refine ARun.ret Tryz.func94 rfl (Left.empty ?_)
  exact ⟨rfl, rfl⟩
 | app d y z hd hy hz ihy ihz =>
  intro hb
  refine RS.of (by simp [exV, wkL, wk]) ?_
  have hty : exT (.mk 13 [] 0 noT [] [y, z]) = [97, 112, 112, 101, 110, 100, 40] ++ comT ([y, z].map exT) ++ [41] := rfl
  rw [hty] at hb ⊢
  unfold mostW at hb
  simp only [lnw] at hb
  have hx := exps2_ab [y, z] (fun x hx => by simp only [List.mem_cons, List.not_mem_nil, or_false] at hx; rcases hx with rfl | rfl <;> assumption) (by unfold mostW; omega)
  generalize comT ([y, z].map exT) = u at hx hb ⊢
  have kk : 7 + u.length ≤ 9223372036854775807 ∧ u.length ≤ 9223372036854775799 ∧ u.length + 7 + 1 ≤ 9223372036854775807 := by omega
  change RS _ [.d (.sl [exD y, exD z])] _ at hx
  change AFn _ _ _ [.agg [.d (.int .i64 13), .d (.str []), .d (.int .u64 0), .d (.int .i64 0), .d (.str []), .d (.sl []), .d (.sl []), .d (.sl [exD y, exD z])]] _ _
  refine b94.go 160 rfl fun hsm => ?_
  simp only [smw] at hsm
  simp only [W, seval, c94]
  refine callS_fn (hx _) ?_
  rintro _ _ ⟨rfl, rfl⟩
  refine ARun.go 20 ?_
  simp only [W, seval, c94, kk]
  refine ARun.ret Tryz.func94 rfl (Left.empty ?_)
  exact ⟨rfl, rfl⟩
 | str d n ns ks hd hn hlen hns hks ih =>
  exact fun hb => str2_ab hlen ih hb
 | lis d t ks hd ht hks ih =>
  intro hb
  refine RS.of (by simp [exV, wkL, wk]) ?_
  have hty : exT (.mk 15 [] 0 (.mk 8 [] [t]) [] ks) = typT (.mk 8 [] [t]) ++ ([123] ++ comT (ks.map exT) ++ [125]) := by rw [← exTs_map]; rfl
  rw [hty] at hb ⊢
  unfold mostW at hb
  simp only [lnw] at hb
  have ht := typ2_ab (OkT.sli t ht) (by unfold mostW; omega)
  have hx := exps2_ab ks ih (by unfold mostW; omega)
  clear ih
  generalize typT (.mk 8 [] [t]) = v at ht hb ⊢
  generalize comT (ks.map exT) = u at hx hb ⊢
  have kk : v.length ≤ 9223372036854775806 ∧ v.length + 1 ≤ 9223372036854775807 ∧ v.length + 1 + u.length ≤ 9223372036854775807 ∧ v.length + (u.length + 1) ≤ 9223372036854775806 ∧ v.length + (u.length + 1) + 1 ≤ 9223372036854775807 := by omega
  change RS _ [.agg [.d (.int .i64 8), .d (.str []), .d (.sl [tyD t])]] _ at ht
  rw [show v ++ ([123] ++ u ++ [125]) = v ++ [123] ++ u ++ [125] by simp]
  change AFn _ _ _ [.agg [.d (.int .i64 15), .d (.str []), .d (.int .u64 0), .d (.int .i64 8), .d (.str []), .d (.sl [tyD t]), .d (.sl []), .d (.sl (ks.map exD))]] _ _
  refine b94.go 160 rfl fun hsm => ?_
  simp only [smw] at hsm
  simp only [W, seval, c94]
  refine ARun.draw (by kernel_rfl) (by kernel_rfl) (lexQ_ok 60 _ _ ?_)
  simp only [W, seval, c94]
  refine ⟨_, ht _, ?_⟩
  simp only [W, seval, c94, kk]
  refine ⟨_, hx _, ?_⟩
  simp only [W, seval, c94, kk]
  refine ARun.go 20 ?_
  simp only [W, seval, c94]
  refine ARun.ret Tryz.func94 rfl (Left.empty ?_)
  exact ⟨rfl, rfl⟩
end Go.Proofs.YtfaoamebphckbaaGreatDoor
namespace Go.Proofs.YtfaoamebphckbaaGreatDoor
open Go.RowKit Go.Av
set_option linter.unusedSimpArgs false
set_option linter.unusedVariables false
def Lx (s : List UInt8) (t : List Wd) : Prop := ∀ (f : Nat) (r : List UInt8), stopB r = true → wordsT (f + t.length) (s ++ r) = t ++ wordsT f r
def LxA (s : List UInt8) (t : List Wd) : Prop := ∀ (f : Nat) (r : List UInt8), wordsT (f + t.length) (s ++ r) = t ++ wordsT f r
theorem LxA.app {s1 s2 : List UInt8} {t1 t2 : List Wd} (h1 : LxA s1 t1) (h2 : LxA s2 t2) : LxA (s1 ++ s2) (t1 ++ t2) := fun f r => by
 rw [List.append_assoc, List.length_append, Nat.add_comm t1.length, ← Nat.add_assoc, h1, h2, List.append_assoc]
theorem LxA.then {s1 s2 : List UInt8} {t1 t2 : List Wd} (h1 : LxA s1 t1) (h2 : Lx s2 t2) : Lx (s1 ++ s2) (t1 ++ t2) := fun f r hr => by
 rw [List.append_assoc, List.length_append, Nat.add_comm t1.length, ← Nat.add_assoc, h1, h2 f r hr, List.append_assoc]
theorem Lx.then {s1 s2 : List UInt8} {t1 t2 : List Wd} (h1 : Lx s1 t1) (hs : ∀ r, stopB r = true → stopB (s2 ++ r) = true) (h2 : Lx s2 t2) : Lx (s1 ++ s2) (t1 ++ t2) := fun f r hr => by
 rw [List.append_assoc, List.length_append, Nat.add_comm t1.length, ← Nat.add_assoc, h1 _ _ (hs r hr), h2 f r hr, List.append_assoc]
theorem Lx.shut {s1 s2 : List UInt8} {t1 t2 : List Wd} (h1 : Lx s1 t1) (hs : ∀ r, stopB (s2 ++ r) = true) (h2 : LxA s2 t2) : LxA (s1 ++ s2) (t1 ++ t2) := fun f r => by
 rw [List.append_assoc, List.length_append, Nat.add_comm t1.length, ← Nat.add_assoc, h1 _ _ (hs r), h2 f r, List.append_assoc]
def bndP {α β : Type} (p : α × Ps) (f : α → Ps → β × Ps) : β × Ps := f p.1 p.2
theorem Dn.zero {a b : Ps} (h : Dn a b) (hb : b.e = 0) : a.e = 0 := by
 by_cases ha : a.e = 0
 ·exact ha
 ·rw [h.e ha] at hb; exact hb
theorem Dn.bad {a b : Ps} (h : Dn a b) (ha : a.e = 51) : b.e = 51 := by
 rw [h.e (by omega), ha]
structure Sim (c : Wd) (tl : List Wd) (s t : Ps) : Prop where
 se : s.e = 0
 te : t.e = 0
 h : t.h = s.h
 ws : ∃ init : List Wd, s.ws.map strip = init ++ [(0, [], 0)] ∧ t.ws.map strip = init ++ c :: tl ∧ ∀ x ∈ init, x.1 ≠ 0 ∧ x.1 ≠ 9
section
variable {c : Wd} {tl : List Wd} {s t : Ps}
def Res (c : Wd) (tl : List Wd) {α : Type} (p q : α × Ps) : Prop := p.2.e = 0 → (q.1 = p.1 ∧ Sim c tl p.2 q.2) ∨ q.2.e = 51
theorem Res.pure {α : Type} {s t : Ps} (h : Sim c tl s t) (x : α) : Res c tl (x, s) (x, t) := fun _ => .inl ⟨rfl, h⟩
theorem Res.dead {α : Type} {p q : α × Ps} (h : ¬ p.2.e = 0) : Res c tl p q := fun h0 => absurd h0 h
theorem Res.bndP {α β : Type} {p q : α × Ps} {f g : α → Ps → β × Ps} (h : Res c tl p q) (hf : ∀ x s, Dn s (f x s).2) (hg : ∀ x s, Dn s (g x s).2) (hk : Sim c tl p.2 q.2 → Res c tl (f p.1 p.2) (g p.1 q.2)) : Res c tl (bndP p f) (bndP q g) := by
 intro h0
 rcases h ((hf p.1 p.2).zero h0) with ⟨e, hs⟩ | h51
 ·have := hk hs h0
  unfold Proofs.YtfaoamebphckbaaGreatDoor.bndP
  rw [e]
  exact this
 ·exact .inr ((hg q.1 q.2).bad h51)
theorem next_step {w : WordS} {r : List WordS} {o : Int} {h : Bool} (hr : ¬ (r.headD .zero).kind = 9) : nextP ⟨w :: r, 0, o, h⟩ = ⟨r, 0, o, h⟩ := by
 unfold nextP
 rw [if_pos rfl]
 exact if_neg hr
theorem Sim.split (hs : Sim c tl s t) (hc : c.1 ≠ 9) : (s.w.kind = 0 ∧ strip t.w = c) ∨ (s.w.kind ≠ 0 ∧ strip t.w = strip s.w ∧ ∀ o o' : Int, Sim c tl (nextP ⟨s.ws, 0, o, s.h⟩) (nextP ⟨t.ws, 0, o', t.h⟩)) := by
 obtain ⟨se, te, hh, init, h1, h2, h3⟩ := hs
 cases init with
 | nil =>
  obtain ⟨w, r, e1, e2, e3⟩ := List.map_eq_cons_iff.1 h1
  obtain ⟨w', r', f1, f2, f3⟩ := List.map_eq_cons_iff.1 h2
  refine .inl ⟨?_, ?_⟩
  ·unfold Ps.w
   rw [e1]
   exact congrArg Prod.fst e2
  ·unfold Ps.w
   rw [f1]
   exact f2
 | cons x init =>
  obtain ⟨w, r, e1, e2, e3⟩ := List.map_eq_cons_iff.1 h1
  obtain ⟨w', r', f1, f2, f3⟩ := List.map_eq_cons_iff.1 h2
  have hx := h3 x List.mem_cons_self
  refine .inr ⟨?_, ?_, fun o o' => ?_⟩
  ·unfold Ps.w
   rw [e1]
   intro h0
   exact hx.1 (by rw [← e2]; exact h0)
  ·unfold Ps.w
   rw [e1, f1]
   exact f2.trans e2.symm
  ·have hr : ¬ (r.headD .zero).kind = 9 := by
    cases init with
    | nil =>
     obtain ⟨y, r2, g1, g2, _⟩ := List.map_eq_cons_iff.1 e3
     rw [g1]
     intro h9
     have : (strip y).1 = 9 := h9
     rw [g2] at this
     exact absurd this (by decide)
    | cons y l =>
     obtain ⟨y', r2, g1, g2, _⟩ := List.map_eq_cons_iff.1 e3
     rw [g1]
     intro h9
     have : (strip y').1 = 9 := h9
     rw [g2] at this
     exact (h3 y (by simp)).2 this
   have hr' : ¬ (r'.headD .zero).kind = 9 := by
    cases init with
    | nil =>
     obtain ⟨y, r2, g1, g2, _⟩ := List.map_eq_cons_iff.1 f3
     rw [g1]
     intro h9
     have : (strip y).1 = 9 := h9
     rw [g2] at this
     exact hc this
    | cons y l =>
     obtain ⟨y', r2, g1, g2, _⟩ := List.map_eq_cons_iff.1 f3
     rw [g1]
     intro h9
     have : (strip y').1 = 9 := h9
     rw [g2] at this
     exact (h3 y (by simp)).2 this
   rw [e1, f1, next_step hr, next_step hr']
   exact ⟨rfl, rfl, hh, init, e3, f3, fun y hy => h3 y (List.mem_cons_of_mem _ hy)⟩
theorem Sim.at (hs : Sim c tl s t) (hc : c.1 ≠ 9) (hk : s.w.kind ≠ 0) : t.w.kind = s.w.kind ∧ t.w.text = s.w.text ∧ t.w.int = s.w.int := by
 rcases hs.split hc with ⟨h, _⟩ | ⟨_, h, _⟩
 ·exact absurd h hk
 ·have h1 := congrArg Prod.fst h
  have h2 := congrArg (fun x : Wd => x.2.1) h
  have h3 := congrArg (fun x : Wd => x.2.2) h
  exact ⟨h1, h2, h3⟩
theorem Sim.next (hs : Sim c tl s t) (hc : c.1 ≠ 9) (hk : s.w.kind ≠ 0) : Sim c tl (nextP s) (nextP t) := by
 rcases hs.split hc with ⟨h, _⟩ | ⟨_, _, h⟩
 ·exact absurd h hk
 ·have := h s.o t.o
  obtain ⟨a, e, o, b⟩ := s
  obtain ⟨a', e', o', b'⟩ := t
  obtain rfl : e = 0 := hs.se
  obtain rfl : e' = 0 := hs.te
  exact this
theorem Sim.is (hs : Sim c tl s t) (hc : c.1 ≠ 9) (hk : s.w.kind ≠ 0) (T : List UInt8) : isP t T = isP s T := by
 obtain ⟨h1, h2, _⟩ := hs.at hc hk
 unfold isP
 rw [h1, h2, hs.se, hs.te]
theorem bump_ways {s : Ps} (he : s.e = 0) (T : List UInt8) : (∃ o, bumpP s T = ⟨s.ws, 0, o, s.h⟩) ∨ (bumpP s T).e = 51 := by
 obtain ⟨a, e, o, b⟩ := s
 obtain rfl : e = 0 := he
 unfold bumpP failP
 split
 ·split
  ·exact .inr rfl
  ·exact .inl ⟨_, rfl⟩
 ·split
  ·exact .inl ⟨_, rfl⟩
  ·exact .inl ⟨_, rfl⟩
theorem next_off {s : Ps} (h : ¬ s.e = 0) : nextP s = s := if_neg h
theorem want_eq (s : Ps) (T : List UInt8) : wantP s T = if isP s T = true then nextP (bumpP s T) else failP s 51 := by
 unfold wantP gotP
 cases isP s T <;> rfl
end
structure Cl (c : Wd) : Prop where
 k : c.1 ≠ 9
 t : c.2.1 = [41] ∨ c.2.1 = [125] ∨ c.2.1 = []
theorem Cl.ne {c : Wd} (h : Cl c) {T : List UInt8} (hT : T ≠ [41] ∧ T ≠ [125] ∧ T ≠ []) : T ≠ c.2.1 := by
 rcases h.t with e | e | e <;> rw [e]
 ·exact hT.1
 ·exact hT.2.1
 ·exact hT.2.2
section
variable {c : Wd} {tl : List Wd} {s t : Ps}
theorem Res.no {α β : Type} {p : α × Ps} {f : α → Ps → β × Ps} {q : β × Ps} (h : ¬ p.2.e = 0) (hf : ∀ x s, Dn s (f x s).2) : Res c tl (Proofs.YtfaoamebphckbaaGreatDoor.bndP p f) q := Res.dead fun h0 => h ((hf p.1 p.2).zero h0)
variable {n : Nat} {E : EP}
end
def Nine (s : Ps) : Prop := ∃ init : List Wd, s.ws.map strip = init ++ [(9, [], 0)] ∧ ∀ x ∈ init, x.1 ≠ 0 ∧ x.1 ≠ 9
def Nn {α : Type} (p : α × Ps) : Prop := p.2.e = 0 → Nine p.2
theorem Nn.pure {α : Type} {s : Ps} (h : Nine s) (x : α) : Nn (x, s) := fun _ => h
theorem Nn.bndP {α β : Type} {p : α × Ps} {f : α → Ps → β × Ps} (h : Nn p) (hf : ∀ x s, Dn s (f x s).2) (hk : ∀ x s, Nine s → Nn (f x s)) : Nn (bndP p f) := fun h0 => hk _ _ (h ((hf _ _).zero h0)) h0
variable {E : EP}
structure At (s : Ps) (l : List Wd) : Prop where
 e : s.e = 0
 ws : s.ws.map strip = l
theorem At.w {s : Ps} {x : Wd} {l : List Wd} (h : At s (x :: l)) : strip s.w = x := by
 obtain ⟨w, r, e1, e2, _⟩ := List.map_eq_cons_iff.1 h.ws
 unfold Ps.w
 rw [e1]
 exact e2
theorem At.kind {s : Ps} {x : Wd} {l : List Wd} (h : At s (x :: l)) : s.w.kind = x.1 ∧ s.w.text = x.2.1 := ⟨congrArg Prod.fst h.w, congrArg (fun x : Wd => x.2.1) h.w⟩
theorem At.next {s : Ps} {x y : Wd} {l : List Wd} (h : At s (x :: y :: l)) (hy : y.1 ≠ 9) : At (nextP s) (y :: l) := by
 obtain ⟨w, r, e1, e2, e3⟩ := List.map_eq_cons_iff.1 h.ws
 obtain ⟨w2, r2, g1, g2, g3⟩ := List.map_eq_cons_iff.1 e3
 obtain ⟨a, e, o, b⟩ := s
 obtain rfl : e = 0 := h.e
 obtain rfl : a = w :: r := e1
 rw [next_step (by rw [g1]; intro h9; exact hy (by rw [← g2]; exact h9))]
 exact ⟨rfl, e3⟩
theorem At.take {s : Ps} {x y : Wd} {l : List Wd} (h : At s (x :: y :: l)) (hy : y.1 ≠ 9) (T : List UInt8) : At (nextP (bumpP s T)) (y :: l) ∨ (nextP (bumpP s T)).e = 51 := by
 rcases bump_ways h.e T with ⟨o, h1⟩ | h1
 ·rw [h1]
  exact .inl (At.next (s := ⟨s.ws, 0, o, s.h⟩) ⟨rfl, h.ws⟩ hy)
 ·exact .inr (by rw [next_off (by omega)]; exact h1)
theorem At.is {s : Ps} {x : Wd} {l : List Wd} (h : At s (x :: l)) (T : List UInt8) : isP s T = ((decide (x.1 = 3) || decide (x.1 = 4)) && decide (x.2.1 = T)) := by
 unfold isP
 rw [h.e, h.kind.1, h.kind.2]
 simp
theorem next_h (s : Ps) : (nextP s).h = s.h := by
 unfold nextP
 split
 ·split <;> rfl
 ·rfl
theorem Cl.rank {c : Wd} (hc : Cl c) : rankS c.2.1 = 0 := by
 rcases hc.t with e | e | e <;> rw [e] <;> decide
def bumpN (T : List UInt8) (o : Int) : Option Int := if opnB T = true then (if 100 < IntKind.i64.wrap (o + 1) then none else some (IntKind.i64.wrap (o + 1))) else if clsB T = true then some (IntKind.i64.wrap (o - 1)) else some o
theorem bump_N {s : Ps} (he : s.e = 0) {T : List UInt8} {o : Int} (ho : bumpN T s.o = some o) : bumpP s T = ⟨s.ws, 0, o, s.h⟩ := by
 obtain ⟨a, e, q, b⟩ := s
 obtain rfl : e = 0 := he
 unfold bumpN at ho
 unfold bumpP
 split
 ·rename_i h
  rw [if_pos h] at ho
  split
  ·rename_i h2
   rw [if_pos h2] at ho
   cases ho
  ·rename_i h2
   rw [if_neg h2] at ho
   cases ho
   rfl
 ·rename_i h
  rw [if_neg h] at ho
  split
  ·rename_i h2
   rw [if_pos h2] at ho
   cases ho
   rfl
  ·rename_i h2
   rw [if_neg h2] at ho
   cases ho
   rfl
structure AtO (s : Ps) (l : List Wd) (o : Int) : Prop where
 at' : At s l
 h : s.h = false
 o : s.o = o
section
variable {s : Ps} {x y : Wd} {l : List Wd} {o : Int}
theorem AtO.next (h : AtO s (x :: y :: l) o) (hy : y.1 ≠ 9) : AtO (nextP s) (y :: l) o := by
 refine ⟨h.at'.next hy, by rw [next_h, h.h], ?_⟩
 rw [← h.o]
 unfold nextP
 split
 ·split <;> rfl
 ·rfl
theorem AtO.yes (h : AtO s (x :: y :: l) o) (hy : y.1 ≠ 9) {T : List UInt8} (hT : ((decide (x.1 = 3) || decide (x.1 = 4)) && decide (x.2.1 = T)) = true) {o' : Int} (ho : bumpN T o = some o') : ∃ s', gotP s T = (true, s') ∧ wantP s T = s' ∧ AtO s' (y :: l) o' := by
 have hi : isP s T = true := by rw [h.at'.is]; exact hT
 have hb := bump_N h.at'.e (T := T) (by rw [h.o]; exact ho)
 refine ⟨nextP (bumpP s T), ?_, ?_, ?_⟩
 ·unfold gotP
  rw [if_pos hi]
 ·rw [want_eq, if_pos hi]
 ·rw [hb]
  exact AtO.next (s := ⟨s.ws, 0, o', s.h⟩) ⟨⟨rfl, h.at'.ws⟩, h.h, rfl⟩ hy
theorem AtO.no (h : AtO s (x :: l) o) {T : List UInt8} (hT : ((decide (x.1 = 3) || decide (x.1 = 4)) && decide (x.2.1 = T)) = false) : gotP s T = (false, s) := by
 unfold gotP
 rw [h.at'.is, hT]
 rfl
theorem AtO.name {t : List UInt8} {i : Nat} (h : AtO s ((1, t, i) :: y :: l) o) (hy : y.1 ≠ 9) : ∃ s', nameP s = (t, s') ∧ AtO s' (y :: l) o := by
 refine ⟨nextP s, ?_, h.next hy⟩
 unfold nameP
 rw [if_pos ⟨h.at'.e, h.at'.kind.1⟩, h.at'.kind.2]
end
def isW (c : Wd) (T : List UInt8) : Bool := (decide (c.1 = 3) || decide (c.1 = 4)) && decide (c.2.1 = T)
structure Bf (s : Ps) (l : List Wd) (o : Int) (h : Bool) : Prop where
 at' : At s l
 o : s.o = o
 h : s.h = h
section
variable {s : Ps} {x y : Wd} {l : List Wd} {o : Int} {h : Bool}
theorem Bf.mu (b : Bf s l o h) : mu s = l.length := by
 rw [mu_live b.at'.e, ← b.at'.ws, List.length_map]
theorem Bf.next (b : Bf s (x :: y :: l) o h) (hy : y.1 ≠ 9) : Bf (nextP s) (y :: l) o h := by
 refine ⟨b.at'.next hy, ?_, by rw [next_h, b.h]⟩
 rw [← b.o]
 unfold nextP
 split
 ·split <;> rfl
 ·rfl
theorem Bf.is (b : Bf s (x :: l) o h) (T : List UInt8) : isP s T = isW x T := b.at'.is T
theorem Bf.yes (b : Bf s (x :: y :: l) o h) (hy : y.1 ≠ 9) {T : List UInt8} (hT : isW x T = true) {o' : Int} (ho : bumpN T o = some o') : ∃ s', gotP s T = (true, s') ∧ wantP s T = s' ∧ Bf s' (y :: l) o' h := by
 have hi : isP s T = true := by rw [b.is]; exact hT
 have hb := bump_N b.at'.e (T := T) (by rw [b.o]; exact ho)
 refine ⟨nextP (bumpP s T), ?_, ?_, ?_⟩
 ·unfold gotP
  rw [if_pos hi]
 ·rw [want_eq, if_pos hi]
 ·rw [hb]
  exact Bf.next (s := ⟨s.ws, 0, o', s.h⟩) ⟨⟨rfl, b.at'.ws⟩, rfl, b.h⟩ hy
theorem Bf.no (b : Bf s (x :: l) o h) {T : List UInt8} (hT : isW x T = false) : gotP s T = (false, s) := by
 unfold gotP
 rw [b.is, hT]
 rfl
theorem Bf.name {t : List UInt8} {i : Nat} (b : Bf s ((1, t, i) :: y :: l) o h) (hy : y.1 ≠ 9) : ∃ s', nameP s = (t, s') ∧ Bf s' (y :: l) o h := by
 refine ⟨nextP s, ?_, b.next hy⟩
 unfold nameP
 rw [if_pos ⟨b.at'.e, b.at'.kind.1⟩, b.at'.kind.2]
end
structure Fol (k : Nat) (h : Bool) (c : Wd) : Prop where
 n9 : c.1 ≠ 9
 dot : isW c [46] = false
 bra : isW c [91] = false
 par : isW c [40] = false
 cur : h = false → isW c [123] = false
 rk : c.1 = 3 → rankS c.2.1 < 6 - (k : Int)
theorem Fol.to {k j : Nat} {h : Bool} {c : Wd} (f : Fol k h c) (hj : j ≤ k) : Fol j h c := ⟨f.n9, f.dot, f.bra, f.par, f.cur, fun h3 => by have := f.rk h3; omega⟩
section
variable {E : EP} {n : Nat}
end
def keyW (x : Wd) : Bool := isW x [116, 114, 117, 101] || isW x [102, 97, 108, 115, 101] || isW x [108, 101, 110] || isW x [97, 112, 112, 101, 110, 100] || (decide (x.1 = 4) && decide (1 < kindS x.2.1))
section
variable {s : Ps} {x : Wd} {l tl : List Wd} {o : Int} {h : Bool} {E : EP} {n : Nat} {c : Wd}
theorem Bf.key (b : Bf s (x :: l) o h) : keyB s = keyW x := by
 unfold keyB keyW
 rw [b.is, b.is, b.is, b.is, b.at'.kind.1, b.at'.kind.2]
end
inductive OkS : Int → StT → Prop
 | var (d : Int) (n : List UInt8) (t : TyT) : d ≤ 60 → identS n = true → OkT t → OkS d (.mk 1 [n] t [] [] [] [] [])
 | set (d : Int) (ls es : List ExT) : d ≤ 60 → ls ≠ [] → es ≠ [] → (∀ x ∈ ls, placeS x = true) → (∀ x ∈ ls, OkE (d + 1) x) → (∀ x ∈ es, OkE (d + 1) x) → OkS d (.mk 2 [] noT ls es [] [] [])
 | iff (d : Int) (x : ExT) (b e : List StT) : d ≤ 60 → OkE (d + 1) x → headS x = true → (∀ y ∈ b, OkS (d + 1) y) → (∀ y ∈ e, OkS (d + 1) y) → OkS d (.mk 3 [] noT [] [x] b e [])
 | fro (d : Int) (x : ExT) (b : List StT) : d ≤ 60 → OkE (d + 1) x → headS x = true → (∀ y ∈ b, OkS (d + 1) y) → OkS d (.mk 4 [] noT [] [x] b [] [])
 | swi (d : Int) (x : ExT) (e : List StT) (cs : List CaT) : d ≤ 60 → OkE (d + 1) x → headS x = true → (∀ y ∈ e, OkS (d + 1) y) → (∀ c ∈ cs, 0 ≤ c.int ∧ c.int ≤ 18446744073709551615) → (∀ c ∈ cs, ∀ y ∈ c.body, OkS (d + 2) y) → OkS d (.mk 5 [] noT [] [x] [] e cs)
 | ret (d : Int) (es : List ExT) : d ≤ 60 → es ≠ [] → (∀ x ∈ es, OkE (d + 1) x) → OkS d (.mk 6 [] noT [] es [] [] [])
section
variable {E : EP} {n : Nat}
end
end Go.Proofs.YtfaoamebphckbaaGreatDoor
namespace Go.Proofs.YtfaoamebphckbaaGreatDoor
open Go.RowKit Go.Av Go.Ab
set_option linter.unusedSimpArgs false
set_option linter.unusedVariables false
set_option maxRecDepth 100000
set_option linter.defProp false
def c20 := by
 have c := KK_of Tryz.f20 (by conv => lhs; cbv)
 dsimp only [KK, KxP, doO, opO, List.map_cons, List.map_nil, List.toList_toArray] at c
 exact c
theorem b20 : FnIs Tryz.prog 20 Tryz.f20 22 := ⟨Tryz.func20, by kernel_rfl⟩
def c56 := by
 have c := KK_of Tryz.f56 (by conv => lhs; cbv)
 dsimp only [KK, KxP, doO, opO, List.map_cons, List.map_nil, List.toList_toArray] at c
 exact c
theorem b56 : FnIs Tryz.prog 56 Tryz.f56 153 := ⟨Tryz.func56, by kernel_rfl⟩
def RT (n : Nat) (s : StT) : Prop := (stT n s).length ≤ mostW → RS 56 [stV s, .d (.str (tabT n))] (stT n s)
theorem tab_up (n : Nat) : tabT n ++ [9] = tabT (n + 1) := by unfold tabT; rw [List.replicate_succ']
theorem sts_drop (n : Nat) (l : List StT) (i : Nat) (h : i < l.length) : stTs n (l.drop i) = stT n l[i] ++ stTs n (l.drop (i + 1)) := by rw [List.drop_eq_getElem_cons h, stTs]
theorem sts_mem (n : Nat) : ∀ (l : List StT), ∀ s ∈ l, (stT n s).length ≤ (stTs n l).length
 | y :: l, s, h => by
  rw [stTs, List.length_append]
  rcases List.mem_cons.1 h with rfl | h
  ·omega
  ·have := sts_mem n l s h
   omega
set_option maxHeartbeats 1000000 in
theorem stmts2_ab (n : Nat) (l : List StT) (h : ∀ s ∈ l, RT n s) (hl : (stTs n l).length ≤ mostW) : RS 20 [.d (.sl (l.map stD)), .d (.str (tabT n))] (stTs n l) := by
 refine RS.of (by simp [wkL, wk]) ?_
 have hx : ∀ s ∈ l, RS 56 [stV s, .d (.str (tabT n))] (stT n s) := fun s hs => h s hs (Nat.le_trans (sts_mem n l s hs) hl)
 clear h
 unfold mostW at hl
 obtain ⟨a, ha⟩ : ∃ a, stTs n l = a := ⟨_, rfl⟩
 rw [ha] at hl ⊢
 refine b20.go 40 rfl fun hsm => ?_
 simp only [smw] at hsm
 simp only [W, seval, c20]
 refine ARun.loopW (fun p : Nat × List UInt8 => (envS 22 [(0, .d (.sl (l.map stD))), (1, .d (.str (tabT n))), (5, .d (.str p.2)), (6, .d (.int .i64 (p.1 : Int)))], ⟨[], []⟩)) (fun p => p.1 ≤ l.length ∧ p.2 ++ stTs n (l.drop p.1) = a) (fun p => l.length - p.1) (0, []) ⟨by simp, ha⟩ ?_ rfl ?_
 ·skip
  refine Agree.env _ ?_
  simp only [agw, seval]
 rintro ⟨j, s⟩ ⟨h1, h2⟩ ih
 dsimp only at h1 h2 ih ⊢
 by_cases hlt : j < l.length
 case neg =>
  have e1 : decide ((j : Int) < (l.length : Int)) = false := decide_eq_false (by omega)
  rw [List.drop_eq_nil_of_le (by omega), stTs, List.append_nil] at h2
  subst h2
  refine ARun.go 60 ?_
  simp only [W, seval, c20, e1]
  refine ARun.ret Tryz.func20 rfl (Left.empty ?_)
  exact ⟨rfl, rfl⟩
 have e1 : decide ((j : Int) < (l.length : Int)) = true := decide_eq_true (by omega)
 have hwj := wrap_in ((j : Int) + 1) (by omega)
 have hg : (l.map stD)[j]? = some (stD l[j]) := by simp [hlt]
 have hy := hx l[j] (List.getElem_mem hlt)
 rw [sts_drop n l j hlt, ← List.append_assoc] at h2
 generalize l[j] = y at hg hy h2
 rw [stD_eq] at hg
 unfold RS stV at hy
 have h2l := congrArg List.length h2
 simp only [List.length_append] at h2l
 generalize stT n y = u at hy h2 h2l
 have k1 : s.length + u.length ≤ 9223372036854775807 := by omega
 refine ARun.go 60 ?_
 simp only [W, seval, c20, e1, hg, hlt]
 refine callS_fn (hy _) ?_
 rintro _ _ ⟨rfl, rfl⟩
 refine ARun.go 60 ?_
 simp only [W, seval, c20, hwj, k1]
 refine ih (j + 1, s ++ u) ⟨by dsimp only; omega, h2⟩ (by dsimp only; omega) _ _ ?_ rfl
 refine Agree.env _ ?_
 simp only [agw, seval]
theorem var2_ab {k : Nat} {n : List UInt8} {t : TyT} (ht : OkT t) : RT k (.mk 1 [n] t [] [] [] [] []) := by
 intro hb
 refine RS.of (by simp [stV, wkL, wk]) ?_
 have hty : stT k (.mk 1 [n] t [] [] [] [] []) = tabT k ++ ([118, 97, 114, 32] ++ n ++ [32]) ++ typT t ++ [10] := by simp [stT]
 rw [hty] at hb ⊢
 unfold mostW at hb
 simp only [lnw] at hb
 have hx := typ2_ab ht (by unfold mostW; omega)
 generalize typT t = u at hx hb ⊢
 generalize tabT k = w at hb ⊢
 rw [show w ++ ([118, 97, 114, 32] ++ n ++ [32]) ++ u ++ [10] = w ++ [118, 97, 114, 32] ++ n ++ [32] ++ u ++ [10] by simp]
 have k0 : w.length ≤ 9223372036854775806 ∧ w.length + 1 ≤ 9223372036854775807 := by omega
 have kk : w.length ≤ 9223372036854775803 ∧ w.length + 4 ≤ 9223372036854775807 ∧ w.length + 4 + n.length ≤ 9223372036854775807 ∧ w.length + (n.length + 4) ≤ 9223372036854775806 ∧ w.length + (n.length + 4) + 1 ≤ 9223372036854775807 ∧ w.length + (n.length + 5) + u.length ≤ 9223372036854775807 ∧ w.length + (n.length + (u.length + 1) + 4) ≤ 9223372036854775806 ∧ w.length + (n.length + (u.length + 1) + 4) + 1 ≤ 9223372036854775807 := by omega
 unfold tyV at hx
 change AFn _ _ _ [.agg [.d (.int .i64 1), .d (.sl (ssD [n])), .d (.int .i64 t.kind), .d (.str t.name), .d (.sl (t.elem.map tyD)), .d (.sl []), .d (.sl []), .d (.sl []), .d (.sl []), .d (.sl [])], _] _ _
 refine b56.go 40 rfl fun hsm => ?_
 simp only [smw] at hsm
 simp only [W, seval, c56, k0]
 refine ARun.draw (by kernel_rfl) (by kernel_rfl) (lexQ_ok 60 _ _ ?_)
 simp only [W, seval, c56, kk, ssD, List.map_cons, List.map_nil]
 refine ⟨_, hx _, ?_⟩
 simp only [W, seval, c56, kk]
 refine ARun.go 20 ?_
 simp only [W, seval, c56]
 refine ARun.ret Tryz.func56 rfl (Left.empty ?_)
 exact ⟨rfl, rfl⟩
theorem set2_ab {k : Nat} {ls es : List ExT} (hl : ∀ x ∈ ls, RE x) (he : ∀ x ∈ es, RE x) : RT k (.mk 2 [] noT ls es [] [] []) := by
 intro hb
 refine RS.of (by simp [stV, wkL, wk]) ?_
 have hty : stT k (.mk 2 [] noT ls es [] [] []) = tabT k ++ comT (ls.map exT) ++ ([32, 61, 32] ++ comT (es.map exT) ++ [10]) := by simp [stT, exTs_map]
 rw [hty] at hb ⊢
 unfold mostW at hb
 simp only [lnw] at hb
 have hx := exps2_ab ls hl (by unfold mostW; omega)
 have hy := exps2_ab es he (by unfold mostW; omega)
 clear hl he hty
 generalize comT (ls.map exT) = u at hx hb ⊢
 generalize comT (es.map exT) = v at hy hb ⊢
 generalize tabT k = w at hb ⊢
 rw [show w ++ u ++ ([32, 61, 32] ++ v ++ [10]) = w ++ u ++ [32, 61, 32] ++ v ++ [10] by simp]
 have k0 : w.length ≤ 9223372036854775806 ∧ w.length + 1 ≤ 9223372036854775807 := by omega
 have kk : w.length + u.length ≤ 9223372036854775807 ∧ w.length + u.length ≤ 9223372036854775804 ∧ w.length + u.length + 3 ≤ 9223372036854775807 ∧ w.length + (u.length + 1 + 1 + 1) + v.length ≤ 9223372036854775807 ∧ w.length + (u.length + 3) + v.length ≤ 9223372036854775807 ∧ w.length + (u.length + (v.length + 1 + 1 + 1)) ≤ 9223372036854775806 ∧ w.length + (u.length + (v.length + 1 + 1 + 1)) + 1 ≤ 9223372036854775807 ∧ w.length + (u.length + (v.length + 3)) ≤ 9223372036854775806 ∧ w.length + (u.length + (v.length + 3)) + 1 ≤ 9223372036854775807 := by omega
 change AFn _ _ _ [.agg [.d (.int .i64 2), .d (.sl []), .d (.int .i64 0), .d (.str []), .d (.sl []), .d (.sl (ls.map exD)), .d (.sl (es.map exD)), .d (.sl []), .d (.sl []), .d (.sl [])], _] _ _
 refine b56.go 40 rfl fun hsm => ?_
 simp only [smw] at hsm
 simp only [W, seval, c56, k0]
 refine ARun.draw (by kernel_rfl) (by kernel_rfl) (lexQ_ok 60 _ _ ?_)
 simp only [W, seval, c56]
 refine ⟨_, hx _, ?_⟩
 simp only [W, seval, c56, kk]
 refine ⟨_, hy _, ?_⟩
 simp only [W, seval, c56, kk]
 refine ARun.go 20 ?_
 simp only [W, seval, c56]
 refine ARun.ret Tryz.func56 rfl (Left.empty ?_)
 exact ⟨rfl, rfl⟩
theorem ret2_ab {k : Nat} {es : List ExT} (he : ∀ x ∈ es, RE x) : RT k (.mk 6 [] noT [] es [] [] []) := by
 intro hb
 refine RS.of (by simp [stV, wkL, wk]) ?_
 have hty : stT k (.mk 6 [] noT [] es [] [] []) = tabT k ++ ([114, 101, 116, 117, 114, 110, 32] ++ comT (es.map exT) ++ [10]) := by simp [stT, exTs_map]
 rw [hty] at hb ⊢
 unfold mostW at hb
 simp only [lnw] at hb
 have hy := exps2_ab es he (by unfold mostW; omega)
 clear he hty
 generalize comT (es.map exT) = v at hy hb ⊢
 generalize tabT k = w at hb ⊢
 rw [show w ++ ([114, 101, 116, 117, 114, 110, 32] ++ v ++ [10]) = w ++ [114, 101, 116, 117, 114, 110, 32] ++ v ++ [10] by simp]
 have k0 : w.length ≤ 9223372036854775806 ∧ w.length + 1 ≤ 9223372036854775807 := by omega
 have kk : w.length ≤ 9223372036854775800 ∧ w.length + 7 ≤ 9223372036854775807 ∧ w.length + 7 + v.length ≤ 9223372036854775807 ∧ w.length + (v.length + 7) ≤ 9223372036854775806 ∧ w.length + (v.length + 7) + 1 ≤ 9223372036854775807 := by omega
 change AFn _ _ _ [.agg [.d (.int .i64 6), .d (.sl []), .d (.int .i64 0), .d (.str []), .d (.sl []), .d (.sl []), .d (.sl (es.map exD)), .d (.sl []), .d (.sl []), .d (.sl [])], _] _ _
 refine b56.go 60 rfl fun hsm => ?_
 simp only [smw] at hsm
 simp only [W, seval, c56, k0, kk]
 refine callS_fn (hy _) ?_
 rintro _ _ ⟨rfl, rfl⟩
 refine ARun.go 20 ?_
 simp only [W, seval, c56, kk]
 refine ARun.ret Tryz.func56 rfl (Left.empty ?_)
 exact ⟨rfl, rfl⟩
set_option maxHeartbeats 1000000 in
theorem for2_ab {k : Nat} {x : ExT} {b : List StT} (hx : RE x) (hs : ∀ y ∈ b, RT (k + 1) y) : RT k (.mk 4 [] noT [] [x] b [] []) := by
 intro hb
 refine RS.of (by simp [stV, wkL, wk]) ?_
 have hty : stT k (.mk 4 [] noT [] [x] b [] []) = tabT k ++ ([102, 111, 114] ++ [32]) ++ exT x ++ [32, 123, 10] ++ stTs (k + 1) b ++ (tabT k ++ [125, 10]) := by simp [stT, hedT, kidE]
 rw [hty] at hb ⊢
 unfold mostW at hb
 simp only [lnw] at hb
 have hy := stmts2_ab (k + 1) b hs (by unfold mostW; omega)
 unfold RE mostW at hx
 have hx := hx (by omega)
 clear hs hty
 rw [← tab_up] at hy
 generalize stTs (k + 1) b = v at hy hb ⊢
 generalize tabT k = w at hb hy ⊢
 unfold RX exV at hx
 generalize exT x = u at hx hb ⊢
 rw [show w ++ ([102, 111, 114] ++ [32]) ++ u ++ [32, 123, 10] ++ v ++ (w ++ [125, 10]) = w ++ [102, 111, 114] ++ ([32] ++ u ++ [32, 123, 10]) ++ v ++ w ++ [125, 10] by simp]
 have k0 : w.length ≤ 9223372036854775806 ∧ w.length + 1 ≤ 9223372036854775807 := by omega
 have k1 : 1 + u.length ≤ 9223372036854775807 ∧ u.length ≤ 9223372036854775803 ∧ u.length + 1 + 3 ≤ 9223372036854775807 := by omega
 have kk : w.length ≤ 9223372036854775804 ∧ w.length + 3 ≤ 9223372036854775807 ∧ w.length ≤ 9223372036854775803 ∧ w.length + 3 + 1 ≤ 9223372036854775807 ∧ w.length + 4 + u.length ≤ 9223372036854775807 ∧ w.length + (u.length + 4) ≤ 9223372036854775804 ∧ w.length + (u.length + 4) + 3 ≤ 9223372036854775807 ∧ w.length + (u.length + 7) + v.length ≤ 9223372036854775807 ∧ w.length + (u.length + (v.length + 1 + 1 + 1) + 4) + w.length ≤ 9223372036854775807 ∧ w.length + (u.length + (v.length + 3) + 4) + w.length ≤ 9223372036854775807 ∧ w.length + (u.length + (v.length + w.length + 1 + 1 + 1) + 4) ≤ 9223372036854775805 ∧ w.length + (u.length + (v.length + w.length + 1 + 1 + 1) + 4) + 2 ≤ 9223372036854775807 ∧ w.length + (u.length + (v.length + w.length + 3) + 4) ≤ 9223372036854775805 ∧ w.length + (u.length + (v.length + w.length + 3) + 4) + 2 ≤ 9223372036854775807 := by omega
 have k3 : w.length ≤ 9223372036854775804 ∧ w.length + 3 ≤ 9223372036854775807 ∧ w.length + 3 + ((u.length + 4)) ≤ 9223372036854775807 := by omega
 have k4 : w.length ≤ 9223372036854775804 ∧ w.length + 3 ≤ 9223372036854775807 ∧ w.length + 3 + ((u.length + 3 + 1)) ≤ 9223372036854775807 := by omega
 change AFn _ _ _ [.agg [.d (.int .i64 4), .d (.sl []), .d (.int .i64 0), .d (.str []), .d (.sl []), .d (.sl []), .d (.sl [exD x]), .d (.sl (b.map stD)), .d (.sl []), .d (.sl [])], _] _ _
 refine b56.go 60 rfl fun hsm => ?_
 simp only [smw] at hsm
 simp only [W, seval, c56, k0, exD_eq]
 refine callS_fn (hx _) ?_
 rintro _ _ ⟨rfl, rfl⟩
 refine ARun.go 60 ?_
 simp only [W, seval, c56, k1, k3, k4, kk]
 refine callS_fn (hy _) ?_
 rintro _ _ ⟨rfl, rfl⟩
 refine ARun.go 60 ?_
 simp only [W, seval, c56, kk]
 refine ARun.ret Tryz.func56 rfl (Left.empty ?_)
 exact ⟨rfl, rfl⟩
end Go.Proofs.YtfaoamebphckbaaGreatDoor
