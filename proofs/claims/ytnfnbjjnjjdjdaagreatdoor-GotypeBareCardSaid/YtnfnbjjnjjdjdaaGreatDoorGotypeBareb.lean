/- GotypeBare answers true, for any program. Part 2 of 6 of the proof. -/
import Derived.Test.YtnfnbjjnjjdjdaaGreatDoorGotypeBarea
import Derived.Test.YtnfnbjjnjjdjdaaGreatDoorRows
import Derived.WalkKit
import Derived.WalkSpells
import Derived.WalkLawsBesides
import Derived.Lib.Bytealg
import Derived.Lib.Hide
import Derived.BigQuiet
namespace Go.Ab
open Go.RowKit Go.Av
def lk : List (Nat × V) → Nat → V
 | [], _ => .undef
 | p :: l, t => cond (p.1 == t) p.2 (lk l t)
def bu (n : Nat) (u : List (Nat × V)) : List V := (List.range n).map (lk u)
theorem jS (a : Nat) (v : V) (u : List (Nat × V)) (t : Nat) : lk ((a, v) :: u) t = cond (a == t) v (lk u t) := rfl
theorem FN (p : Nat × V) (u : List (Nat × V)) (t : Nat) : lk (p :: u) t = if p.1 = t then p.2 else lk u t := by
 rw [lk]
 by_cases h : p.1 = t
 ·rw [if_pos h, beq_iff_eq.2 h, cond_true]
 ·rw [if_neg h, beq_eq_false_iff_ne.2 h, cond_false]
theorem mI (t : Nat) : lk [] t = .undef := rfl
theorem gD (n : Nat) (u : List (Nat × V)) (t : Nat) : (bu n u).getD t .undef = cond (t + 1 - n == 0) (lk u t) .undef := by
 unfold bu
 by_cases h : t < n
 ·have e : (t + 1 - n == 0) = true := beq_iff_eq.2 (by omega)
  rw [e, cond_true]
  simp [List.getD, h]
 ·have e : (t + 1 - n == 0) = false := beq_eq_false_iff_ne.2 (by omega)
  rw [e, cond_false]
  simp [List.getD, h]
theorem xT (I : Inv) (n : Nat) (u : List (Nat × V)) (t : Nat) : ah I (bu n u) (.tmp t) = cond (t + 1 - n == 0) (lk u t) .undef := gD n u t
theorem ko (n : Nat) (u : List (Nat × V)) (t : Nat) (v : V) : (bu n u).set t v = bu n ((t, v) :: u) := by
 unfold bu
 apply List.ext_getElem
 ·simp
 intro i h1 h2
 simp only [List.length_set, List.length_map, List.length_range] at h1
 rw [List.getElem_set]
 simp only [List.getElem_map, List.getElem_range, FN]
theorem Ki (n : Nat) (u : List (Nat × V)) (t : Nat) (v : V) : aK (bu n u) (some t) v = bu n ((t, v) :: u) := ko n u t v
theorem Np (n : Nat) (u : List (Nat × V)) (v : V) : aK (bu n u) none v = bu n u := rfl
def fY : Nat → List V → List (Nat × V)
 | _, [] => []
 | i, v :: l => (i, v) :: fY (i + 1) l
theorem tA : ∀ (l : List V) (i t : Nat), lk (fY i l) t = if i ≤ t then l.getD (t - i) .undef else .undef
 | [], i, t => by simp [fY, lk, List.getD]
 | v :: l, i, t => by
  rw [fY, FN, tA l (i + 1) t]
  by_cases h : i = t
  ·subst h; simp
  ·rw [if_neg h]
   by_cases h2 : i ≤ t
   ·have h3 : i + 1 ≤ t := by omega
    have h4 : t - i = (t - (i + 1)) + 1 := by omega
    rw [if_pos h3, if_pos h2, h4]
    simp [List.getD]
   ·rw [if_neg h2, if_neg (by omega)]
theorem xU (n : Nat) (args : List V) (h : args.length ≤ n) : args ++ List.replicate (n - args.length) .undef = bu n (fY 0 args) := by
 unfold bu
 apply List.ext_getElem
 ·simp; omega
 intro i h1 h2
 simp only [List.length_map, List.length_range] at h2
 simp only [List.getElem_map, List.getElem_range, tA, Nat.zero_le, if_true, Nat.sub_zero]
 rw [List.getElem_append]
 split
 ·rename_i h3
  simp [List.getD, h3]
 ·rename_i h3
  simp only [List.getElem_replicate, List.getD]
  rw [List.getElem?_eq_none (by omega)]
  rfl
theorem aD.TP {P : Program} {I : Inv} {fn : FuncId} {f : Func} {body : Code} {args : List V} {S : Mem} {R : V → Mem → Prop} (n : Nat) (hf : P.funcs[fn]? = some f) (hb : f.body = some body) (nT : (f.name == "runtime.NumGoroutine") = false) (hn : f.ntmps = n) (hl : args.length ≤ n)
 (h : Bo args = true → af P I (S.boxes.length, S.aL.length) fn [.code body] (bu n (fY 0 args)) S (Left S R)) : aD P I fn args S R :=
 aD.FM hf hb nT fun hs => by
  rw [hn, xU n args hl]
  exact h hs
def ay (u : List (Nat × V)) : List (Nat × V) → Prop
 | [] => True
 | p :: l => lk u p.1 = p.2 ∧ ay u l
theorem ay.lk {u : List (Nat × V)} : ∀ {l : List (Nat × V)}, ay u l → ∀ t, lk l t = .undef ∨ lk l t = Ab.lk u t
 | [], _, t => .inl rfl
 | p :: l, h, t => by
  rw [FN]
  by_cases e : p.1 = t
  ·rw [if_pos e, ← h.1, e]; exact .inr rfl
  ·rw [if_neg e]; exact ay.lk h.2 t
theorem Bp (f g : Nat → V) (h : ∀ t, f t = .undef ∨ f t = g t) : ∀ l : List Nat, gC (l.map f) (l.map g)
 | [] => trivial
 | t :: l => ⟨h t, Bp f g h l⟩
theorem ay.env {u l : List (Nat × V)} (n : Nat) (h : ay u l) : gC (bu n l) (bu n u) := Bp _ _ h.lk _
def cC (a b : Nat) (u : List (Nat × V)) : List (Nat × V) → Prop
 | [] => True
 | p :: l => (lk u p.1 = p.2 ∧ fit a b p.2 = true) ∧ cC a b u l
theorem cC.lk {a b : Nat} {u : List (Nat × V)} : ∀ {l : List (Nat × V)}, cC a b u l → ∀ t, lk l t = .undef ∨ (lk l t = Ab.lk u t ∧ fit a b (Ab.lk u t) = true)
 | [], _, t => .inl rfl
 | p :: l, h, t => by
  rw [FN]
  by_cases e : p.1 = t
  ·rw [if_pos e, ← e, h.1.1]; exact .inr ⟨rfl, h.1.2⟩
  ·rw [if_neg e]; exact cC.lk h.2 t
theorem xV (a b : Nat) (f g : Nat → V) (h : ∀ t, f t = .undef ∨ (f t = g t ∧ fit a b (g t) = true)) : ∀ l : List Nat, pN a b (l.map f) (l.map g)
 | [] => trivial
 | t :: l => ⟨h t, xV a b f g h l⟩
theorem cC.env {a b : Nat} {u l : List (Nat × V)} (n : Nat) (h : cC a b u l) : pN a b (bu n l) (bu n u) := xV a b _ _ h.lk _
theorem Hj (u : List (Nat × V)) : ay u [] = True := rfl
theorem D5 (u : List (Nat × V)) (t : Nat) (v : V) (l : List (Nat × V)) : ay u ((t, v) :: l) = (lk u t = v ∧ ay u l) := rfl
theorem D6 (a b : Nat) (u : List (Nat × V)) : cC a b u [] = True := rfl
theorem Bq (a b : Nat) (u : List (Nat × V)) (t : Nat) (v : V) (l : List (Nat × V)) : cC a b u ((t, v) :: l) = ((lk u t = v ∧ fit a b v = true) ∧ cC a b u l) := rfl
def Kk (f : Func) : Code :=
 match f.body with
 | some c => c
 | none => .skip
def opsOf : Code → Array Oper
 | .region _ o _ => o
 | _ => #[]
def bD (a : Array Oper) (i : Nat) : Oper :=
 match a[i]? with
 | some o => o
 | none => ⟨none, .move (.tmp 0), 0, "", #[], none⟩
def PM (next : dS) (v : V) (a b : Code) (k : List Item) (env : List V) (S : Mem) : Prop :=
 match v with
 | .d (.bool t) => tq next t (.code a :: k) env (.code b :: k) env S
 | _ => False
theorem Nq (next : dS) (t : Bool) (a b : Code) (k : List Item) (env : List V) (S : Mem) : PM next (.d (.bool t)) a b k env S = tq next t (.code a :: k) env (.code b :: k) env S := rfl
def Kl (next : dS) (r : Option (List Item)) (env : List V) (S : Mem) : Prop :=
 match r with
 | some k => next k env S
 | none => False
theorem D7 (next : dS) (k : List Item) (env : List V) (S : Mem) : Kl next (some k) env S = next k env S := rfl
def Km (P : Program) (I : Inv) (next : jN) (S : Mem) (v : V) (want : Bool) (o : Oper) (l : List Oper) (env : List V) : Prop :=
 match v with
 | .d (.bool t) => lF P I next S t want o l env
 | .bZ [] => next l (aK env o.dst (.bZ []))
 | _ => False
theorem Nr (P : Program) (I : Inv) (next : jN) (S : Mem) (t want : Bool) (o : Oper) (l : List Oper) (env : List V) : Km P I next S (.d (.bool t)) want o l env = lF P I next S t want o l env := rfl
theorem Ns (P : Program) (I : Inv) (next : jN) (S : Mem) (want : Bool) (o : Oper) (l : List Oper) (env : List V) : Km P I next S (.bZ []) want o l env = next l (aK env o.dst (.bZ [])) := rfl
def D8 (v : V) (want : Bool) : V :=
 match v with
 | .d (.bool t) => .d (.bool (t == want))
 | .bZ [] => .d (.bool false)
 | _ => .undef
def FO (env : List V) (ops : Array Oper) (o : Oper) : V :=
 match o.guard with
 | none => .d (.bool true)
 | some (j, want) => D8 (eE env ops j) want
def dy : Code → List Code → List Code
 | .seq a b, l => .seq a b :: dy a (dy b l)
 | .cond x a b, l => .cond x a b :: dy a (dy b l)
 | .block i a, l => .block i a :: dy a l
 | .loop a, l => .loop a :: dy a l
 | c, l => c :: l
def nth : List Code → Nat → Code
 | [], _ => .skip
 | c :: _, 0 => c
 | _ :: l, i + 1 => nth l i
def zC : Code → Nat
 | .seq a b => zC a + zC b + 1
 | .cond _ a b => zC a + zC b + 1
 | .block _ a => zC a + 1
 | .loop a => zC a + 1
 | _ => 1
def kF (f : Func) (i : Nat) : Code := nth (dy (Kk f) []) i
inductive Kx where
 | S (a b c : Nat) | B (a b j : Nat) | C (a : Nat) (x : Operand) (b c : Nat) | L (a b : Nat) | E (a j : Nat) | T (a : Nat) | N (a : Nat) | R (a : Nat) (l : List Nat) | D (a j : Nat) (l : List Nat)
 | r (a j : Nat) (q : Op) (d : Option Tmp) | g (a j t : Nat) (b : Bool) (q : Op) (d : Option Tmp) | q (a j : Nat) (q : Op) (d : Option Tmp) | h (a j t : Nat) (b : Bool) (q : Op) (d : Option Tmp)
def eR (P : Program) (I : Inv) (next stop : dS) (ops : Array Oper) (rest : List Nat) (q : Op) (d : Option Tmp) (k : List Item) (env : List V) (S : Mem) : Prop :=
 match q with
 | .call c => match c.callee with
  | .value f => qQ P I stop (ah I env f) (c.args.toList.map (ah I env)) (.inRegion ops rest :: k) d env S
  | _ => uX next (dw P (ah I env) S c) (.inRegion ops rest :: k) d env
 | op => uX next (cU P (ah I env) S op) (.inRegion ops rest :: k) d env
def eS (P : Program) (I : Inv) (next : jN) (S : Mem) (q : Op) (d : Option Tmp) (l : List Oper) (env : List V) : Prop :=
 match q with
 | .call c => match c.callee with
  | .value f => FL P I next S c (ah I env f) (c.args.toList.map (ah I env)) l d env
  | _ => va next S (dw P (ah I env) S c) l d env
 | op => va next S (cU P (ah I env) S op) l d env
def D9 (i : Nat) (draw : Bool) (A : Array Oper) : Nat → List Oper → List Kx → List Kx
 | _, [], l => l
 | j, o :: m, l => match o.guard with
  | none => (cond draw (.q i j o.op o.dst) (.r i j o.op o.dst)) :: D9 i draw A (j + 1) m l
  | some (t, b) => match (A[t]?).bind (·.dst) with
   | some t => (cond draw (.h i j t b o.op o.dst) (.g i j t b o.op o.dst)) :: D9 i draw A (j + 1) m l
   | none => D9 i draw A (j + 1) m l
def Br (i : Nat) : Code → List Kx → List Kx
 | .seq a b, l => .S i (i + 1) (i + zC a + 1) :: Br (i + 1) a (Br (i + zC a + 1) b l)
 | .cond x a b, l => .C i x (i + 1) (i + zC a + 1) :: Br (i + 1) a (Br (i + zC a + 1) b l)
 | .block j a, l => .B i (i + 1) j :: Br (i + 1) a l
 | .loop a, l => .L i (i + 1) :: Br (i + 1) a l
 | .exit j, l => .E i j :: l
 | .ret, l => .T i :: l
 | .skip, l => .N i :: l
 | .label _, l => .N i :: l
 | .region _ A false, l => .R i (sx 0 A.toList) :: D9 i false A 0 A.toList l
 | .region j A true, l => .D i j (sx 0 A.toList) :: D9 i true A 0 A.toList l
 | _, l => l
def fj (n : Nat → Code) : Kx → Prop
 | .S a b c => ∀ (I : Inv) (next stop : dS) (k : List Item) (env : List V) (S : Mem), gA I next stop (n a) k env S = next (.code (n b) :: .code (n c) :: k) env S
 | .B a b j => ∀ (I : Inv) (next stop : dS) (k : List Item) (env : List V) (S : Mem), gA I next stop (n a) k env S = next (.code (n b) :: .inBlock j :: k) env S
 | .C a x b c => ∀ (I : Inv) (next stop : dS) (k : List Item) (env : List V) (S : Mem), gA I next stop (n a) k env S = PM next (ah I env x) (n b) (n c) k env S
 | .L a b => ∀ (I : Inv) (next stop : dS) (k : List Item) (env : List V) (S : Mem), gA I next stop (n a) k env S = stop (.code (.loop (n b)) :: k) env S
 | .E a j => ∀ (I : Inv) (next stop : dS) (k : List Item) (env : List V) (S : Mem), gA I next stop (n a) k env S = Kl next (exitTo j k) env S
 | .T a => ∀ (I : Inv) (next stop : dS) (k : List Item) (env : List V) (S : Mem), gA I next stop (n a) k env S = stop (.code .ret :: k) env S
 | .N a => ∀ (I : Inv) (next stop : dS) (k : List Item) (env : List V) (S : Mem), gA I next stop (n a) k env S = next k env S
 | .R a l => ∀ (I : Inv) (next stop : dS) (k : List Item) (env : List V) (S : Mem), gA I next stop (n a) k env S = next (.inRegion (opsOf (n a)) l :: k) env S
 | .D a j l => (∀ (I : Inv) (next stop : dS) (k : List Item) (env : List V) (S : Mem), gA I next stop (n a) k env S = stop (.code (.region j (opsOf (n a)) true) :: k) env S) ∧ (opsOf (n a)).toList = l.map (bD (opsOf (n a)))
 | .r a j q d => ∀ (P : Program) (I : Inv) (next stop : dS) (rest : List Nat) (k : List Item) (env : List V) (S : Mem), Bc P I next stop (opsOf (n a)) j rest k env S = eR P I next stop (opsOf (n a)) rest q d k env S
 | .g a j t b q d => (∀ (P : Program) (I : Inv) (next stop : dS) (rest : List Nat) (k : List Item) (env : List V) (S : Mem), Bc P I next stop (opsOf (n a)) j rest k env S = qf P I next stop (env.getD t .undef) b (opsOf (n a)) rest (bD (opsOf (n a)) j) k env S) ∧ (∀ (P : Program) (I : Inv) (next stop : dS) (rest : List Nat) (k : List Item) (env : List V) (S : Mem), zx P I next stop (opsOf (n a)) rest (bD (opsOf (n a)) j) k env S = eR P I next stop (opsOf (n a)) rest q d k env S) ∧ (bD (opsOf (n a)) j).dst = d
 | .q a j q d => (∀ (P : Program) (I : Inv) (nq : jN) (S : Mem) (l : List Oper) (env : List V), qT P I (opsOf (n a)) nq S (bD (opsOf (n a)) j) l env = eS P I nq S q d l env) ∧ (∀ env, FO env (opsOf (n a)) (bD (opsOf (n a)) j) = .d (.bool true)) ∧ (bD (opsOf (n a)) j).op = q ∧ (bD (opsOf (n a)) j).dst = d
 | .h a j t b q d => (∀ (P : Program) (I : Inv) (nq : jN) (S : Mem) (l : List Oper) (env : List V), qT P I (opsOf (n a)) nq S (bD (opsOf (n a)) j) l env = Km P I nq S (env.getD t .undef) b (bD (opsOf (n a)) j) l env) ∧ (∀ (P : Program) (I : Inv) (nq : jN) (S : Mem) (l : List Oper) (env : List V), QZ P I nq S (bD (opsOf (n a)) j) l env = eS P I nq S q d l env) ∧ (∀ env, FO env (opsOf (n a)) (bD (opsOf (n a)) j) = D8 (env.getD t .undef) b) ∧ (bD (opsOf (n a)) j).op = q ∧ (bD (opsOf (n a)) j).dst = d
def KK (n : Nat → Code) : List Kx → Prop
 | [] => True
 | x :: l => fj n x ∧ KK n l
theorem dz : ∀ (c : Code) (l : List Code), ∃ m, dy c l = c :: m ++ l ∧ m.length + 1 = zC c
 | .seq a b, l => by
  obtain ⟨m1, e1, n1⟩ := dz b l
  obtain ⟨m2, e2, n2⟩ := dz a (dy b l)
  exact ⟨a :: m2 ++ (b :: m1), by rw [dy, e2, e1]; simp, by simp [zC]; omega⟩
 | .cond x a b, l => by
  obtain ⟨m1, e1, n1⟩ := dz b l
  obtain ⟨m2, e2, n2⟩ := dz a (dy b l)
  exact ⟨a :: m2 ++ (b :: m1), by rw [dy, e2, e1]; simp, by simp [zC]; omega⟩
 | .block _ a, l => by
  obtain ⟨m, e, n⟩ := dz a l
  exact ⟨a :: m, by rw [dy, e]; simp, by simp [zC]; omega⟩
 | .loop a, l => by
  obtain ⟨m, e, n⟩ := dz a l
  exact ⟨a :: m, by rw [dy, e]; simp, by simp [zC]; omega⟩
 | .skip, _ | .region _ _ _, _ | .rangeFunc _ _ _ _, _ | .exit _, _ | .scope _, _ | .label _, _ | .goto _, _ | .ret, _ | .refuse _, _ => ⟨[], rfl, rfl⟩
theorem dg : ∀ (L : List Code) (i : Nat) (c : Code) (m : List Code), L.drop i = c :: m → nth L i = c
 | [], i, c, m, h => by simp at h
 | x :: L, 0, c, m, h => by simp at h; exact h.1
 | x :: L, i + 1, c, m, h => dg L i c m (by simpa using h)
theorem xW {L : List Code} {i : Nat} {a b : List Code} (h : L.drop i = a ++ b) : L.drop (i + a.length) = b := by
 rw [← List.drop_drop, h, List.drop_left]
theorem FP {A : Array Oper} {j : Nat} {o : Oper} (h : A[j]? = some o) : bD A j = o := by unfold bD; rw [h]
theorem zD {n : Nat → Code} {i : Nat} {draw : Bool} {A : Array Oper} (hA : opsOf (n i) = A) : ∀ (m : List Oper) (j : Nat) (l : List Kx), A.toList.drop j = m → KK n l → KK n (D9 i draw A j m l)
 | [], _, _, _, hl => hl
 | o :: m, j, l, hd, hl => by
  have hm : A.toList.drop (j + 1) = m := by rw [← List.drop_drop, hd]; rfl
  have ho : A[j]? = some o := by
   have h0 : (A.toList.drop j)[0]? = some o := by rw [hd]; rfl
   rw [List.getElem?_drop] at h0
   simpa using h0
  have ih := zD (draw := draw) hA m (j + 1) l hm hl
  have hp := FP ho
  unfold D9
  split
  ·rename_i hg
   refine ⟨?_, ih⟩
   cases draw
   ·intro P I next stop rest k env S
    rw [hA]
    unfold Bc
    rw [ho]
    simp only [hg]
    rfl
   ·refine ⟨?_, fun env => by rw [hA, hp]; unfold FO; simp only [hg], by rw [hA, hp], by rw [hA, hp]⟩
    intro P I nq S l env
    rw [hA, hp]
    unfold qT
    simp only [hg]
    rfl
  ·rename_i t b hg
   split
   ·rename_i t2 ht
    have hv : ∀ env : List V, eE env A t = env.getD t2 .undef := fun env => by unfold eE; rw [ht]
    refine ⟨?_, ih⟩
    cases draw
    ·refine ⟨?_, ?_, by rw [hA, hp]⟩
     ·intro P I next stop rest k env S
      rw [hA, hp]
      unfold Bc
      rw [ho]
      simp only [hg, hv]
     ·intro P I next stop rest k env S
      rw [hA, hp]
      rfl
    ·refine ⟨?_, ?_, fun env => by rw [hA, hp]; unfold FO; simp only [hg, hv], by rw [hA, hp], by rw [hA, hp]⟩
     ·intro P I nq S l env
      rw [hA, hp]
      unfold qT
      simp only [hg, hv]
      rfl
     ·intro P I nq S l env
      rw [hA, hp]
      rfl
   ·exact ih
theorem Bs (A : Array Oper) : ∀ (l : List Oper) (i : Nat), A.toList.drop i = l → (sx i l).map (bD A) = l
 | [], _, _ => rfl
 | o :: m, i, h => by
  have hm : A.toList.drop (i + 1) = m := by rw [← List.drop_drop, h]; rfl
  have ho : A[i]? = some o := by
   have h0 : (A.toList.drop i)[0]? = some o := by rw [h]; rfl
   rw [List.getElem?_drop] at h0
   simpa using h0
  rw [sx, List.map_cons, FP ho, Bs A m (i + 1) hm]
theorem mJ (L : List Code) : ∀ (c : Code) (i : Nat) (rest : List Code) (l : List Kx), L.drop i = dy c rest → KK (nth L) l → KK (nth L) (Br i c l)
 | .seq a b, i, rest, l, h, hl => by
  obtain ⟨m1, e1, n1⟩ := dz b rest
  obtain ⟨m2, e2, n2⟩ := dz a (dy b rest)
  have h1 : L.drop (i + 1) = dy a (dy b rest) := by rw [← List.drop_drop, h]; rfl
  have h2 : L.drop (i + zC a + 1) = dy b rest := by
   have := xW (h1.trans e2)
   rw [← this]; congr 1; simp; omega
  have k0 := dg L i _ _ h
  have k1 := dg L (i + 1) _ _ (h1.trans e2)
  have k2 := dg L (i + zC a + 1) _ _ (h2.trans e1)
  refine ⟨?_, mJ L a (i + 1) _ _ h1 (mJ L b _ _ _ h2 hl)⟩
  intro I next stop k env S
  rw [k0, k1, k2]; rfl
 | .cond x a b, i, rest, l, h, hl => by
  obtain ⟨m1, e1, n1⟩ := dz b rest
  obtain ⟨m2, e2, n2⟩ := dz a (dy b rest)
  have h1 : L.drop (i + 1) = dy a (dy b rest) := by rw [← List.drop_drop, h]; rfl
  have h2 : L.drop (i + zC a + 1) = dy b rest := by
   have := xW (h1.trans e2)
   rw [← this]; congr 1; simp; omega
  have k0 := dg L i _ _ h
  have k1 := dg L (i + 1) _ _ (h1.trans e2)
  have k2 := dg L (i + zC a + 1) _ _ (h2.trans e1)
  refine ⟨?_, mJ L a (i + 1) _ _ h1 (mJ L b _ _ _ h2 hl)⟩
  intro I next stop k env S
  rw [k0, k1, k2]; rfl
 | .block j a, i, rest, l, h, hl => by
  obtain ⟨m, e, n⟩ := dz a rest
  have h1 : L.drop (i + 1) = dy a rest := by rw [← List.drop_drop, h]; rfl
  have k0 := dg L i _ _ h
  have k1 := dg L (i + 1) _ _ (h1.trans e)
  refine ⟨?_, mJ L a (i + 1) _ _ h1 hl⟩
  intro I next stop k env S
  rw [k0, k1]; rfl
 | .loop a, i, rest, l, h, hl => by
  obtain ⟨m, e, n⟩ := dz a rest
  have h1 : L.drop (i + 1) = dy a rest := by rw [← List.drop_drop, h]; rfl
  have k0 := dg L i _ _ h
  have k1 := dg L (i + 1) _ _ (h1.trans e)
  refine ⟨?_, mJ L a (i + 1) _ _ h1 hl⟩
  intro I next stop k env S
  rw [k0, k1]; rfl
 | .region j A false, i, rest, l, h, hl => by
  have k0 := dg L i _ _ h
  refine ⟨?_, zD (by rw [k0]; rfl) _ _ _ rfl hl⟩
  intro I next stop k env S
  rw [k0]; rfl
 | .region j A true, i, rest, l, h, hl => by
  have k0 := dg L i _ _ h
  refine ⟨⟨?_, ?_⟩, zD (by rw [k0]; rfl) _ _ _ rfl hl⟩
  ·intro I next stop k env S
   rw [k0]; rfl
  ·rw [k0]; exact (Bs A _ 0 rfl).symm
 | .skip, i, rest, l, h, hl => ⟨fun I next stop k env S => by rw [dg L i _ _ h]; rfl, hl⟩
 | .label _, i, rest, l, h, hl => ⟨fun I next stop k env S => by rw [dg L i _ _ h]; rfl, hl⟩
 | .ret, i, rest, l, h, hl => ⟨fun I next stop k env S => by rw [dg L i _ _ h]; rfl, hl⟩
 | .exit j, i, rest, l, h, hl => ⟨fun I next stop k env S => by rw [dg L i _ _ h]; unfold gA Kl; rfl, hl⟩
 | .rangeFunc _ _ _ _, _, _, _, _, hl | .scope _, _, _, _, _, hl | .goto _, _, _, _, _, hl | .refuse _, _, _, _, _, hl => hl
theorem aN (f : Func) {t : List Kx} (h : Br 0 (Kk f) [] = t) : KK (kF f) t := by
 subst h
 exact mJ _ _ 0 [] [] rfl trivial
def bK (P : Program) (fn : FuncId) (f : Func) (n : Nat) : Prop := P.funcs[fn]? = some f ∧ (f.body, f.name == "runtime.NumGoroutine", f.ntmps) = (some (kF f 0), false, n)
theorem bK.run {P : Program} {I : Inv} {fn : FuncId} {f : Func} {n : Nat} (b : bK P fn f n) {args : List V} {S : Mem} {R : V → Mem → Prop} (hl : Nat.ble args.length n = true)
 (h : Bo args = true → af P I (S.boxes.length, S.aL.length) fn [.code (kF f 0)] (bu n (fY 0 args)) S (Left S R)) : aD P I fn args S R :=
 aD.TP n b.1 (Prod.mk.inj b.2).1 (Prod.mk.inj (Prod.mk.inj b.2).2).1 (Prod.mk.inj (Prod.mk.inj b.2).2).2 (Nat.le_of_ble_eq_true hl) h
theorem bK.go {P : Program} {I : Inv} {fn : FuncId} {f : Func} {n : Nat} (b : bK P fn f n) {args : List V} {S : Mem} {R : V → Mem → Prop} (m : Nat) (hl : Nat.ble args.length n = true)
 (h : Bo args = true → steps P I m (fun k env S' => af P I (S.boxes.length, S.aL.length) fn k env S' (Left S R)) [.code (kF f 0)] (bu n (fY 0 args)) S) : aD P I fn args S R :=
 b.run hl fun hs => af.go m (h hs)
abbrev aB (v : V) (S : Mem) : V → Mem → Prop := fun v' S' => v' = v ∧ S' = S
def Cx.bare (c : Cx) (w : World) (hM : ∀ g k, c.M g k → c.I.top ≤ g ∧ g < w.heap.size) : Cx := ⟨w.heap.size, [], [], c.I, c.M, hM⟩
theorem dc.Xt {c : Cx} {w : World} {S : Mem} (h : dc c w S) (g k : Nat) (hm : c.M g k) : c.I.top ≤ g ∧ g < w.heap.size := by
 refine ⟨?_, ?_⟩
 ·have hB := h.hB.1
  rcases hm with (hm | hm) | ⟨t, i, off, ht, ha, h1, h2⟩
  ·exact (c.hX _ _ hm).1
  ·obtain ⟨i, hi⟩ := iT.1 hm
   have := (h.box i g hi).1
   omega
  ·obtain ⟨a1, a2, a3, a4, a5⟩ := h.tok t i ht
   have au : i.n < i.cap := by
    rcases Nat.lt_or_ge i.n i.cap with h' | h'
    ·exact h'
    ·have := Nat.mul_le_mul_right i.sz h'
     omega
   have := (a5 au g off ha).1
   omega
 ·rcases Nat.lt_or_ge g w.heap.size with h' | h'
  ·exact h'
  ·exact absurd hm (h.uK h')
theorem VR.move {c c' : Cx} {w : World} {v : V} {x : Value} (h : VR c w v x) (hM : ∀ g k, c'.M g k → c.M g k) : VR c' w (wk 0 0 v) x := by
 have hd : ∀ {d : D} {x : Value}, DR c.M w d x → DR c'.M w d x := fun h => h.mono fun _ _ _ hm hv => ⟨fun h => hm (hM _ _ h), hv⟩
 induction h with
 | undef v => unfold wk; exact .undef v
 | d x v h => unfold wk; exact .d x v (hd h)
 | full rows a h ha => unfold wk; exact .d _ _ (hd h)
 | own rows t a cap i h ht hr hn hl =>
  unfold wk
  rw [if_neg (by omega)]
  exact .d _ _ (hd h)
 | ptr i k b h hT =>
  unfold wk
  rw [if_neg (by omega)]
  exact .undef _
 | bx i k cap b h hn hm hT =>
  unfold wk
  rw [if_neg (by omega)]
  exact .undef _
 | mp i b h =>
  unfold wk
  rw [if_neg (by omega)]
  exact .undef _
 | self i T b v h hT hv =>
  unfold wk
  rw [if_neg (by omega)]
  exact .undef _
 | buf rows t T v h hT ih =>
  unfold wk at ih ⊢
  rw [if_neg (by omega)] at ih ⊢
  exact ih
 | fS row k g o f h =>
  unfold wk
  refine .fS row k g o f fun q hq => ?_
  obtain ⟨a, b, d⟩ := h q hq
  exact ⟨fun h => a (hM _ _ h), b, hd d⟩
 | gZ => unfold wk; exact .gZ
 | kf => unfold wk; exact .kf
 | func f first caps cf cc h1 h2 h3 h4 JM nE =>
  unfold wk
  rw [ij, ij]
  exact .func f _ _ cf cc (by simpa using h1) (by simpa using h2) (fun j hj => by simpa using JM j (by simpa using hj)) (fun j hj => by simpa using nE j (by simpa using hj))
 | agg vs cs h1 h2 h3 ih =>
  unfold wk
  rw [ij]
  exact .agg _ cs (by simpa using h1) (fun j hj => by simpa using ih j (by simpa using hj)) (fun j hj => h3 j (by simpa using hj))
 | bZ vs cs h1 h2 ih =>
  unfold wk
  rw [ij]
  exact .bZ _ cs (by simpa using h1) (fun j hj => by simpa using ih j (by simpa using hj))
theorem aD.frame {P : Program} {I : Inv} {f : FuncId} {args : List V} {R : V → Mem → Prop} (h : aD P I f (ud 0 0 args) ⟨[], []⟩ R) (S : Mem) : aD P I f args S fun v S' => S' = S ∧ ∃ v0 S0, R v0 S0 ∧ v = wk 0 0 v0 := by
 refine ⟨h.1, fun c w xs h1 h2 h3 hI cs => ?_⟩
 have hM := h3.Xt
 have Jx : ∀ g k, (c.bare w hM).M g k ↔ c.M g k := by
  intro g k
  constructor
  ·rintro ((h' | h') | ⟨t, i, off, ht, _⟩)
   ·exact h'
   ·simp [Cx.bare] at h'
   ·simp [Cx.bare] at ht
  ·exact fun h' => .inl (.inl h')
 have hr : dc (c.bare w hM) w ⟨[], []⟩ :=
  ⟨⟨by have := h3.hB; show c.I.top ≤ w.heap.size; omega, Nat.le_refl _⟩, rfl, fun i b h => by simp [Cx.bare] at h, fun i j b h => by simp [Cx.bare] at h, rfl, fun t i h => by simp [Cx.bare] at h, fun t t' i i' g off sg h => by simp [Cx.bare] at h,
    fun w' hw => h3.inv w' (hw.mono h3.hB.2)⟩
 have Kn : (ud 0 0 args).length = args.length := by rw [ij, List.length_map]
 obtain ⟨e, w', fr, ⟨v, x, S0, c', rfl, a2, a3, a4, a5⟩, r⟩ := h.2 (c.bare w hM) w xs (by rw [Kn]; exact h1) (fun j hj => by
  have eJ : j < args.length := by rw [← Kn]; exact hj
  have e : (ud 0 0 args)[j] = wk 0 0 args[j] := by simp [ij]
  rw [e]
  exact (h2 j eJ).move fun g k h' => (Jx g k).1 h') hr hI cs
 have hb : Below w.heap.size w w' := a4.below
 obtain ⟨q1, q2⟩ := h3.under hb
 refine ⟨.returned x, w', fr, ⟨wk 0 0 v, x, S, c, rfl, ⟨rfl, v, S0, a2, rfl⟩, q1, q2, ?_⟩, r⟩
 refine a5.move fun g k hm => ?_
 have hX : c'.X = c.M := a4.X
 refine .inl (.inl ?_)
 show c'.X g k
 rw [hX]
 exact hm
theorem aD.same {P : Program} {I : Inv} {f : FuncId} {args : List V} {v : V} (h : aD P I f args ⟨[], []⟩ (aB v ⟨[], []⟩)) (hd : ud 0 0 args = args) (hv : wk 0 0 v = v) (S : Mem) : aD P I f args S (aB v S) :=
 aD.mono (aD.frame (R := aB v ⟨[], []⟩) (by rw [hd]; exact h) S) fun v' S' h => by
  obtain ⟨h1, v0, S0, ⟨h2, _⟩, h3⟩ := h
  exact ⟨by rw [h3, h2, hv], h1⟩
theorem af.Ea {P : Program} {I : Inv} {z : Nat × Nat} {fn : FuncId} {R : V → Mem → Prop} {k : List Item} {env : List V} {S : Mem} (h : (∀ t, fit S.boxes.length S.aL.length (env.getD t .undef) = true) → af P I z fn k env S R) : af P I z fn k env S R :=
 fun b a c w c0 w0 h1 h2 h3 h4 h5 h6 hI => h (fun t => by
  have := (h4.get t).fits
  rw [h5.len, h5.aL, List.length_map]
  exact this) b a c w c0 w0 h1 h2 h3 h4 h5 h6 hI
def fP {α β : Type} (e : α → β → Bool) : List α → List β → Bool
 | [], [] => true
 | x :: a, y :: b => e x y && fP e a b
 | _, _ => false
theorem kW {α β : Type} (e : α → β → Bool) : ∀ (a : List α) (b : List β), a.length ≠ b.length → fP e a b = false
 | [], [], h => absurd rfl h
 | [], _ :: _, _ => rfl
 | _ :: _, [], _ => rfl
 | x :: a, y :: b, h => by rw [fP, kW e a b (by simpa using h), Bool.and_false]
theorem kr {α β : Type} (e : α → β → Bool) (a : List α) (b : List β) (i : Nat) (h : i < a.length) (h' : i < b.length) : fP e (a.drop i) (b.drop i) = (e a[i] b[i] && fP e (a.drop (i + 1)) (b.drop (i + 1))) := by
 rw [List.drop_eq_getElem_cons h, List.drop_eq_getElem_cons h', fP]
theorem mK {α β : Type} (e : α → β → Bool) (a : List α) (b : List β) (i : Nat) (h : a.length ≤ i) (h' : b.length ≤ i) : fP e (a.drop i) (b.drop i) = true := by
 rw [List.drop_eq_nil_of_le h, List.drop_eq_nil_of_le h', fP]
theorem Left.empty {R : V → Mem → Prop} {v : V} {S' : Mem} (h : R (wk 0 0 v) ⟨[], []⟩) : Left ⟨[], []⟩ R v S' := ⟨[], S'.boxes, [], S'.aL, rfl, rfl, rfl, fun i vs h => by simp at h, h⟩
section
variable {P : Program} {I : Inv} {ops : Array Oper} {W : List Nat} {M : Nat → Mem}
def QA (P : Program) (I : Inv) (ops : Array Oper) (M : Nat → Mem) (o : Oper) (env cr : List V) : Prop := ∀ b, ∃ v, YA P I ops o env (M b) v ∧ cr = aK env o.dst v
def WA (P : Program) (I : Inv) (ops : Array Oper) (M : Nat → Mem) (o : Oper) (env : List V) (a : Nat) (v : V) : Prop := dW env ops o ∧ cU P (ah I env) (M a) o.op = some (v, M (a + 1))
theorem WA.congr {o : Oper} {env : List V} {d : Option Tmp} {x v : V} {a : Nat} (h : ∀ t, d = some t → t ∉ o.looksAt ops) : WA P I ops M o (aK env d x) a v ↔ WA P I ops M o env a v := by
 cases d with
 | none => rfl
 | some t =>
  have h := h t rfl
  unfold WA
  have he : ∀ y ∈ o.op.operands, ah I (env.set t x) y = ah I env y := fun y hy => oL (qR h y hy)
  have hw : dW (env.set t x) ops o ↔ dW env ops o := by
   unfold dW
   constructor
   ·rintro (h1 | ⟨j, t, h1, h2⟩)
    ·exact .inl h1
    ·exact .inr ⟨j, t, h1, by rw [← eG (dJ h h1)]; exact h2⟩
   ·rintro (h1 | ⟨j, t, h1, h2⟩)
    ·exact .inl h1
    ·exact .inr ⟨j, t, h1, by rw [eG (dJ h h1)]; exact h2⟩
  show dW (env.set t x) ops o ∧ cU P (ah I (env.set t x)) (M a) o.op = _ ↔ _
  rw [hw, oM o.op he]
theorem Ko (env : List V) (d : Option Tmp) (v : V) : (aK env d v).length = env.length := by
 cases d with
 | none => rfl
 | some t => simp [aK]
theorem QA.len {o : Oper} {env cr : List V} (h : QA P I ops M o env cr) : cr.length = env.length := by
 obtain ⟨v, _, rfl⟩ := h 0
 exact Ko _ _ _
def qU (ops : Array Oper) (listed : Array Bool) (i : Nat) (oi : Oper) : Prop := ∀ j oj, ops[j]? = some oj → j ≠ i → listed.getD j true = false → (∀ e ∈ oj.after, Region.binds .any e = true → e.on ≠ i) → oi.apart ops oj = true
theorem qU.next {listed : Array Bool} {i j : Nat} {oi : Oper} (h : qU ops listed i oi) (hj : listed.getD j true = false) : qU ops (listed.setIfInBounds j true) i oi := fun k ok hk lU kV zB => by
 refine h k ok hk lU ?_ zB
 by_cases oN : j = k
 ·subst oN; exact hj
 ·rw [getD_set_ne true oN] at kV; exact kV
theorem qU.apart {listed : Array Bool} {i j : Nat} {oi oj : Oper} (h : qU ops listed i oi) (hr : i ∈ Region.ready .any ops listed) (hj : j ∈ Region.ready .any ops listed) (fh : j ≠ i) (iX : ops[j]? = some oj) :
 (∀ d, oi.dst = some d → d ∉ oj.looksAt ops) ∧ (∀ d, oi.dst = some d → oj.dst ≠ some d) ∧ (∀ d, oj.dst = some d → d ∉ oi.looksAt ops) := by
 obtain ⟨kj, QX, kn, iL⟩ := mem_ready.1 hj
 rw [iX] at kn
 obtain rfl := Option.some.inj kn
 refine Oper.apart_spec (h j oj iX fh kj fun e he hb heq => ?_)
 have h1 := iL e he hb
 have h0 := (mem_ready.1 hr).1
 rw [heq] at h1
 rcases Nat.lt_or_ge i listed.size with h' | h'
 ·simp [h'] at h0 h1; rw [h0] at h1; cases h1
 ·simp [Array.getElem?_eq_none h'] at h1
variable {K : List V → Mem → Prop}
def vb (ops : Array Oper) (W : List Nat) (listed : Array Bool) (i : Nat) : Prop := ∀ j oj, ops[j]? = some oj → W.contains j = true → j ≠ i → listed.getD j true = false → ∃ e ∈ oj.after, Region.binds .any e = true ∧ W.contains e.on = true ∧ listed.getD e.on true = false
end
set_option linter.unusedVariables false
section
variable {P : Program} {I : Inv} {ops : Array Oper} {W : List Nat} {MM : Mem → Prop}
def pO (P : Program) (I : Inv) (o : Oper) (env : List V) (S : Mem) (Q : V → Mem → Prop) : Prop :=
 ∀ (c : Cx) (w : World) (ev : Operand → Value), dc c w S → c.I = I → (∀ y ∈ o.op.operands, VR c w (ah I env y) (ev y)) → ∃ x w' c' v S', (execOp ev o).run P w = .ok (.value x) w' ∧ Q v S' ∧ dc c' w' S' ∧ Ext c w c' w' ∧ VR c' w' v x
theorem pO.congr {o : Oper} {env cr : List V} {S : Mem} {Q : V → Mem → Prop} (he : ∀ y ∈ o.op.operands, ah I cr y = ah I env y) : pO P I o cr S Q ↔ pO P I o env S Q := by
 constructor
 ·exact fun h c w ev h1 h2 h3 => h c w ev h1 h2 fun y hy => by rw [he y hy]; exact h3 y hy
 ·exact fun h c w ev h1 h2 h3 => h c w ev h1 h2 fun y hy => by rw [← he y hy]; exact h3 y hy
theorem pO.step {z : Nat × Nat} {fn : FuncId} {k : List Item} {R : V → Mem → Prop} {i : Nat} {rest : List Nat} {o : Oper} {env : List V} {S : Mem} {Q : V → Mem → Prop} (ho : ops[i]? = some o) (hw : dW env ops o) (h : pO P I o env S Q) (hk : ∀ v S', Q v S' → af P I z fn (.inRegion ops rest :: k) (aK env o.dst v) S' R) : af P I z fn (.inRegion ops (i :: rest) :: k) env S R := by
 intro b a c w c0 w0 h1 h2 h3 h4 h5 h6 hI
 obtain ⟨x, w', c', v, S', aX, hQ, sr, uW, hv⟩ := h c w a.eval h5 hI.1 fun y _ => by
  have := cl.eval h5 h4 y
  rwa [hI.1] at this
 have hg := fun cs => stepG_op (P := P) (b := b) (k := k) (cs := cs) (w := w) (rest := rest) ho (qP h4 hw)
 have hs : ∀ cs, Go.step P (lone (b.at a (.inRegion ops (i :: rest) :: k)) cs w) = .next (lone (b.at (a.put o.dst x) (.inRegion ops rest :: k)) cs w') := by
  intro cs
  refine step_lone_go ?_
  have gJ : (b.at a (.inRegion ops (i :: rest) :: k)).finish x = b.at (a.put o.dst x) (.inRegion ops rest :: k) := by rw [Frame.finish_at, ho]; rfl
  rw [hg cs, ← gJ]
  simp [stepG.apply, aX]
 refine xh.step hs (hk v S' hQ b (a.put o.dst x) c' w' c0 w0 h1 h2 ?_ ?_ sr (h6.trans uW) ⟨uW.I.trans hI.1, hI.2⟩)
 ·cases o.dst <;> simpa [Act.put] using h3
 ·exact (h4.ext uW).put o.dst hv
def WO (P : Program) (I : Inv) (o : Oper) (env : List V) (S : Mem) (Q : V → Mem → Prop) : Prop :=
 (∃ v S', cU P (ah I env) S o.op = some (v, S') ∧ Q v S') ∨ (∃ q f g first caps, o.op = .call q ∧ q.callee = .value f ∧ ah I env f = .func g first caps ∧ aD P I g (first ++ q.args.toList.map (ah I env) ++ caps) S Q) ∨ pO P I o env S Q
theorem WO.congr {o : Oper} {env : List V} {d : Option Tmp} {x : V} {S : Mem} {Q : V → Mem → Prop} (h : ∀ t, d = some t → t ∉ o.looksAt ops) : WO P I o (aK env d x) S Q ↔ WO P I o env S Q := by
 cases d with
 | none => rfl
 | some t =>
  have h := h t rfl
  have he : ∀ y ∈ o.op.operands, ah I (env.set t x) y = ah I env y := fun y hy => oL (qR h y hy)
  unfold WO
  show (∃ v S', cU P (ah I (env.set t x)) S o.op = some (v, S') ∧ Q v S') ∨ _ ↔ _
  rw [oM o.op he]
  refine or_congr Iff.rfl (or_congr ?_ (pO.congr he))
  refine exists_congr fun q => exists_congr fun f => exists_congr fun g => exists_congr fun first => exists_congr fun caps => ?_
  constructor
  ·rintro ⟨h1, h2, h3, h4⟩
   have nF : ∀ y ∈ q.operands, ah I (env.set t x) y = ah I env y := fun y hy => he y (by rw [h1]; exact hy)
   have h5 : q.args.toList.map (ah I (env.set t x)) = q.args.toList.map (ah I env) := List.map_congr_left fun y hy => nF y (by unfold Call.operands; simp only [Array.mem_append]; exact .inr (by simpa using hy))
   have h6 : ah I (env.set t x) f = ah I env f := nF f (by unfold Call.operands; rw [h2]; simp)
   exact ⟨h1, h2, by rw [← h6]; exact h3, by rw [← h5]; exact h4⟩
  ·rintro ⟨h1, h2, h3, h4⟩
   have nF : ∀ y ∈ q.operands, ah I (env.set t x) y = ah I env y := fun y hy => he y (by rw [h1]; exact hy)
   have h5 : q.args.toList.map (ah I (env.set t x)) = q.args.toList.map (ah I env) := List.map_congr_left fun y hy => nF y (by unfold Call.operands; simp only [Array.mem_append]; exact .inr (by simpa using hy))
   have h6 : ah I (env.set t x) f = ah I env f := nF f (by unfold Call.operands; rw [h2]; simp)
   exact ⟨h1, h2, by show ah I (env.set t x) f = _; rw [h6]; exact h3, by show aD P I g (first ++ q.args.toList.map (ah I (env.set t x)) ++ caps) S Q; rw [h5]; exact h4⟩
def WG (P : Program) (I : Inv) (ops : Array Oper) (o : Oper) (env : List V) (S : Mem) (Q : V → Mem → Prop) : Prop := (dW env ops o ∧ WO P I o env S Q) ∨ (nS env ops o ∧ Q (.bZ []) S)
theorem WG.congr {o : Oper} {env : List V} {d : Option Tmp} {x : V} {S : Mem} {Q : V → Mem → Prop} (h : ∀ t, d = some t → t ∉ o.looksAt ops) : WG P I ops o (aK env d x) S Q ↔ WG P I ops o env S Q := by
 cases d with
 | none => rfl
 | some t => exact or_congr (and_congr (nW (h t rfl)) (WO.congr h)) (and_congr (nX (h t rfl)) Iff.rfl)
def WC (P : Program) (I : Inv) (ops : Array Oper) (o : Oper) (env : List V) (S : Mem) (K : V → Mem → Prop) : Prop := ∃ Q, (∃ v S', Q v S') ∧ WG P I ops o env S Q ∧ ∀ v S', Q v S' → K v S'
def QC (P : Program) (I : Inv) (ops : Array Oper) (MM : Mem → Prop) (o : Oper) (env : List V) (v : V) : Prop := (dW env ops o ∧ ∀ S, MM S → cU P (ah I env) S o.op = some (v, S)) ∨ (nS env ops o ∧ v = .bZ [])
theorem QC.congr {o : Oper} {env : List V} {d : Option Tmp} {x v : V} (h : ∀ t, d = some t → t ∉ o.looksAt ops) : QC P I ops MM o (aK env d x) v ↔ QC P I ops MM o env v := by
 cases d with
 | none => rfl
 | some t =>
  have h := h t rfl
  have he : ∀ y ∈ o.op.operands, ah I (env.set t x) y = ah I env y := fun y hy => oL (qR h y hy)
  refine or_congr (and_congr (nW h) (forall_congr' fun S => ?_)) (and_congr (nX h) Iff.rfl)
  show (MM S → cU P (ah I (env.set t x)) S o.op = _) ↔ _
  rw [oM o.op he]
theorem QC.one {o : Oper} {env : List V} {v u : V} {S : Mem} (hS : MM S) (h : QC P I ops MM o env v) (h' : QC P I ops MM o env u) : v = u := by
 rcases h with ⟨a, h⟩ | ⟨a, h⟩ <;> rcases h' with ⟨b, h'⟩ | ⟨b, h'⟩
 ·have h1 := h S hS
  rw [h' S hS] at h1
  cases h1
  rfl
 ·exact (tv a b).elim
 ·exact (tv b a).elim
 ·rw [h, h']
def jI (P : Program) (I : Inv) (ops : Array Oper) (W : List Nat) (MM : Mem → Prop) (K : List V → Mem → Prop) : Nat → Array Bool → List V → Mem → Prop
 | 0, listed, env, S => MM S ∧ Region.ready .any ops listed = [] ∧ K env S
 | n + 1, listed, env, S => MM S ∧ (Region.ready .any ops listed = [] → K env S) ∧ ∀ i ∈ Region.ready .any ops listed, ∃ o, ops[i]? = some o ∧
  ((W.contains i = true ∧ WC P I ops o env S fun v S' => jI P I ops W MM K n (listed.setIfInBounds i true) (aK env o.dst v) S') ∨
   (W.contains i = false ∧ ∃ v, QC P I ops MM o env v ∧ jI P I ops W MM K n (listed.setIfInBounds i true) (aK env o.dst v) S))
variable {K : List V → Mem → Prop}
theorem jI.in : ∀ {n : Nat} {listed : Array Bool} {env : List V} {S : Mem}, jI P I ops W MM K n listed env S → MM S
 | 0, _, _, _, h => h.1
 | _ + 1, _, _, _, h => h.1
theorem qi {i : Nat} {oi : Oper} (hi : ops[i]? = some oi) (hq : W.contains i = false) {v : V} : ∀ (n : Nat) (listed : Array Bool) (env : List V) (S : Mem), qU ops listed i oi → i ∈ Region.ready .any ops listed → QC P I ops MM oi env v → jI P I ops W MM K n (listed.setIfInBounds i true) (aK env oi.dst v) S → jI P I ops W MM K (n + 1) listed env S := by
 intro n
 induction n with
 | zero =>
  intro listed env S _ hr hy H
  refine ⟨H.in, fun h => (by rw [h] at hr; cases hr), fun j hj => ?_⟩
  by_cases fh : j = i
  ·subst fh; exact ⟨oi, hi, .inr ⟨hq, v, hy, H⟩⟩
  ·have := ready_mono hj fh
   rw [H.2.1] at this
   cases this
 | succ n ih =>
  intro listed env S fO hr hy H
  refine ⟨H.in, fun h => (by rw [h] at hr; cases hr), fun j hj => ?_⟩
  by_cases fh : j = i
  ·subst fh; exact ⟨oi, hi, .inr ⟨hq, v, hy, H⟩⟩
  obtain ⟨oj, iX, hH⟩ := H.2.2 j (ready_mono hj fh)
  have kj := (mem_ready.1 hj).1
  obtain ⟨a1, a2, a3⟩ := fO.apart hr hj fh iX
  have mL := ready_mono hr (Ne.symm fh)
  rcases hH with ⟨oQ, Q, bV, Hl, hk⟩ | ⟨oQ, u, Mz, h1⟩
  ·refine ⟨oj, iX, .inl ⟨oQ, Q, bV, (WG.congr a1).1 Hl, fun u S' hQ => ?_⟩⟩
   refine ih (listed.setIfInBounds j true) (aK env oj.dst u) S' (fO.next kj) mL ((QC.congr a3).2 hy) ?_
   rw [Array.setIfInBounds_comm _ _ fh, ← gU env v u a2]
   exact hk u S' hQ
  ·refine ⟨oj, iX, .inr ⟨oQ, u, (QC.congr a1).1 Mz, ih (listed.setIfInBounds j true) (aK env oj.dst u) S (fO.next kj) mL ((QC.congr a3).2 hy) ?_⟩⟩
   rw [Array.setIfInBounds_comm _ _ fh, ← gU env v u a2]
   exact h1
def pP (ops : Array Oper) (k : Nat) (acc : List Nat) (j : Nat) : List Nat :=
 cond (Nat.ble j k) acc (match ops[j]? with
  | some o => cond (o.after.any fun e => Region.binds .any e && acc.contains e.on) (j :: acc) acc
  | none => acc)
def desc (ops : Array Oper) (k : Nat) : List Nat := (List.range ops.size).foldl (pP ops k) [k]
def Eb (ops : Array Oper) (W : List Nat) : Bool := (W.all fun k => Nat.ble (k + 1) ops.size) && W.all fun k => W.all fun j => Nat.ble j k || (desc ops k).contains j
theorem xX (k : Nat) : ∀ (l acc : List Nat), (∀ j ∈ acc, j = k ∨ (k < j ∧ ∃ oj, ops[j]? = some oj ∧ ∃ e ∈ oj.after, Region.binds .any e = true ∧ e.on ∈ acc)) →
 ∀ j ∈ l.foldl (pP ops k) acc, j = k ∨ (k < j ∧ ∃ oj, ops[j]? = some oj ∧ ∃ e ∈ oj.after, Region.binds .any e = true ∧ e.on ∈ l.foldl (pP ops k) acc)
 | [], _, h => h
 | q :: l, acc, h => by
  refine xX k l (pP ops k acc q) fun j hj => ?_
  have ue : ∀ x ∈ acc, x ∈ pP ops k acc q := by
   intro x hx
   unfold pP
   cases Nat.ble q k with
   | true => exact hx
   | false =>
    simp only [cond_false]
    split
    ·rename_i o _
     cases (o.after.any fun e => Region.binds .any e && acc.contains e.on) with
     | true => exact List.mem_cons_of_mem _ hx
     | false => exact hx
    ·exact hx
  have hold : j ∈ acc → j = k ∨ (k < j ∧ ∃ oj, ops[j]? = some oj ∧ ∃ e ∈ oj.after, Region.binds .any e = true ∧ e.on ∈ pP ops k acc q) := fun hj => (h j hj).imp_right fun ⟨h1, oj, h2, e, h3, h4, h5⟩ => ⟨h1, oj, h2, e, h3, h4, ue _ h5⟩
  by_cases Q4 : j ∈ acc
  ·exact hold Q4
  have Tp := hj
  unfold pP at hj
  cases hb : Nat.ble q k with
  | true => rw [hb] at hj; exact absurd hj Q4
  | false =>
   rw [hb] at hj
   simp only [cond_false] at hj
   split at hj
   ·rename_i o ho
    cases ha : (o.after.any fun e => Region.binds .any e && acc.contains e.on) with
    | false => rw [ha] at hj; exact absurd hj Q4
    | true =>
     rw [ha] at hj
     rcases List.mem_cons.1 hj with rfl | hj
     ·rw [Array.any_eq_true] at ha
      obtain ⟨e, Ec, h3⟩ := ha
      rw [Bool.and_eq_true] at h3
      refine .inr ⟨?_, o, ho, o.after[e], Array.getElem_mem Ec, h3.1, ue _ (List.contains_iff_mem.1 h3.2)⟩
      rcases Nat.lt_or_ge k j with h' | h'
      ·exact h'
      ·rw [Nat.ble_eq_true_of_le h'] at hb; cases hb
     ·exact absurd hj Q4
   ·exact absurd hj Q4
theorem qV {k j : Nat} (h : j ∈ desc ops k) : j = k ∨ (k < j ∧ ∃ oj, ops[j]? = some oj ∧ ∃ e ∈ oj.after, Region.binds .any e = true ∧ e.on ∈ desc ops k) :=
 xX k _ _ (fun j hj => .inl (List.mem_singleton.1 hj)) j h
theorem Ed {k : Nat} {listed : Array Bool} (hk : k < ops.size) (ux : ∀ j, j < ops.size → listed.getD j true = decide (j < k)) : vb ops (desc ops k) listed k := by
 intro j oj iX hj oN _
 rcases qV (List.contains_iff_mem.1 hj) with rfl | ⟨_, QX, kn, e, he, hb, Nt⟩
 ·exact absurd rfl oN
 rw [iX] at kn
 obtain rfl := Option.some.inj kn
 refine ⟨e, he, hb, List.contains_iff_mem.2 Nt, ?_⟩
 rcases qV Nt with h | ⟨h, oe, V1, _⟩
 ·rw [h, ux k hk]; exact decide_eq_false (Nat.lt_irrefl k)
 ·rw [ux _ (Array.getElem?_eq_some_iff.1 V1).1]; exact decide_eq_false (by omega)
theorem Kp {W : List Nat} {k : Nat} {listed : Array Bool} (MA : (W.all fun k => W.all fun j => Nat.ble j k || (desc ops k).contains j) = true) (hw : W.contains k = true) (ux : ∀ j, j < ops.size → listed.getD j true = decide (j < k)) :
 ∀ j oj, ops[j]? = some oj → W.contains j = true → listed.getD j true = false → j = k ∨ (desc ops k).contains j = true := by
 intro j oj iX oQ kV
 rw [ux j (Array.getElem?_eq_some_iff.1 iX).1] at kV
 have Xu := of_decide_eq_false kV
 have h1 := List.all_eq_true.1 (List.all_eq_true.1 MA k (List.contains_iff_mem.1 hw)) j (List.contains_iff_mem.1 oQ)
 rw [Bool.or_eq_true] at h1
 rcases h1 with h | h
 ·exact .inl (by have := Nat.le_of_ble_eq_true h; omega)
 ·exact .inr h
theorem vb.next {U : List Nat} {listed : Array Bool} {i j : Nat} {oj : Oper} (h : vb ops U listed i) (iL : ∀ e ∈ oj.after, Region.binds .any e = true → listed.getD e.on false = true) (iX : ops[j]? = some oj) (fh : j ≠ i) (kj : listed.getD j true = false) : vb ops U (listed.setIfInBounds j true) i := by
 intro k ok hk Jz lU kV
 by_cases oN : j = k
 ·subst oN
  rw [iX] at hk
  obtain rfl := Option.some.inj hk
  obtain ⟨e, he, hb, _, JA⟩ := h j oj iX Jz fh kj
  have h1 := iL e he hb
  rcases Nat.lt_or_ge e.on listed.size with h' | h'
  ·simp [h'] at JA h1; rw [JA] at h1; cases h1
  ·simp [Array.getElem?_eq_none h'] at h1
 ·rw [getD_set_ne true oN] at kV
  obtain ⟨e, he, hb, ZL, JA⟩ := h k ok hk Jz lU kV
  refine ⟨e, he, hb, ZL, ?_⟩
  have bV : j ≠ e.on := by
   intro hje
   obtain ⟨e2, J8, pe, _, TQ⟩ := h j oj iX (by rw [hje]; exact ZL) fh kj
   have h1 := iL e2 J8 pe
   rcases Nat.lt_or_ge e2.on listed.size with h' | h'
   ·simp [h'] at TQ h1; rw [TQ] at h1; cases h1
   ·simp [Array.getElem?_eq_none h'] at h1
  rw [getD_set_ne true bV]
  exact JA
theorem Ee {U : List Nat} {i : Nat} {oi : Oper} (hi : ops[i]? = some oi) (hq : W.contains i = true) : ∀ (n : Nat) (listed : Array Bool) (env : List V) (S : Mem), MM S → qU ops listed i oi → vb ops U listed i → (∀ j oj, ops[j]? = some oj → W.contains j = true → listed.getD j true = false → j = i ∨ U.contains j = true) → i ∈ Region.ready .any ops listed → WC P I ops oi env S (fun v S' => jI P I ops W MM K n (listed.setIfInBounds i true) (aK env oi.dst v) S') → jI P I ops W MM K (n + 1) listed env S := by
 intro n
 induction n with
 | zero =>
  intro listed env S hS _ _ _ hr hy
  refine ⟨hS, fun h => (by rw [h] at hr; cases hr), fun j hj => ?_⟩
  by_cases fh : j = i
  ·subst fh; exact ⟨oi, hi, .inl ⟨hq, hy⟩⟩
  ·have := ready_mono hj fh
   obtain ⟨Q, ⟨v0, S0, h0⟩, _, hk⟩ := hy
   rw [(hk v0 S0 h0).2.1] at this
   cases this
 | succ n ih =>
  intro listed env S hS fO Bt TR hr hy
  refine ⟨hS, fun h => (by rw [h] at hr; cases hr), fun j hj => ?_⟩
  by_cases fh : j = i
  ·subst fh; exact ⟨oi, hi, .inl ⟨hq, hy⟩⟩
  obtain ⟨Q, ⟨v0, S0, h0⟩, Hl, hk⟩ := hy
  obtain ⟨oj, iX, hH⟩ := (hk v0 S0 h0).2.2 j (ready_mono hj fh)
  obtain ⟨kj, QX, kn, iL⟩ := mem_ready.1 hj
  rw [iX] at kn
  obtain rfl := Option.some.inj kn
  obtain ⟨a1, a2, a3⟩ := fO.apart hr hj fh iX
  have mL := ready_mono hr (Ne.symm fh)
  rcases hH with ⟨oQ, _⟩ | ⟨oQ, u, Mz, _⟩
  ·obtain ⟨e, he, hb, _, kV⟩ := Bt j oj iX ((TR j oj iX oQ kj).resolve_left fh) fh kj
   have h1 := iL e he hb
   rcases Nat.lt_or_ge e.on listed.size with h' | h'
   ·simp [h'] at kV h1; rw [kV] at h1; cases h1
   ·simp [Array.getElem?_eq_none h'] at h1
  ·have Bu := (QC.congr a1).1 Mz
   refine ⟨oj, iX, .inr ⟨oQ, u, Bu, ih (listed.setIfInBounds j true) (aK env oj.dst u) S hS (fO.next kj) (Bt.next iL iX fh kj) (fun k ok hk Jz kV => ?_) mL ⟨Q, ⟨v0, S0, h0⟩, (WG.congr a3).2 Hl, fun v S' hQ => ?_⟩⟩⟩
   ·by_cases oN : j = k
    ·subst oN
     rw [oQ] at Jz; cases Jz
    ·rw [getD_set_ne true oN] at kV
     exact TR k ok hk Jz kV
   ·obtain ⟨QX, kn, Xv⟩ := (hk v S' hQ).2.2 j (ready_mono hj fh)
    rw [iX] at kn
    obtain rfl := Option.some.inj kn
    rcases Xv with ⟨Kq, _⟩ | ⟨_, u', Bu, h1⟩
    ·rw [oQ] at Kq; cases Kq
    ·have e := QC.one hS Bu ((QC.congr a1).2 ((QC.congr a1).1 Mz))
     have e2 : QC P I ops MM oj env u' := (QC.congr a1).1 Bu
     have e3 := QC.one hS e2 ((QC.congr a1).1 Mz)
     subst e3
     rw [Array.setIfInBounds_comm _ _ fh, ← gU env v u' a2]
     exact h1
def zE (P : Program) (I : Inv) (ops : Array Oper) (W : List Nat) (MM : Mem → Prop) (K : List V → Mem → Prop) : List Oper → Nat → List V → Mem → Prop
 | [], _, env, S => MM S ∧ K env S
 | o :: l, k, env, S => (W.contains k = true → MM S ∧ WC P I ops o env S fun v S' => zE P I ops W MM K l (k + 1) (aK env o.dst v) S') ∧
  (W.contains k = false → ∃ v, QC P I ops MM o env v ∧ zE P I ops W MM K l (k + 1) (aK env o.dst v) S)
theorem vc (Sz : (W.all fun k => Nat.ble (k + 1) ops.size) = true) (MA : (W.all fun k => W.all fun j => Nat.ble j k || (desc ops k).contains j) = true) : ∀ (l : List Oper) (k : Nat) (listed : Array Bool) (env : List V) (S : Mem), (∀ j, l[j]? = ops[k + j]?) → (∀ j, j < ops.size → listed.getD j true = decide (j < k)) →
 Region.lexFrom .any ops l.length k listed = true → zE P I ops W MM K l k env S → jI P I ops W MM K l.length listed env S
 | [], _, _, _, _, _, _, hB, h => ⟨h.1, by simpa [Region.lexFrom] using hB, h.2⟩
 | o :: l, k, listed, env, S, hl, ux, hB, h => by
  have h0 : ops[k]? = some o := by simpa using (hl 0).symm
  have hk := (Array.getElem?_eq_some_iff.1 h0).1
  simp only [List.length_cons, Region.lexFrom, Bool.and_eq_true] at hB
  obtain ⟨⟨hr, hf⟩, Mx⟩ := hB
  have Bv : ∀ j, j < ops.size → (listed.setIfInBounds k true).getD j true = decide (j < k + 1) := by
   intro j hj
   by_cases oN : k = j
   ·subst oN
    have : decide (k < k + 1) = true := decide_eq_true (by omega)
    rw [this]
    by_cases hs : k < listed.size <;> simp [hs]
   ·rw [getD_set_ne true oN, ux j hj]
    exact decide_eq_decide.2 (by omega)
  have fO : qU ops listed k o := Region.free_spec h0 hf
  cases hw : W.contains k with
  | true =>
   obtain ⟨hS, Q, bV, Hl, hK⟩ := h.1 hw
   exact Ee h0 hw l.length listed env S hS fO (Ed hk ux) (Kp MA hw ux) (by simpa using hr) ⟨Q, bV, Hl, fun v S' hQ => vc Sz MA l (k + 1) _ _ _ (fun j => by have := hl (j + 1); simpa [Nat.add_assoc, Nat.add_comm 1 j] using this) Bv Mx (hK v S' hQ)⟩
  | false =>
   obtain ⟨v, hv, hK⟩ := h.2 hw
   exact qi h0 hw l.length listed env S fO (by simpa using hr) hv (vc Sz MA l (k + 1) _ _ _ (fun j => by have := hl (j + 1); simpa [Nat.add_assoc, Nat.add_comm 1 j] using this) Bv Mx hK)
theorem WG.step {z : Nat × Nat} {fn : FuncId} {k : List Item} {R : V → Mem → Prop} {i : Nat} {rest : List Nat} {o : Oper} {env : List V} {S : Mem} {Q : V → Mem → Prop} (ho : ops[i]? = some o) (hw : WG P I ops o env S Q) (h : ∀ v S', Q v S' → af P I z fn (.inRegion ops rest :: k) (aK env o.dst v) S' R) : af P I z fn (.inRegion ops (i :: rest) :: k) env S R := by
 rcases hw with ⟨hg, hw⟩ | ⟨hg, hw⟩
 ·rcases hw with ⟨v, S', h1, h2⟩ | ⟨q, f, g, first, caps, h1, h2, h3, h4⟩ | hr
  ·exact .op ho hg h1 (h v S' h2)
  ·exact .call ho hg h1 h2 h3 (h4.mono fun v S' hQ => h v S' hQ)
  ·exact hr.step ho hg h
 ·exact .mG ho hg (h _ _ hw)
theorem QC.step {z : Nat × Nat} {fn : FuncId} {k : List Item} {R : V → Mem → Prop} {i : Nat} {rest : List Nat} {o : Oper} {env : List V} {S : Mem} {v : V} (ho : ops[i]? = some o) (hS : MM S) (hy : QC P I ops MM o env v) (h : af P I z fn (.inRegion ops rest :: k) (aK env o.dst v) S R) : af P I z fn (.inRegion ops (i :: rest) :: k) env S R := by
 rcases hy with ⟨hg, hy⟩ | ⟨hg, rfl⟩
 ·exact .op ho hg (hy S hS) h
 ·exact .mG ho hg h
theorem qW {z : Nat × Nat} {fn : FuncId} {k : List Item} {R : V → Mem → Prop} : ∀ (n t : Nat) (listed : Array Bool) (env : List V) (S : Mem), jI P I ops W MM (fun env S => af P I z fn k env S R) n listed env S → af P I z fn (.inRegion ops (Region.linearise.go .any ops n t listed []) :: k) env S R
 | 0, t, listed, env, S, h => by
  simp only [Region.linearise.go, List.reverse_nil]
  exact .iV h.2.2
 | n + 1, t, listed, env, S, h => by
  obtain ⟨hS, h₀, h₁⟩ := h
  simp only [Region.linearise.go]
  change af P I z fn (.inRegion ops (match (Region.ready .any ops listed)[t % (Region.ready .any ops listed).length]? with
   | some i => Region.linearise.go .any ops n (t / (Region.ready .any ops listed).length) (listed.setIfInBounds i true) [i]
   | none => [].reverse) :: k) env S R
  cases hi : (Region.ready .any ops listed)[t % (Region.ready .any ops listed).length]? with
  | none =>
   have qd : Region.ready .any ops listed = [] := by
    cases hr : Region.ready .any ops listed with
    | nil => rfl
    | cons x xs =>
     rw [hr] at hi
     have au : t % (x :: xs).length < (x :: xs).length := Nat.mod_lt _ (by simp)
     simp at hi
     simp at au
     omega
   exact .iV (h₀ qd)
  | some i =>
   simp only []
   rw [linearise_go_acc, List.reverse_singleton, List.singleton_append]
   obtain ⟨o, ho, ⟨_, Q, _, Hl, hn⟩ | ⟨_, v, hy, hn⟩⟩ := h₁ i (List.mem_of_getElem? hi)
   ·exact Hl.step ho fun v S' hQ => qW n _ _ _ _ (hn v S' hQ)
   ·exact hy.step ho hS (qW n _ _ _ _ hn)
end
section
variable {P : Program} {I : Inv} {ops : Array Oper} {W : List Nat} {MM : Mem → Prop} {p : Nat}
def Nu (P : Program) (I : Inv) (ops : Array Oper) (W : List Nat) (p : Nat) (MM : Mem → Prop) (K : Array Bool → List V → Mem → Prop) : Nat → Array Bool → List V → Mem → Prop
 | 0, listed, env, S => MM S ∧ (∀ i ∈ Region.ready .any ops listed, p ≤ i) ∧ K listed env S
 | n + 1, listed, env, S => MM S ∧ Region.ready .any ops listed ≠ [] ∧ ∀ i ∈ Region.ready .any ops listed, i < p ∧ ∃ o, ops[i]? = some o ∧
  ((W.contains i = true ∧ WC P I ops o env S fun v S' => Nu P I ops W p MM K n (listed.setIfInBounds i true) (aK env o.dst v) S') ∨
   (W.contains i = false ∧ ∃ v, QC P I ops MM o env v ∧ Nu P I ops W p MM K n (listed.setIfInBounds i true) (aK env o.dst v) S))
variable {K : Array Bool → List V → Mem → Prop}
theorem Nu.in : ∀ {n : Nat} {listed : Array Bool} {env : List V} {S : Mem}, Nu P I ops W p MM K n listed env S → MM S
 | 0, _, _, _, h => h.1
 | _ + 1, _, _, _, h => h.1
end
def ef (c : Cx) (w : World) (vs : List V) (l : List Value) : Prop := l.length = vs.length ∧ ∀ (j : Nat) (v : V), vs[j]? = some v → ∃ x, l[j]? = some x ∧ VR c w v x ∧ x.oneCell' = true
section
variable {P : Program} {c : Cx} {w : World} {S : Mem}
theorem ef.nil : ef c w [] [] := ⟨rfl, fun j v h => by simp at h⟩
theorem ef.append {a b : List V} {A B : List Value} (h : ef c w a A) (k : ef c w b B) : ef c w (a ++ b) (A ++ B) := by
 refine ⟨by simp [h.1, k.1], fun j v hv => ?_⟩
 rcases Nat.lt_or_ge j a.length with h' | h'
 ·rw [List.getElem?_append_left h'] at hv
  rw [List.getElem?_append_left (by rw [h.1]; exact h')]
  exact h.2 j v hv
 ·rw [List.getElem?_append_right h'] at hv
  rw [List.getElem?_append_right (by rw [h.1]; exact h'), h.1]
  exact k.2 _ v hv
theorem ef.take {a : List V} {A : List Value} (h : ef c w a A) (n : Nat) : ef c w (a.take n) (A.take n) := by
 refine ⟨by simp [h.1], fun j v hv => ?_⟩
 rw [List.getElem?_take] at hv ⊢
 split at hv
 ·rename_i au
  rw [if_pos au]
  exact h.2 j v hv
 ·cases hv
theorem ef.drop {a : List V} {A : List Value} (h : ef c w a A) (n : Nat) : ef c w (a.drop n) (A.drop n) := by
 refine ⟨by simp [h.1], fun j v hv => ?_⟩
 rw [List.getElem?_drop] at hv ⊢
 exact h.2 _ v hv
theorem ef.dZ {c' : Cx} {w' : World} (hk : gR c w c' w') {a : List V} {A : List Value} (h : ef c w a A) : ef c' w' a A := ⟨h.1, fun j v hv => by
 obtain ⟨x, h1, h2, h3⟩ := h.2 j v hv
 exact ⟨x, h1, h2.dZ hk, h3⟩⟩
theorem ef.at {a : List V} {A : List Value} (h : ef c w a A) (j : Nat) (hj : j < a.length) : VR c w a[j] (A.toArray.getD j undef) ∧ (A.toArray.getD j undef).oneCell' = true := by
 obtain ⟨x, h1, h2⟩ := h.2 j a[j] (List.getElem?_eq_getElem hj)
 obtain ⟨hl, rfl⟩ := List.getElem?_eq_some_iff.1 h1
 rw [fI hl]
 exact h2
def qj (n sz : Nat) (G : List (List V)) (rows : List (List D)) (v : V) : Prop :=
 (G = [] ∧ rows = [] ∧ v = .sl [] .full) ∨ ∃ G0 cap, G = G0 ++ [rows.flatten.map .d ++ List.replicate ((cap - rows.length) * sz) .undef] ∧ v = .bx (n + G0.length) rows.length cap ∧ cV sz rows = true ∧ (∀ vs ∈ G0, vs.all (fit 0 0) = true) ∧ rows.length ≤ cap
theorem Kr (rows : List (List D)) (k : Nat) : (rows.flatten.map V.d ++ List.replicate k V.undef).all (fit 0 0) = true := by
 rw [List.all_eq_true]
 intro v hv
 rcases List.mem_append.1 hv with h | h
 ·obtain ⟨d, _, rfl⟩ := List.mem_map.1 h
  rfl
 ·obtain rfl := List.eq_of_mem_replicate h
  rfl
theorem qj.fits {n sz : Nat} {G : List (List V)} {rows : List (List D)} {v : V} (h : qj n sz G rows v) : ∀ vs ∈ G, vs.all (fit 0 0) = true := by
 rcases h with ⟨rfl, _, _⟩ | ⟨G0, cap, rfl, _, _, h, _⟩
 ·intro vs h; cases h
 ·intro vs hv
  rcases List.mem_append.1 hv with h' | h'
  ·exact h vs h'
  ·obtain rfl := List.mem_singleton.1 h'
   exact Kr _ _
theorem ve {sz : Nat} : ∀ {rows : List (List D)}, (∀ r ∈ rows, r.length = sz) → rows.flatten.length = rows.length * sz
 | [], _ => by simp
 | r :: rows, h => by
  rw [List.flatten_cons, List.length_append, h r (by simp), ve fun q hq => h q (List.mem_cons_of_mem _ hq), List.length_cons, Nat.add_mul]
  omega
theorem qX {sz : Nat} : ∀ {rows : List (List D)}, (∀ r ∈ rows, r.length = sz) → ∀ (j q : Nat) (r : List D) (d : D), rows[j]? = some r → r[q]? = some d → rows.flatten[j * sz + q]? = some d
 | [], _, j, q, r, d, h, _ => by simp at h
 | r0 :: rows, hs, j, q, r, d, h, hq => by
  have h0 := hs r0 (by simp)
  cases j with
  | zero =>
   obtain rfl : r0 = r := by simpa using h
   have := (List.getElem?_eq_some_iff.1 hq).1
   rw [List.flatten_cons, Nat.zero_mul, Nat.zero_add, List.getElem?_append_left this]
   exact hq
  | succ j =>
   have := qX (fun x hx => hs x (List.mem_cons_of_mem _ hx)) j q r d (by simpa using h) hq
   rw [List.flatten_cons, List.getElem?_append_right (by rw [h0, Nat.add_mul]; omega), h0, ← this]
   congr 1
   rw [Nat.add_mul]
   omega
theorem lW {sz : Nat} {rows : List (List D)} (h : ∀ r ∈ rows, r.length = sz) : (rows.flatten.map V.d).length = rows.length * sz := by rw [List.length_map]; exact ve h
theorem Nv {x : V} {X : Value} {r : List D} {sz : Nat} (hx : VR c w x X) (hd : mE x = some (.sl [r])) (hr : r.length = sz) : ∃ (a : Option Addr) (cap : Nat) (F : Nat → Value), X = .slice a 1 cap ∧ ef c w (r.map .d) ((List.range (1 * sz)).map F) ∧
 ∀ W : World, W.heap = w.heap → (Builtin.firstCells sz 1 X).run P W = .ok ((List.range (1 * sz)).map F).toArray W := by
 have hD := fL hx hd
 have mw : ∃ a n cap, X = .slice a n cap := by cases hD; exact ⟨_, _, _, rfl⟩
 obtain ⟨a, n, cap, rfl⟩ := mw
 obtain ⟨hn, _, _, F, hF, TG⟩ := hD.flat sz (fun q hq => by rw [List.mem_singleton.1 hq]; exact hr)
 have hn : n = 1 := hn
 subst hn
 refine ⟨a, cap, F, rfl, ⟨by simp [hr], fun j v hv => ?_⟩, fun W hW => jZ (rows := [r]) rfl hF W hW⟩
 rw [List.getElem?_map] at hv
 obtain ⟨d, hd, rfl⟩ := Option.map_eq_some_iff.1 hv
 obtain ⟨hj, rfl⟩ := List.getElem?_eq_some_iff.1 hd
 have := TG 0 (by simp) j (by simpa using hj)
 simp only [List.getElem_cons_zero, Nat.zero_mul, Nat.zero_add] at this
 exact ⟨F j, by simp [← hr, hj], .d _ _ this, this.one⟩
theorem Bw {z : Value} (h1 : ∀ u ∈ z.cells.toList, u.oneCell' = true) (sz : Nat) (h2 : z.cells.size = sz) (n : Nat) : ef c w (List.replicate (n * sz) .undef) (Builtin.zeroCells z.cells n).toList := by
 have dG : (Builtin.zeroCells z.cells n).toList.length = n * sz := by simp [size_zeroCells, h2]
 refine ⟨by rw [dG]; simp, fun j v hv => ?_⟩
 rw [List.getElem?_replicate] at hv
 split at hv
 case isFalse => cases hv
 rename_i hj
 obtain rfl := Option.some.inj hv
 have DA : j < n * z.cells.size := by rw [h2]; exact hj
 have V2 : 0 < z.cells.size := by
  rcases Nat.eq_zero_or_pos z.cells.size with h | h
  ·rw [h] at DA; omega
  ·exact h
 have hm := Nat.mod_lt j V2
 refine ⟨z.cells[j % z.cells.size], ?_, .undef _, h1 _ (by simp)⟩
 simp only [Builtin.zeroCells, Array.getElem?_toList, Array.getElem?_map]
 rw [Array.getElem?_range, if_pos DA]
 simp only [Option.map_some]
 rw [getElem!_pos z.cells (j % z.cells.size) hm]
theorem dc.grow {L : List (List V)} {T : List (Nat × Nat)} (h : dc c w ⟨L, T⟩) {ts us ty e : TypeId} {ti te ui : tc} (jF : bB P ts = some ti) (he : ti.d = .slice e) (mZ : bB P e = some te) (J7 : bB P us = some ui) (JA : ∃ k, ui.d = .slice k) (a : Option Addr) (n cap : Nat) (old : List V) (xs : List Value)
 (Nw : ef c w old xs) (hold : ∀ W : World, W.heap = w.heap → (Builtin.firstCells te.size n (.slice a n cap)).run P W = .ok xs.toArray W) (ek : ¬ n + 1 ≤ cap) (Q5 : n + 1 ≤ 9223372036854775807) {x : V} {X : Value} {r : List D} (hx : VR c w x X) (hd : mE x = some (.sl [r])) (hr : r.length = te.size) (hb : (n + 1) * te.bytes ≤ 140737488355328) :
 ∃ w' c' cj, (Builtin.append_ #[ts, us] ty #[.slice a n cap, X]).run P w = .ok (.slice (some ⟨w.heap.size, 0, none⟩) (n + 1) cj) w' ∧ n + 1 ≤ cj ∧ dc c' w' ⟨L ++ [old ++ r.map .d ++ List.replicate ((cj - (n + 1)) * te.size) .undef], T⟩ ∧ Ext c w c' w' ∧ VR c' w' (.bx L.length (n + 1) cj) (.slice (some ⟨w.heap.size, 0, none⟩) (n + 1) cj) := by
 obtain ⟨fi, d, z, h1, h2, h3, h4, h5, h6, _⟩ := aE jF
 obtain ⟨gi, d2, z2, g1, g2, g3, g4, g5, g6, g7, g8, g9, Sw⟩ := aE mZ
 obtain ⟨VY, d3, z3, u1, u2, u3, u4, u5, u6, _⟩ := aE J7
 rw [he] at h6
 obtain rfl := bN h6
 obtain ⟨ke, TS⟩ := JA
 rw [TS] at u6
 obtain rfl := bN u6
 have Ty : xd P ts e te.size te.bytes := ⟨h2, gi, z2, g1, g3, g4, g5, g8⟩
 obtain ⟨ax, Q6, F, rfl, hF, fT⟩ := Nv (P := P) hx hd hr
 obtain ⟨i, zz, k1, k2, k3, aX⟩ := mD (P := P) (w := w) (ty := ty) Ty ⟨_, u2, by simp⟩ a n cap 1 ek (.slice ax 1 Q6) xs ((List.range (1 * te.size)).map F) (fun W => by simp [Builtin.lenOf]) fT hold Q5 hb
 rw [g1] at k1
 obtain rfl := Option.some.inj k1
 rw [g3] at k2
 obtain rfl := Option.some.inj k2
 have lC := grownCap_ge w (n + 1) cap e
 have zb : grownCap w (n + 1) cap e ≤ 9223372036854775807 := grownCap_le_maxLen w (n + 1) cap e (by unfold maxLen; omega)
 unfold kg at aX
 generalize grownCap w (n + 1) cap e = cj at aX lC zb
 have GY : Below w.heap.size w w.drew := (Below.refl _ _).drew
 obtain ⟨r1, r2⟩ := h.under GY
 have vf := ((Nw.append hF).append (Bw (c := c) (w := w) Sw te.size k3 (cj - (n + 1)))).dZ r2.keeps
 have DN : xs.toArray ++ ((List.range (1 * te.size)).map F).toArray ++ Builtin.zeroCells z2.cells (cj - (n + 1)) = (xs ++ (List.range (1 * te.size)).map F ++ (Builtin.zeroCells z2.cells (cj - (n + 1))).toList).toArray := by
  apply Array.ext'
  simp
 rw [DN] at aX
 obtain ⟨q1, q2⟩ := r1.ur _ e _ (by simpa using vf.1) (vf.at)
 refine ⟨_, _, cj, aX, lC, q1, r2.trans q2, .bx _ _ _ _ ?_ lC zb ⟨_, hU.new _ _⟩⟩
 show (c.ρ ++ [w.drew.heap.size])[L.length]? = _
 rw [show L.length = c.ρ.length from h.len]
 simp
theorem qj.store {L G : List (List V)} {T : List (Nat × Nat)} {t : TypeId} {te : tc} {rows : List (List D)} {v : V} {i k cap j : Nat} {r : List D} (mZ : bB P t = some te) (h : qj L.length te.size G rows v) (hv : v = .bx i k cap) (hj : j < rows.length) (hr : r.length = te.size) :
 ∃ G', mF P ⟨L ++ G, T⟩ t (.ptr i (j * te.size)) (.agg (r.map .d)) = some (.undef, ⟨L ++ G', T⟩) ∧ qj L.length te.size G' (rows.set j r) v := by
 rcases h with ⟨rfl, rfl, h2⟩ | ⟨G0, zF, rfl, h2, Ho, V3, ek⟩
 ·exact absurd hj (by simp)
 ·rw [h2] at hv
  cases hv
  obtain ⟨J, V4⟩ : ∃ J, List.replicate ((cap - rows.length) * te.size) V.undef = J := ⟨_, rfl⟩
  rw [V4]
  have m7 := fU Ho
  have xk := lW m7
  have au := DK (sz := te.size) hj (q := 0)
  have hle : j * te.size + te.size ≤ rows.length * te.size := by
   have := Nat.mul_le_mul_right te.size (show j + 1 ≤ rows.length by omega)
   rw [Nat.add_mul] at this
   omega
  have hg : (⟨L ++ (G0 ++ [rows.flatten.map V.d ++ J]), T⟩ : Mem).boxes[L.length + G0.length]? = some (rows.flatten.map .d ++ J) := by
   show (L ++ (G0 ++ [rows.flatten.map .d ++ J]))[L.length + G0.length]? = _
   rw [← List.append_assoc, List.getElem?_append_right (by simp)]
   simp
  refine ⟨G0 ++ [(rows.set j r).flatten.map .d ++ J], ?_, .inr ⟨G0, cap, by rw [List.length_set, V4], by rw [List.length_set]; exact h2, ?_, V3, by simpa using ek⟩⟩
  ·unfold mF
   simp only [mZ, fy, hg]
   rw [if_pos ⟨by simpa using hr, by rw [List.length_append, xk]; omega⟩]
   have ku : (rows.flatten.map V.d ++ J).take (j * te.size) ++ r.map .d ++ (rows.flatten.map V.d ++ J).drop (j * te.size + (r.map V.d).length) = (rows.set j r).flatten.map .d ++ J := by
    have e1 : rows = rows.take j ++ rows[j] :: rows.drop (j + 1) := by rw [← List.drop_eq_getElem_cons hj, List.take_append_drop]
    have e2 : rows.set j r = rows.take j ++ r :: rows.drop (j + 1) := List.set_eq_take_append_cons_drop.trans (if_pos hj)
    have f1 : ((rows.take j).flatten.map V.d).length = j * te.size := by
     rw [lW (fun q hq => m7 q (List.mem_of_mem_take hq))]
     simp only [List.length_take]
     rw [Nat.min_eq_left (by omega)]
    have f2 : (rows[j].map V.d).length = te.size := by simpa using m7 _ (List.getElem_mem hj)
    rw [e2]
    conv => lhs; rw [e1]
    simp only [List.flatten_append, List.flatten_cons, List.map_append, List.append_assoc]
    generalize (rows.take j).flatten.map V.d = A at f1 ⊢
    generalize rows[j].map V.d = X at f2 ⊢
    rw [show (r.map V.d).length = te.size by simpa using hr]
    rw [List.take_append_of_le_length (by omega), List.take_of_length_le (by omega), List.drop_append, List.drop_append]
    rw [List.drop_eq_nil_of_le (by omega), List.nil_append, f1, f2, Nat.add_sub_cancel_left, List.drop_eq_nil_of_le (by omega), List.nil_append, Nat.sub_self, List.drop_zero]
   rw [ku]
   congr 3
   rw [← List.append_assoc, List.set_append_right _ _ (by simp)]
   simp
  ·simp only [cV, List.all_eq_true] at Ho ⊢
   intro q hq
   rcases List.mem_or_eq_of_mem_set hq with h | rfl
   ·exact Ho q h
   ·simpa using hr
theorem qj.load {L G : List (List V)} {T : List (Nat × Nat)} {t : TypeId} {te : tc} {rows : List (List D)} {v : V} {i k cap j : Nat} {r : List D} (mZ : bB P t = some te) (Xw : te.agg = true) (h : qj L.length te.size G rows v) (hv : v = .bx i k cap) (hj : rows[j]? = some r) : fM P ⟨L ++ G, T⟩ t (.ptr i (j * te.size)) = some (.agg (r.map .d)) := by
 obtain ⟨V5, hjr⟩ := List.getElem?_eq_some_iff.1 hj
 clear hj
 have hj := V5
 subst hjr
 rcases h with ⟨rfl, rfl, h2⟩ | ⟨G0, zF, rfl, h2, Ho, V3, ek⟩
 ·exact absurd hj (by simp)
 ·rw [h2] at hv
  cases hv
  obtain ⟨J, V4⟩ : ∃ J, List.replicate ((cap - rows.length) * te.size) V.undef = J := ⟨_, rfl⟩
  rw [V4]
  have m7 := fU Ho
  have xk := lW m7
  have hle : j * te.size + te.size ≤ rows.length * te.size := by
   have := Nat.mul_le_mul_right te.size (show j + 1 ≤ rows.length by omega)
   rw [Nat.add_mul] at this
   omega
  have hg : (⟨L ++ (G0 ++ [rows.flatten.map V.d ++ J]), T⟩ : Mem).boxes[L.length + G0.length]? = some (rows.flatten.map .d ++ J) := by
   show (L ++ (G0 ++ [rows.flatten.map .d ++ J]))[L.length + G0.length]? = _
   rw [← List.append_assoc, List.getElem?_append_right (by simp)]
   simp
  unfold fM
  simp only [mZ, hg, pK, Xw, if_true]
  rw [if_pos (by rw [List.length_append, xk]; omega)]
  congr 2
  have e1 : rows = rows.take j ++ rows[j] :: rows.drop (j + 1) := by rw [← List.drop_eq_getElem_cons hj, List.take_append_drop]
  have f1 : ((rows.take j).flatten.map V.d).length = j * te.size := by
   rw [lW (fun q hq => m7 q (List.mem_of_mem_take hq))]
   simp only [List.length_take]
   rw [Nat.min_eq_left (by omega)]
  have f2 : (rows[j].map V.d).length = te.size := by simpa using m7 _ (List.getElem_mem hj)
  conv => lhs; rw [e1]
  simp only [List.flatten_append, List.flatten_cons, List.map_append, List.append_assoc]
  generalize (rows.take j).flatten.map V.d = A at f1 ⊢
  generalize rows[j].map V.d = X at f2 ⊢
  rw [List.drop_append, List.drop_eq_nil_of_le (by omega), List.nil_append, f1, Nat.sub_self, List.drop_zero, List.take_append_of_le_length (by omega), List.take_of_length_le (by omega)]
theorem qj.lt {n sz : Nat} {G : List (List V)} {rows : List (List D)} {v : V} {i k cap : Nat} (h : qj n sz G rows v) (hv : v = .bx i k cap) : i < n + G.length := by
 rcases h with ⟨_, rfl, h2⟩ | ⟨G0, zF, rfl, h2, Ho, V3, ek⟩
 ·rw [h2] at hv; cases hv
 ·rw [h2] at hv; cases hv; simp
theorem qj.idx {t e : TypeId} {ti te : tc} {i k cap j : Nat} {q : IntKind} (jF : bB P t = some ti) (he : ti.d = .slice e) (mZ : bB P e = some te) (hj : j < k) : gS P t (.bx i k cap) (.d (.int q (j : Int))) = some (.ptr i (j * te.size)) := by
 unfold gS
 simp only [jF, mE, zh, he, mZ]
 rw [if_pos ⟨by omega, by omega⟩]
 simp
theorem qj.fE {n sz : Nat} {G : List (List V)} {rows : List (List D)} {v : V} {t e : TypeId} {ti : tc} (jF : bB P t = some ti) (he : ti.d = .slice e) (h : qj n sz G rows v) : Ab.fE P t v = some (.d (.int .i64 (rows.length : Int))) := by
 rcases h with ⟨rfl, rfl, rfl⟩ | ⟨G0, cap, rfl, rfl, _⟩
 ·simp [Ab.fE, jF, mE, he]
 ·simp [Ab.fE, jF, mE, sn, he]
theorem qj.len {n sz : Nat} {G : List (List V)} {rows : List (List D)} {v : V} {i k cap : Nat} (h : qj n sz G rows v) (hv : v = .bx i k cap) : k = rows.length := by
 rcases h with ⟨_, rfl, h2⟩ | ⟨G0, zF, rfl, h2, Ho, V3, ek⟩
 ·rw [h2] at hv; cases hv
 ·rw [h2] at hv; cases hv; rfl
end
mutual
def r7 (n i : Nat) (rows : List (List D)) : V → V
 | .ptr j k => if j < n then .ptr j k else .undef
 | .bx j k cap => if j < n then .bx j k cap else if j = i ∧ k = rows.length then .d (.sl rows) else .undef
 | .mp j => if j < n then .mp j else .undef
 | .nI ks vs => .nI ks (zG n i rows vs)
 | .self j T => if j < n then .self j T else .undef
 | .buf r t T => .buf r t T
 | .func f a b => .func f (zG n i rows a) (zG n i rows b)
 | .agg vs => .agg (zG n i rows vs)
 | .bZ vs => .bZ (zG n i rows vs)
 | .undef => .undef
 | .d x => .d x
 | .sl r t => .sl r t
 | .fS r k => .fS r k
 | .gZ => .gZ
 | .kf => .kf
def zG (n i : Nat) (rows : List (List D)) : List V → List V
 | [] => []
 | v :: vs => r7 n i rows v :: zG n i rows vs
end
theorem lX (n i : Nat) (rows : List (List D)) : ∀ vs : List V, zG n i rows vs = vs.map (r7 n i rows)
 | [] => by simp [zG]
 | v :: vs => by simp [zG, lX n i rows vs]
theorem VR.r7 {c : Cx} {w : World} {n i b : Nat} {rows : List (List D)} (hi : c.ρ[i]? = some b) (hD : ∀ cap, rows.length ≤ cap → cap ≤ 9223372036854775807 → DR (c.cut n c.τ.length).M w (.sl rows) (.slice (some ⟨b, 0, none⟩) rows.length cap)) {x : V} {v : Value} (h : VR c w x v) : VR (c.cut n c.τ.length) w (r7 n i rows x) v := by
 induction h with
 | undef v => unfold Ab.r7; exact .undef v
 | d x v h => unfold Ab.r7; exact .d x v (h.cut _ _)
 | full r a h ha => unfold Ab.r7; exact .full r a (h.cut _ _) ha
 | own r t a cap j h ht hr hn hl => unfold Ab.r7; exact .own r t a cap j (h.cut _ _) (cn ht (List.getElem?_eq_some_iff.1 ht).1) hr hn hl
 | ptr j k b h hT =>
  unfold Ab.r7
  split
  ·rename_i au
   exact .ptr j k b (cn h au) hT
  ·exact .undef _
 | bx j k cap b2 h hn hm hT =>
  unfold Ab.r7
  split
  ·rename_i au
   exact .bx j k cap b2 (cn h au) hn hm hT
  ·split
   ·rename_i he
    obtain ⟨rfl, rfl⟩ := he
    rw [hi] at h
    obtain rfl := Option.some.inj h
    exact .d _ _ (hD cap hn hm)
   ·exact .undef _
 | mp j b2 h =>
  unfold Ab.r7
  split
  ·rename_i au
   exact .mp j b2 (cn h au)
  ·exact .undef _
 | self j T b2 v h hT hv =>
  unfold Ab.r7
  split
  ·rename_i au
   exact .self j T b2 v (cn h au) hT hv
  ·exact .undef _
 | buf r t T v h hT ih =>
  unfold Ab.r7 at ih ⊢
  exact .buf r t T v ih hT
 | fS row k g o f h =>
  unfold Ab.r7
  refine .fS row k g o f fun q hq => ?_
  obtain ⟨a, b, d⟩ := h q hq
  exact ⟨fun h => a (u7 h), b, d.cut _ _⟩
 | gZ => unfold Ab.r7; exact .gZ
 | kf => unfold Ab.r7; exact .kf
 | func f first caps cf cc h1 h2 h3 h4 JM nE =>
  unfold Ab.r7
  rw [lX, lX]
  exact .func f _ _ cf cc (by simpa using h1) (by simpa using h2) (fun j hj => by simpa using JM j (by simpa using hj)) (fun j hj => by simpa using nE j (by simpa using hj))
 | agg vs cs h1 h2 h3 ih =>
  unfold Ab.r7
  rw [lX]
  exact .agg _ cs (by simpa using h1) (fun j hj => by simpa using ih j (by simpa using hj)) (fun j hj => h3 j (by simpa using hj))
 | bZ vs cs h1 h2 ih =>
  unfold Ab.r7
  rw [lX]
  exact .bZ _ cs (by simpa using h1) (fun j hj => by simpa using ih j (by simpa using hj))
section
variable {P : Program} {I : Inv} {z : Nat × Nat} {fn : FuncId} {R : V → Mem → Prop} {k : List Item} {env : List V}
theorem af.freeze {L G J : List (List V)} {T : List (Nat × Nat)} {sz i len cap : Nat} {rows : List (List D)} (h0 : 0 < sz) (hB : qj L.length sz G rows (.bx i len cap)) (hz : z.1 ≤ L.length ∧ z.2 ≤ T.length) (h : af P I z fn k (env.map (r7 L.length i rows)) ⟨L.map (·.map (r7 L.length i rows)), T⟩ R) : af P I z fn k env ⟨L ++ (G ++ J), T⟩ R := by
 rcases hB with ⟨_, _, h2⟩ | ⟨G0, zF, rfl, h2, Ho, _, ek⟩
 ·cases h2
 cases h2
 intro b a c w c0 w0 h1 h2 h3 h4 h5 h6 hI
 have m7 := fU Ho
 have zB : MP (rows.flatten.map V.d ++ List.replicate ((cap - rows.length) * sz) V.undef) := by
  intro ks us he
  have h0 : V.nI ks us ∈ rows.flatten.map V.d ++ List.replicate ((cap - rows.length) * sz) V.undef := by rw [he]; simp
  rcases List.mem_append.1 h0 with h | h
  ·obtain ⟨d, _, e⟩ := List.mem_map.1 h
   cases e
  ·have := List.eq_of_mem_replicate h
   cases this
 generalize List.replicate ((cap - rows.length) * sz) V.undef = X at *
 have hm : c.τ.length = T.length := by
  have := congrArg List.length h5.aL
  simp at this; omega
 have Nx : (L ++ ((G0 ++ [rows.flatten.map V.d ++ X]) ++ J)).length = c.ρ.length := h5.len
 obtain ⟨b0, iM⟩ : ∃ b0, c.ρ[L.length + G0.length]? = some b0 := ⟨_, List.getElem?_eq_getElem (by rw [← Nx]; simp)⟩
 have TT : (⟨L ++ ((G0 ++ [rows.flatten.map .d ++ X]) ++ J), T⟩ : Mem).boxes[L.length + G0.length]? = some (rows.flatten.map .d ++ X) := by
  show (L ++ ((G0 ++ [rows.flatten.map .d ++ X]) ++ J))[L.length + G0.length]? = _
  rw [← List.append_assoc, ← List.append_assoc, List.getElem?_append_left (by simp), List.getElem?_append_right (by simp)]
  simp
 obtain ⟨cs, Ty, hh, dG, oF⟩ := h5.qM iM (h5.zg iM TT zB) TT
 have Sv : ∀ q, ¬ (c.cut L.length c.τ.length).M b0 q := by
  rintro q ((hm | hm) | ⟨t, i, off, ht, ha, e1, e2⟩)
  ·have e1 := (c.hX _ _ hm).2
   have e2 : c.X b0 q := hm
   obtain ⟨e3, _⟩ := h5.box _ _ iM
   omega
  ·obtain ⟨j, hj⟩ := iT.1 hm
   have eJ : (c.ρ.take L.length)[j]? = some b0 := hj
   rw [List.getElem?_take] at eJ
   split at eJ
   case isFalse => cases eJ
   have := h5.inj _ _ _ eJ iM
   omega
  ·have gw : (c.τ.take c.τ.length)[t]? = some i := ht
   rw [List.take_length] at gw
   obtain ⟨a1, a2, a3, a4, a5⟩ := h5.tok t i gw
   have au : i.n < i.cap := by
    rcases Nat.lt_or_ge i.n i.cap with h' | h'
    ·exact h'
    ·have := Nat.mul_le_mul_right i.sz h'
     omega
   exact (a5 au b0 off ha).2.1 (iT.2 ⟨_, iM⟩)
 have hD : ∀ cp, rows.length ≤ cp → cp ≤ 9223372036854775807 → DR (c.cut L.length c.τ.length).M w (.sl rows) (.slice (some ⟨b0, 0, none⟩) rows.length cp) := by
  intro cp Jx AK
  have tZ : ∀ (j q : Nat) (r : List D) (d : D), rows[j]? = some r → r[q]? = some d → w.cell? ⟨b0, j * sz + q, none⟩ = some (cs.getD (j * sz + q) undef) ∧ DR c.M w d (cs.getD (j * sz + q) undef) := by
   intro j q r d hj hq
   have e1 := qX m7 j q r d hj hq
   have e2 := (List.getElem?_eq_some_iff.1 e1).1
   have au : j * sz + q < (rows.flatten.map V.d ++ X).length := by rw [List.length_append, List.length_map]; omega
   obtain ⟨q1, q2, _⟩ := oF _ au
   refine ⟨q1, ?_⟩
   have e3 : (rows.flatten.map V.d ++ X)[j * sz + q] = .d d := by
    rw [List.getElem_append_left (by rw [List.length_map]; exact e2), List.getElem_map]
    congr 1
    exact (List.getElem?_eq_some_iff.1 e1).2
   rw [e3] at q2
   cases q2 with
   | d _ _ h => exact h
  refine .sl rows sz _ cp (fun j q => cs.getD (j * sz + q) undef) h0 m7 Jx AK (fun _ => ⟨b0, 0, rfl, fun j hj q hq => ⟨Sv _, ?_⟩⟩) (fun j hj q hq => ?_)
  ·rw [Nat.zero_add]
   exact (tZ j q _ _ (List.getElem?_eq_getElem hj) (List.getElem?_eq_getElem hq)).1
  ·exact (tZ j q _ _ (List.getElem?_eq_getElem hj) (List.getElem?_eq_getElem hq)).2.cut _ _
 have sr : dc (c.cut L.length c.τ.length) w ⟨L.map (·.map (r7 L.length (L.length + G0.length) rows)), T⟩ := by
  refine ⟨h5.hB, by simp [Cx.cut]; simp at Nx; omega, fun i b hi => ?_, fun i j b hi hj => ?_, ?_, fun t i ht => ?_, fun t t' i i' g off sg ht gw => ?_, h5.inv⟩
  ·have jD : (c.ρ.take L.length)[i]? = some b := hi
   rw [List.getElem?_take] at jD
   split at jD
   case isFalse => cases jD
   rename_i au
   obtain ⟨a, o, hh, vs, g1, g2⟩ := h5.box i b jD
   have QW : L[i]? = some vs := by
    have : (L ++ ((G0 ++ [rows.flatten.map .d ++ X]) ++ J))[i]? = some vs := g1
    rwa [List.getElem?_append_left au] at this
   refine ⟨a, o, hh, vs.map (r7 L.length (L.length + G0.length) rows), ?_, ?_⟩
   ·show (L.map _)[i]? = _
    rw [List.getElem?_map, QW]
    rfl
   ·cases g2 with
    | cells cs Ty _ g2 g3 =>
     refine .cells cs Ty _ (by simpa using g2) fun j hj => ?_
     have eJ : j < vs.length := by simpa using hj
     rw [List.getElem_map]
     exact ⟨(g3 j eJ).1.r7 iM hD, (g3 j eJ).2⟩
    | map es ck ks us g0 k1 g2 =>
     simp only [List.map_cons, List.map_nil, r7, lX]
     refine .map es ck ks _ g0 (by simpa using k1) fun j k v hj hv => ?_
     rw [List.getElem?_map] at hv
     obtain ⟨u, hu, rfl⟩ := Option.map_eq_some_iff.1 hv
     exact (g2 j k u hj hu).imp fun e he => ⟨he.1, he.2.1, he.2.2.r7 iM hD⟩
  ·have jD : (c.ρ.take L.length)[i]? = some b := hi
   have eJ : (c.ρ.take L.length)[j]? = some b := hj
   rw [List.getElem?_take] at jD eJ
   split at jD
   case isFalse => cases jD
   split at eJ
   case isFalse => cases eJ
   exact h5.inj i j b jD eJ
  ·show T = (c.τ.take c.τ.length).map _
   rw [List.take_length]
   exact h5.aL
  ·have gw : (c.τ.take c.τ.length)[t]? = some i := ht
   rw [List.take_length] at gw
   obtain ⟨a1, a2, a3, a4, a5⟩ := h5.tok t i gw
   refine ⟨a1, a2, a3, a4, fun au g off ha => ?_⟩
   obtain ⟨b1, b2, b3⟩ := a5 au g off ha
   exact ⟨b1, fun hm => b2 (List.mem_of_mem_take hm), b3⟩
  ·have xj : (c.τ.take c.τ.length)[t]? = some i := ht
   have uc : (c.τ.take c.τ.length)[t']? = some i' := gw
   rw [List.take_length] at xj uc
   exact h5.qH t t' i i' g off sg xj uc
 have Kf : cl (c.cut L.length c.τ.length) w (env.map (r7 L.length (L.length + G0.length) rows)) a.tmps := by
  refine ⟨by simpa using h4.1, fun t ht => ?_⟩
  have gw : t < env.length := by simpa using ht
  rw [List.getElem_map]
  exact (h4.2 t gw).r7 iM hD
 refine h b a (c.cut L.length c.τ.length) w c0 w0 h1 h2 h3 Kf sr ⟨⟨fun g k v hm hv => ?_, fun i b hi => ?_, fun t i hi => ?_, h6.B, h6.keeps.ty⟩, h6.B, h6.I, h6.X, h6.below⟩ ⟨hI.1, hI.2⟩
 ·exact ⟨fun h => (h6.keeps.cell g k v hm hv).1 (u7 h), (h6.keeps.cell g k v hm hv).2⟩
 ·have := (List.getElem?_eq_some_iff.1 hi).1
  exact cn (h6.keeps.ρ i b hi) (by omega)
 ·obtain ⟨i', a1, a2⟩ := h6.keeps.τ t i hi
  have := (List.getElem?_eq_some_iff.1 a1).1
  exact ⟨i', cn a1 this, a2⟩
theorem af.nY {S : Mem} (q : Nat) (rows : List (List D)) (tk : Tok) (hq : env.getD q .undef = .sl rows tk) (h : af P I z fn k (env.set q (.d (.sl rows))) S R) : af P I z fn k env S R := by
 intro b a c w c0 w0 h1 h2 h3 h4 h5 h6 hI
 refine h b a c w c0 w0 h1 h2 h3 ⟨by simpa using h4.1, fun t ht => ?_⟩ h5 h6 hI
 have gw : t < env.length := by simpa using ht
 by_cases e : q = t
 ·subst e
  have hv := h4.get q
  rw [hq] at hv
  have hp : VR c w (.d (.sl rows)) (a.tmps.getD q undef) := by
   generalize a.tmps.getD q undef = v at hv
   cases hv with
   | full _ a h ha => exact .d _ _ h
   | own _ t a cap i h ht hr hn hl => exact .d _ _ h
  simpa using hp
 ·have := h4.2 t gw
  simpa [e] using this
end
section
variable {P : Program} {I : Inv} {ops : Array Oper} {W : List Nat} {MM : Mem → Prop} {K : List V → Mem → Prop} {env : List V} {S : Mem} {listed : Array Bool}
theorem ql {n : Nat} (i : Nat) {oi : Oper} {v : V} (hi : ops[i]? = some oi) (hq : W.contains i = false) (hr : (Region.ready .any ops listed).contains i = true) (hf : Region.free .any ops listed i = true) (hg : oi.guard = none) (hy : ∀ S, MM S → cU P (ah I env) S oi.op = some (v, S)) (h : jI P I ops W MM K n (listed.setIfInBounds i true) (aK env oi.dst v) S) : jI P I ops W MM K (n + 1) listed env S :=
 qi hi hq n listed env S (Region.free_spec hi hf) (by simpa using hr) (.inl ⟨.inl hg, hy⟩) h
theorem xY {o : Oper} {K : V → Mem → Prop} {v : V} {S' : Mem} (hg : o.guard = none) (h1 : cU P (ah I env) S o.op = some (v, S')) (h : K v S') : WC P I ops o env S K :=
 ⟨fun u T => u = v ∧ T = S', ⟨v, S', rfl, rfl⟩, .inl ⟨.inl hg, .inl ⟨v, S', h1, rfl, rfl⟩⟩, fun u T ⟨e1, e2⟩ => by subst e1 e2; exact h⟩
end
set_option linter.unusedSimpArgs false
section
variable {P : Program} {c : Cx} {w : World} {S : Mem}
theorem Hp {x : V} {X : Value} {aq : List (List D)} {sz : Nat} (h0 : 0 < sz) (hx : VR c w x X) (hd : mE x = some (.sl aq)) (hr : ∀ r ∈ aq, r.length = sz) : ∃ (a : Option Addr) (cap : Nat) (F : Nat → Value), X = .slice a aq.length cap ∧ ef c w (aq.flatten.map .d) ((List.range (aq.length * sz)).map F) ∧
 ∀ W : World, W.heap = w.heap → (Builtin.firstCells sz aq.length X).run P W = .ok ((List.range (aq.length * sz)).map F).toArray W := by
 have hD := fL hx hd
 have mw : ∃ a n cap, X = .slice a n cap := by cases hD; exact ⟨_, _, _, rfl⟩
 obtain ⟨a, n, cap, rfl⟩ := mw
 obtain ⟨hn, _, _, F, hF, TG⟩ := hD.flat sz hr
 subst hn
 have xk := ve hr
 refine ⟨a, cap, F, rfl, ⟨by simp only [List.length_map, List.length_range, xk], fun j v hv => ?_⟩, fun W hW => jZ (rows := aq) rfl hF W hW⟩
 rw [List.getElem?_map] at hv
 obtain ⟨d, hd, rfl⟩ := Option.map_eq_some_iff.1 hv
 have au : j < aq.length * sz := by
  have := (List.getElem?_eq_some_iff.1 hd).1
  rwa [xk] at this
 have hj : j / sz < aq.length := Nat.div_lt_of_lt_mul (by rw [Nat.mul_comm]; exact au)
 have hq : j % sz < (aq[j / sz]).length := by rw [hr _ (List.getElem_mem hj)]; exact Nat.mod_lt _ h0
 have e : j / sz * sz + j % sz = j := by rw [Nat.mul_comm]; exact Nat.div_add_mod j sz
 have hg := qX hr (j / sz) (j % sz) _ _ (List.getElem?_eq_getElem hj) (List.getElem?_eq_getElem hq)
 rw [e, hd] at hg
 have := TG (j / sz) hj (j % sz) hq
 rw [← Option.some.inj hg, e] at this
 exact ⟨F j, by simp [au], .d _ _ this, this.one⟩
theorem dc.TU {L : List (List V)} {T : List (Nat × Nat)} (h : dc c w ⟨L, T⟩) {ts us ty e : TypeId} {ti te ui : tc} (jF : bB P ts = some ti) (he : ti.d = .slice e) (mZ : bB P e = some te) (J7 : bB P us = some ui) (JA : ∃ k, ui.d = .slice k) (a : Option Addr) (n cap : Nat) (old : List V) (xs : List Value)
 (Nw : ef c w old xs) (hold : ∀ W : World, W.heap = w.heap → (Builtin.firstCells te.size n (.slice a n cap)).run P W = .ok xs.toArray W) {x : V} {X : Value} {aq : List (List D)} (ek : ¬ n + aq.length ≤ cap) (Q5 : n + aq.length ≤ 9223372036854775807) (h0 : 0 < te.size) (hx : VR c w x X) (hd : mE x = some (.sl aq)) (hr : ∀ r ∈ aq, r.length = te.size) (hb : (n + aq.length) * te.bytes ≤ 140737488355328) :
 ∃ w' c' cj, (Builtin.append_ #[ts, us] ty #[.slice a n cap, X]).run P w = .ok (.slice (some ⟨w.heap.size, 0, none⟩) (n + aq.length) cj) w' ∧ n + aq.length ≤ cj ∧ cj ≤ 9223372036854775807 ∧ dc c' w' ⟨L ++ [old ++ aq.flatten.map .d ++ List.replicate ((cj - (n + aq.length)) * te.size) .undef], T⟩ ∧ Ext c w c' w' ∧ VR c' w' (.bx L.length (n + aq.length) cj) (.slice (some ⟨w.heap.size, 0, none⟩) (n + aq.length) cj) := by
 obtain ⟨fi, d, z, h1, h2, h3, h4, h5, h6, _⟩ := aE jF
 obtain ⟨gi, d2, z2, g1, g2, g3, g4, g5, g6, g7, g8, g9, Sw⟩ := aE mZ
 obtain ⟨VY, d3, z3, u1, u2, u3, u4, u5, u6, _⟩ := aE J7
 rw [he] at h6
 obtain rfl := bN h6
 obtain ⟨ke, TS⟩ := JA
 rw [TS] at u6
 obtain rfl := bN u6
 have Ty : xd P ts e te.size te.bytes := ⟨h2, gi, z2, g1, g3, g4, g5, g8⟩
 obtain ⟨ax, Q6, F, rfl, hF, fT⟩ := Hp (P := P) h0 hx hd hr
 obtain ⟨i, zz, k1, k2, k3, aX⟩ := mD (P := P) (w := w) (ty := ty) Ty ⟨_, u2, by simp⟩ a n cap aq.length ek (.slice ax aq.length Q6) xs ((List.range (aq.length * te.size)).map F) (fun W => by simp [Builtin.lenOf]) fT hold Q5 hb
 rw [g1] at k1
 obtain rfl := Option.some.inj k1
 rw [g3] at k2
 obtain rfl := Option.some.inj k2
 have lC := grownCap_ge w (n + aq.length) cap e
 have zb : grownCap w (n + aq.length) cap e ≤ 9223372036854775807 := grownCap_le_maxLen w (n + aq.length) cap e (by unfold maxLen; omega)
 unfold kg at aX
 generalize grownCap w (n + aq.length) cap e = cj at aX lC zb
 have GY : Below w.heap.size w w.drew := (Below.refl _ _).drew
 obtain ⟨r1, r2⟩ := h.under GY
 have vf := ((Nw.append hF).append (Bw (c := c) (w := w) Sw te.size k3 (cj - (n + aq.length)))).dZ r2.keeps
 have DN : xs.toArray ++ ((List.range (aq.length * te.size)).map F).toArray ++ Builtin.zeroCells z2.cells (cj - (n + aq.length)) = (xs ++ (List.range (aq.length * te.size)).map F ++ (Builtin.zeroCells z2.cells (cj - (n + aq.length))).toList).toArray := by
  apply Array.ext'
  simp
 rw [DN] at aX
 obtain ⟨q1, q2⟩ := r1.ur _ e _ (by simpa using vf.1) (vf.at)
 refine ⟨_, _, cj, aX, lC, zb, q1, r2.trans q2, .bx _ _ _ _ ?_ lC zb ⟨_, hU.new _ _⟩⟩
 show (c.ρ ++ [w.drew.heap.size])[L.length]? = _
 rw [show L.length = c.ρ.length from h.len]
 simp
def Ny (sz : Nat) (B : List (List V)) (T : List (Nat × Nat)) (s : V) (r : List D) (v : V) (S' : Mem) : Prop :=
 match s with
 | .sl [] .full => ∃ cj, 1 ≤ cj ∧ cj ≤ 9223372036854775807 ∧ v = .bx B.length 1 cj ∧ S' = ⟨B ++ [r.map .d ++ List.replicate ((cj - 1) * sz) .undef], T⟩
 | .bx i n cap => ∃ X, B[i]? = some X ∧ ((n + 1 ≤ cap ∧ v = .bx i (n + 1) cap ∧ S' = ⟨B.set i (X.take (n * sz) ++ r.map .d ++ X.drop (n * sz + sz)), T⟩) ∨ ∃ cj, n + 1 ≤ cj ∧ cj ≤ 9223372036854775807 ∧ v = .bx B.length (n + 1) cj ∧ S' = ⟨B ++ [X.take (n * sz) ++ r.map .d ++ List.replicate ((cj - (n + 1)) * sz) .undef], T⟩)
 | _ => False
def Q7 (sz : Nat) (B : List (List V)) (s : V) : Prop :=
 match s with
 | .sl [] .full => True
 | .bx i n cap => ∃ X, B[i]? = some X ∧ X.length = cap * sz ∧ n ≤ 1000000000
 | _ => False
theorem Ny.ex {sz : Nat} {B : List (List V)} (T : List (Nat × Nat)) {s : V} (r : List D) (h : Q7 sz B s) : ∃ v S', Ny sz B T s r v S' := by
 unfold Q7 at h
 split at h
 ·exact ⟨_, _, 1, by omega, by omega, rfl, rfl⟩
 ·rename_i i n cap
  obtain ⟨X, hX, _⟩ := h
  exact ⟨_, _, X, hX, .inr ⟨n + 1, Nat.le_refl _, by omega, rfl, rfl⟩⟩
 ·exact h.elim
def Ks (sz : Nat) (B : List (List V)) (T : List (Nat × Nat)) (aq : List (List D)) (v : V) (S' : Mem) : Prop :=
 ∃ cj, aq.length ≤ cj ∧ cj ≤ 9223372036854775807 ∧ v = .bx B.length aq.length cj ∧ S' = ⟨B ++ [aq.flatten.map .d ++ List.replicate ((cj - aq.length) * sz) .undef], T⟩
theorem pO.Kt {I : Inv} {env : List V} {o : Oper} {B : List (List V)} {T : List (Nat × Nat)} {so xo : Operand} {ts us e : TypeId} {ti te ui : tc} {x : V} {aq : List (List D)} (ho : o.op = .call ⟨.builtin .append, #[so, xo], #[ts, us]⟩)
 (jF : bB P ts = some ti) (he : ti.d = .slice e) (mZ : bB P e = some te) (J7 : bB P us = some ui) (JA : ∃ k, ui.d = .slice k) (h0 : 0 < te.size) (Ec : ah I env so = .sl [] .full) (hex : ah I env xo = x) (bV : aq ≠ []) (hd : mE x = some (.sl aq)) (hr : ∀ r ∈ aq, r.length = te.size) (hb : te.bytes ≤ 100000) (hl : aq.length ≤ 1000000000) :
 pO P I o env ⟨B, T⟩ (Ks te.size B T aq) := by
 intro c w ev h1 h2 h3
 have nF : ∀ y, y = so ∨ y = xo → y ∈ o.op.operands := by
  intro y hy
  rw [ho]
  simp only [Op.operands, Call.operands]
  rcases hy with rfl | rfl <;> simp
 have hA := h3 so (nF so (.inl rfl))
 have hX := h3 xo (nF xo (.inr rfl))
 rw [Ec] at hA
 rw [hex] at hX
 have hlen : 0 < aq.length := List.length_pos_iff.2 bV
 have DJ : (0 + aq.length) * te.bytes ≤ 140737488355328 := by
  have : (0 + aq.length) * te.bytes ≤ 1000000000 * 100000 := Nat.mul_le_mul (by omega) hb
  omega
 generalize TV : ev so = A at hA
 cases hA with
 | full _ a GY ha =>
  obtain ⟨w', c', cj, k1, k2, k2', k3, k4, k5⟩ := h1.TU (ty := o.type) (aq := aq) jF he mZ J7 JA a 0 0 [] [] .nil (fun W hW => by
   obtain ⟨_, _, _, F, hF, _⟩ := GY.flat te.size (by simp)
   have := jZ (P := P) (sz := te.size) (cap := 0) (a := a) (rows := []) (n := 0) rfl hF W hW
   simpa using this) (by omega) (by omega) h0 hX hd hr DJ
  rw [Nat.zero_add] at k1 k2 k3 k5
  refine ⟨.slice (some ⟨w.heap.size, 0, none⟩) aq.length cj, w', c', .bx B.length aq.length cj, ⟨B ++ [aq.flatten.map .d ++ List.replicate ((cj - aq.length) * te.size) .undef], T⟩, ?_, ⟨cj, k2, k2', rfl, rfl⟩, ?_, k4, k5⟩
  ·simp only [List.length_nil] at TV
   simp [execOp, ho, resolve, invoke, builtin, TV, k1]
  ·rw [List.nil_append] at k3
   exact k3
end
def kz : Op → Bool
 | .store _ _ _ | .alloc _ | .box _ _ | .makeMap _ _ | .mapUpdate _ _ _ _ => true
 | .call c => match c.callee with
  | .value _ => true
  | .builtin .append => true
  | .builtin .delete => true
  | _ => false
 | _ => false
def Hq : Op → Bool
 | .load _ _ | .lookup _ _ _ _ => true
 | _ => false
def lY : List Nat → Nat → Bool
 | [], _ => false
 | a :: l, k => (a == k) || lY l k
theorem js : ∀ {l : List Nat} {k : Nat}, lY l k = true ↔ k ∈ l
 | [], k => by simp [lY]
 | a :: l, k => by rw [lY, Bool.or_eq_true, beq_iff_eq, js, List.mem_cons, eq_comm]
def JB (A : List Nat) (ops : Array Oper) : List Nat := (List.range ops.size).filter fun k => kz (bD ops k).op && !lY A k
def kS (S : Mem) (Z : List (List V)) : Mem := ⟨S.boxes ++ Z, S.aL⟩
theorem iu (S : Mem) : kS S [] = S := by simp [kS]
def zA (P : Program) (ops : Array Oper) (a : Nat) : List V :=
 match (bD ops a).op with
 | .alloc t => (match bB P t with
  | some i => i.zero
  | none => [])
 | _ => [.nI [] []]
def Ef (ops : Array Oper) (a N : Nat) : V :=
 match (bD ops a).op with
 | .alloc _ => .ptr N 0
 | _ => .mp N
def gE (ops : Array Oper) : Nat → List Nat → List V → List V
 | _, [], env => env
 | N, a :: l, env => gE ops (N + 1) l (aK env (bD ops a).dst (Ef ops a N))
def TX (P : Program) : Op → Bool
 | .alloc t => (bB P t).isSome
 | .makeMap _ none => true
 | _ => false
def nodupB : List Nat → Bool
 | [] => true
 | a :: l => !lY l a && nodupB l
def V6 (P : Program) (ops : Array Oper) (A : List Nat) (p : Nat) : Bool := nodupB A && A.all fun a => Nat.ble (a + 1) p && (match ops[a]? with
 | some o => o.guard.isNone && TX P o.op && (o.after.all fun e => !Region.binds .any e) && (List.range p).all fun j => (j == a) || (match ops[j]? with
  | some oj => (oj.after.all fun e => !(Region.binds .any e && (e.on == a))) && (match o.dst with
   | some t => !(oj.dst == some t) && !(oj.looksAt ops).contains t
   | none => true)
  | none => true)
 | none => false)
def pg : List Nat → Nat → Prop
 | [], _ => False
 | x :: l, i => x = i ∨ pg l i
def Kept (L : List Nat) (S S' : Mem) : Prop := ∀ i, pg L i → ∀ vs, S.boxes[i]? = some vs → S'.boxes[i]? = some vs
def eu : List Nat → Mem → Mem → Prop
 | [], _, _ => True
 | x :: l, S, S' => S'.boxes[x]? = S.boxes[x]? ∧ eu l S S'
theorem eu.kept {S S' : Mem} : ∀ {L : List Nat}, eu L S S' → Kept L S S'
 | [], _, _, h => h.elim
 | _ :: _, h, i, .inl e => fun vs hv => by subst e; rw [h.1]; exact hv
 | _ :: _, h, i, .inr e => h.2.kept i e
theorem kA (S : Mem) : ∀ (L : List Nat), eu L S S
 | [] => trivial
 | _ :: l => ⟨rfl, kA S l⟩
def pQ : List Nat → Mem → Prop
 | [], _ => True
 | x :: l, S => (S.boxes[x]?).isSome = true ∧ pQ l S
theorem pQ.get {S : Mem} : ∀ {L : List Nat}, pQ L S → ∀ i, pg L i → ∃ vs, S.boxes[i]? = some vs
 | [], _, _, h => h.elim
 | _ :: _, h, i, .inl e => by subst e; exact Option.isSome_iff_exists.1 h.1
 | _ :: _, h, i, .inr e => h.2.get i e
theorem Kept.kS {L : List Nat} {S S' : Mem} (h : Kept L S S') (Z : List (List V)) : Kept L S (kS S' Z) := fun i hi vs hv => by
 have := h i hi vs hv
 show (S'.boxes ++ Z)[i]? = some vs
 rw [List.getElem?_append_left (List.getElem?_eq_some_iff.1 this).1]; exact this
section machine
variable {P : Program} {I : Inv} {ops : Array Oper} {A W : List Nat} {MM : Mem → Prop} {p : Nat}
def WX (P : Program) (I : Inv) (ops : Array Oper) (A : List Nat) (o : Oper) (env : List V) (S : Mem) (Q : V → Mem → Prop) : Prop := (dW env ops o ∧ ∀ Z, (A = [] → Z = []) → WO P I o env (kS S Z) fun v T => ∃ S', T = kS S' Z ∧ Q v S') ∨ (nS env ops o ∧ Q (.bZ []) S)
theorem WX.congr {o : Oper} {env : List V} {d : Option Tmp} {x : V} {S : Mem} {Q : V → Mem → Prop} (h : ∀ t, d = some t → t ∉ o.looksAt ops) : WX P I ops A o (aK env d x) S Q ↔ WX P I ops A o env S Q := by
 cases d with
 | none => rfl
 | some t => exact or_congr (and_congr (nW (h t rfl)) (forall_congr' fun Z => imp_congr Iff.rfl (WO.congr h))) (and_congr (nX (h t rfl)) Iff.rfl)
def Xx (P : Program) (I : Inv) (ops : Array Oper) (A : List Nat) (o : Oper) (env : List V) (S : Mem) (K : V → Mem → Prop) : Prop := ∃ Q : V → Mem → Prop, (∃ v S', Q v S') ∧ (∀ v S', Q v S' → S'.boxes.length = S.boxes.length ∨ A = []) ∧ WX P I ops A o env S Q ∧ ∀ v S', Q v S' → K v S'
def uf (P : Program) (I : Inv) (ops : Array Oper) (A W : List Nat) (p : Nat) (MM : Mem → Prop) (K : Array Bool → List V → Mem → Prop) : Nat → Array Bool → List V → Mem → Prop
 | 0, la, env, S => MM S ∧ (∀ j, j < p → la.getD j true = true) ∧ K la env S
 | n + 1, la, env, S => MM S ∧ ((∀ j, j < p → la.getD j true = true) → K la env S) ∧ ∀ i ∈ Region.ready .any ops la, i < p → ∃ o, ops[i]? = some o ∧
  ((W.contains i = true ∧ Xx P I ops A o env S fun v S' => uf P I ops A W p MM K n (la.setIfInBounds i true) (aK env o.dst v) S') ∨
   (W.contains i = false ∧ ∃ v, QC P I ops MM o env v ∧ uf P I ops A W p MM K n (la.setIfInBounds i true) (aK env o.dst v) S))
variable {K : Array Bool → List V → Mem → Prop}
theorem uf.in : ∀ {n : Nat} {la : Array Bool} {env : List V} {S : Mem}, uf P I ops A W p MM K n la env S → MM S
 | 0, _, _, _, h => h.1
 | _ + 1, _, _, _, h => h.1
theorem Eg {i : Nat} {oi : Oper} (hi : ops[i]? = some oi) (AP : i < p) (hq : W.contains i = false) {v : V} : ∀ (n : Nat) (listed : Array Bool) (env : List V) (S : Mem), qU ops listed i oi → i ∈ Region.ready .any ops listed → QC P I ops MM oi env v → uf P I ops A W p MM K n (listed.setIfInBounds i true) (aK env oi.dst v) S → uf P I ops A W p MM K (n + 1) listed env S := by
 intro n
 induction n with
 | zero =>
  intro listed env S _ hr hy H
  refine ⟨H.in, fun h => (by have := h i AP; rw [(mem_ready.1 hr).1] at this; cases this), fun j hj MB => ?_⟩
  by_cases fh : j = i
  ·subst fh; exact ⟨oi, hi, .inr ⟨hq, v, hy, H⟩⟩
  ·have h1 := H.2.1 j MB
   rw [(mem_ready.1 (ready_mono hj fh)).1] at h1
   cases h1
 | succ n ih =>
  intro listed env S fO hr hy H
  refine ⟨H.in, fun h => (by have := h i AP; rw [(mem_ready.1 hr).1] at this; cases this), fun j hj MB => ?_⟩
  by_cases fh : j = i
  ·subst fh; exact ⟨oi, hi, .inr ⟨hq, v, hy, H⟩⟩
  obtain ⟨oj, iX, hH⟩ := H.2.2 j (ready_mono hj fh) MB
  have kj := (mem_ready.1 hj).1
  obtain ⟨a1, a2, a3⟩ := fO.apart hr hj fh iX
  have mL := ready_mono hr (Ne.symm fh)
  rcases hH with ⟨oQ, Q, bV, FQ, Hl, hk⟩ | ⟨oQ, u, Mz, h1⟩
  ·refine ⟨oj, iX, .inl ⟨oQ, Q, bV, FQ, (WX.congr a1).1 Hl, fun u S' hQ => ?_⟩⟩
   refine ih (listed.setIfInBounds j true) (aK env oj.dst u) S' (fO.next kj) mL ((QC.congr a3).2 hy) ?_
   rw [Array.setIfInBounds_comm _ _ fh, ← gU env v u a2]
   exact hk u S' hQ
  ·refine ⟨oj, iX, .inr ⟨oQ, u, (QC.congr a1).1 Mz, ih (listed.setIfInBounds j true) (aK env oj.dst u) S (fO.next kj) mL ((QC.congr a3).2 hy) ?_⟩⟩
   rw [Array.setIfInBounds_comm _ _ fh, ← gU env v u a2]
   exact h1
theorem Eh {U : List Nat} {i : Nat} {oi : Oper} (hi : ops[i]? = some oi) (AP : i < p) (hq : W.contains i = true) : ∀ (n : Nat) (listed : Array Bool) (env : List V) (S : Mem), MM S → qU ops listed i oi → vb ops U listed i → (∀ j oj, ops[j]? = some oj → W.contains j = true → listed.getD j true = false → j = i ∨ U.contains j = true) → i ∈ Region.ready .any ops listed → Xx P I ops A oi env S (fun v S' => uf P I ops A W p MM K n (listed.setIfInBounds i true) (aK env oi.dst v) S') → uf P I ops A W p MM K (n + 1) listed env S := by
 intro n
 induction n with
 | zero =>
  intro listed env S hS _ _ _ hr hy
  refine ⟨hS, fun h => (by have := h i AP; rw [(mem_ready.1 hr).1] at this; cases this), fun j hj MB => ?_⟩
  by_cases fh : j = i
  ·subst fh; exact ⟨oi, hi, .inl ⟨hq, hy⟩⟩
  ·obtain ⟨Q, ⟨v0, S0, h0⟩, _, _, hk⟩ := hy
   have h1 := (hk v0 S0 h0).2.1 j MB
   rw [(mem_ready.1 (ready_mono hj fh)).1] at h1
   cases h1
 | succ n ih =>
  intro listed env S hS fO Bt TR hr hy
  refine ⟨hS, fun h => (by have := h i AP; rw [(mem_ready.1 hr).1] at this; cases this), fun j hj MB => ?_⟩
  by_cases fh : j = i
  ·subst fh; exact ⟨oi, hi, .inl ⟨hq, hy⟩⟩
  obtain ⟨Q, ⟨v0, S0, h0⟩, FQ, Hl, hk⟩ := hy
  obtain ⟨oj, iX, hH⟩ := (hk v0 S0 h0).2.2 j (ready_mono hj fh) MB
  obtain ⟨kj, QX, kn, iL⟩ := mem_ready.1 hj
  rw [iX] at kn
  obtain rfl := Option.some.inj kn
  obtain ⟨a1, a2, a3⟩ := fO.apart hr hj fh iX
  have mL := ready_mono hr (Ne.symm fh)
  rcases hH with ⟨oQ, _⟩ | ⟨oQ, u, Mz, _⟩
  ·obtain ⟨e, he, hb, _, kV⟩ := Bt j oj iX ((TR j oj iX oQ kj).resolve_left fh) fh kj
   have h1 := iL e he hb
   rcases Nat.lt_or_ge e.on listed.size with h' | h'
   ·simp [h'] at kV h1; rw [kV] at h1; cases h1
   ·simp [Array.getElem?_eq_none h'] at h1
  ·have Bu := (QC.congr a1).1 Mz
   refine ⟨oj, iX, .inr ⟨oQ, u, Bu, ih (listed.setIfInBounds j true) (aK env oj.dst u) S hS (fO.next kj) (Bt.next iL iX fh kj) (fun k ok hk Jz kV => ?_) mL ⟨Q, ⟨v0, S0, h0⟩, FQ, (WX.congr a3).2 Hl, fun v S' hQ => ?_⟩⟩⟩
   ·by_cases oN : j = k
    ·subst oN
     rw [oQ] at Jz; cases Jz
    ·rw [getD_set_ne true oN] at kV
     exact TR k ok hk Jz kV
   ·obtain ⟨QX, kn, Xv⟩ := (hk v S' hQ).2.2 j (ready_mono hj fh) MB
    rw [iX] at kn
    obtain rfl := Option.some.inj kn
    rcases Xv with ⟨Kq, _⟩ | ⟨_, u', Bu, h1⟩
    ·rw [oQ] at Kq; cases Kq
    ·have e2 : QC P I ops MM oj env u' := (QC.congr a1).1 Bu
     have e3 := QC.one hS e2 ((QC.congr a1).1 Mz)
     subst e3
     rw [Array.setIfInBounds_comm _ _ fh, ← gU env v u' a2]
     exact h1
def Ei (A : List Nat) : Nat → Nat → Nat
 | _, 0 => 0
 | k, q + 1 => cond (lY A k) (Ei A (k + 1) q) (Ei A (k + 1) q + 1)
def Hr (P : Program) (I : Inv) (ops : Array Oper) (A W : List Nat) (MM : Mem → Prop) (K : List V → Mem → Prop) : List Oper → Nat → List V → Mem → Prop
 | [], _, env, S => MM S ∧ K env S
 | o :: l, k, env, S => (lY A k = true → Hr P I ops A W MM K l (k + 1) env S) ∧ (lY A k = false → (W.contains k = true → MM S ∧ Xx P I ops A o env S fun v S' => Hr P I ops A W MM K l (k + 1) (aK env o.dst v) S') ∧
  (W.contains k = false → ∃ v, QC P I ops MM o env v ∧ Hr P I ops A W MM K l (k + 1) (aK env o.dst v) S))
theorem sA {listed la : Array Bool} {i : Nat} (dG : la.size = ops.size) (ue : ∀ j, j < ops.size → listed.getD j true = true → la.getD j true = true) (zH : listed.size = ops.size) (hi : i ∈ Region.ready .any ops listed) (hu : la.getD i true = false) : i ∈ Region.ready .any ops la := by
 obtain ⟨_, oi, xl, iL⟩ := mem_ready.1 hi
 refine mem_ready.2 ⟨hu, oi, xl, fun e he hb => ?_⟩
 have h1 := iL e he hb
 rcases Nat.lt_or_ge e.on ops.size with h' | h'
 ·have h2 := ue e.on h' (by simp [zH, h'] at h1 ⊢; exact h1)
  simp [dG, h'] at h2 ⊢
  exact h2
 ·simp [Array.getElem?_eq_none (show listed.size ≤ e.on by omega)] at h1
theorem Bx {k : Nat} {la : Array Bool} (Nz : ∀ a o, lY A a = true → ops[a]? = some o → ∀ e ∈ o.after, Region.binds .any e = false) (hk : k < ops.size) (ha : lY A k = false) (ux : ∀ j, j < ops.size → la.getD j true = (decide (j < k) || lY A j)) : vb ops (desc ops k) la k := by
 intro j oj iX hj oN _
 rcases qV (List.contains_iff_mem.1 hj) with rfl | ⟨_, QX, kn, e, he, hb, Nt⟩
 ·exact absurd rfl oN
 rw [iX] at kn
 obtain rfl := Option.some.inj kn
 refine ⟨e, he, hb, List.contains_iff_mem.2 Nt, ?_⟩
 rcases qV Nt with h | ⟨h, oe, V1, e2, J8, pe, _⟩
 ·rw [h, ux k hk, ha, Bool.or_false]; exact decide_eq_false (Nat.lt_irrefl k)
 ·rw [ux _ (Array.getElem?_eq_some_iff.1 V1).1]
  have h1 : lY A e.on = false := by
   cases hx : lY A e.on with
   | false => rfl
   | true => rw [Nz _ _ hx V1 e2 J8] at pe; cases pe
  rw [h1, Bool.or_false]
  exact decide_eq_false (by omega)
theorem qY (Nz : ∀ a o, lY A a = true → ops[a]? = some o → ∀ e ∈ o.after, Region.binds .any e = false) (NA : p ≤ ops.size) (Sz : (W.all fun k => Nat.ble (k + 1) ops.size) = true) (MA : (W.all fun k => W.all fun j => Nat.ble j k || (desc ops k).contains j) = true) {KK : List V → Mem → Prop} (m : Nat)
 (V7 : ∀ la env S, la.size = ops.size → (∀ j, j < ops.size → la.getD j true = (decide (j < p) || lY A j)) → (∀ listed : Array Bool, listed.size = ops.size → (∀ j, j < ops.size → listed.getD j true = decide (j < p)) → Region.lexFrom .any ops m p listed = true) → KK env S → K la env S) : ∀ (l : List Oper) (k : Nat) (listed la : Array Bool) (env : List V) (S : Mem), (∀ j, j < l.length → l[j]? = ops[k + j]?) → k + l.length = p → listed.size = ops.size → la.size = ops.size → (∀ j, j < ops.size → listed.getD j true = decide (j < k)) → (∀ j, j < ops.size → la.getD j true = (decide (j < k) || lY A j)) →
 Region.lexFrom .any ops (l.length + m) k listed = true → Hr P I ops A W MM KK l k env S → uf P I ops A W p MM K (Ei A k l.length) la env S
 | [], k, listed, la, env, S, _, MC, mw, dG, TY, ux, hB, h => by
  have MC : k = p := by simpa using MC
  subst MC
  refine ⟨h.1, fun j hj => ?_, V7 la env S dG ux (fun li hli NB => ?_) h.2⟩
  ·rw [ux j (by omega), decide_eq_true hj, Bool.true_or]
  ·have e : li = listed := by
    apply Array.ext
    ·omega
    ·intro j hj eJ
     have h1 := NB j (by omega)
     have h2 := TY j (by omega)
     simp [hj, eJ] at h1 h2
     rw [h1, h2]
   rw [e]
   simpa using hB
 | o :: l, k, listed, la, env, S, hl, MC, mw, dG, TY, ux, hB, h => by
  have h0 : ops[k]? = some o := by simpa using (hl 0 (by simp)).symm
  have hk := (Array.getElem?_eq_some_iff.1 h0).1
  have TZ : k < p := by simp at MC; omega
  rw [show (o :: l).length + m = (l.length + m) + 1 by simp; omega] at hB
  simp only [Region.lexFrom, Bool.and_eq_true] at hB
  obtain ⟨⟨hr, hf⟩, Mx⟩ := hB
  have kU : ∀ j, j < l.length → l[j]? = ops[k + 1 + j]? := fun j hj => by
   have := hl (j + 1) (by simp; omega)
   simpa [Nat.add_assoc, Nat.add_comm 1 j] using this
  have gy : ∀ j, j < ops.size → (listed.setIfInBounds k true).getD j true = decide (j < k + 1) := by
   intro j hj
   by_cases oN : k = j
   ·subst oN
    have : decide (k < k + 1) = true := decide_eq_true (by omega)
    rw [this]
    by_cases hs : k < listed.size <;> simp [hs]
   ·rw [getD_set_ne true oN, TY j hj]
    exact decide_eq_decide.2 (by omega)
  have hlen : (o :: l).length = l.length + 1 := rfl
  cases ha : lY A k with
  | true =>
   rw [hlen, Ei, ha, cond_true]
   refine qY Nz NA Sz MA m V7 l (k + 1) _ la env S kU (by simp at MC; omega) (by simpa using mw) dG gy (fun j hj => ?_) Mx (h.1 ha)
   rw [ux j hj]
   by_cases oN : j = k
   ·subst oN
    simp [ha]
   ·congr 1
    exact decide_eq_decide.2 (by omega)
  | false =>
   rw [hlen, Ei, ha, cond_false]
   have Bv : ∀ j, j < ops.size → (la.setIfInBounds k true).getD j true = (decide (j < k + 1) || lY A j) := by
    intro j hj
    by_cases oN : k = j
    ·subst oN
     have : decide (k < k + 1) = true := decide_eq_true (by omega)
     rw [this, Bool.true_or]
     by_cases hs : k < la.size <;> simp [hs]
    ·rw [getD_set_ne true oN, ux j hj]
     congr 1
     exact decide_eq_decide.2 (by omega)
   have V8 : la.getD k true = false := by rw [ux k hk, ha, Bool.or_false]; exact decide_eq_false (Nat.lt_irrefl k)
   have ue : ∀ j, j < ops.size → listed.getD j true = true → la.getD j true = true := fun j hj h1 => by rw [ux j hj, ← TY j hj, h1, Bool.true_or]
   have V9 : k ∈ Region.ready .any ops la := sA dG ue mw (by simpa using hr) V8
   have Q8 : qU ops listed k o := Region.free_spec h0 hf
   have fO : qU ops la k o := fun j oj iX oN kV zB => Q8 j oj iX oN (by
    have QO := (Array.getElem?_eq_some_iff.1 iX).1
    rw [ux j QO, Bool.or_eq_false_iff] at kV
    rw [TY j QO]; exact kV.1) zB
   cases hw : W.contains k with
   | true =>
    obtain ⟨hS, Q, bV, FQ, Hl, hK⟩ := (h.2 ha).1 hw
    refine Eh (U := desc ops k) h0 TZ hw _ la env S hS fO (Bx Nz hk ha ux) (fun j oj iX oQ kV => ?_) V9 ⟨Q, bV, FQ, Hl, fun v S' hQ => qY Nz NA Sz MA m V7 l (k + 1) _ _ _ _ kU (by simp at MC; omega) (by simpa using mw) (by simpa using dG) gy Bv Mx (hK v S' hQ)⟩
    rw [ux j (Array.getElem?_eq_some_iff.1 iX).1, Bool.or_eq_false_iff] at kV
    have Xu := of_decide_eq_false kV.1
    have h1 := List.all_eq_true.1 (List.all_eq_true.1 MA k (List.contains_iff_mem.1 hw)) j (List.contains_iff_mem.1 oQ)
    rw [Bool.or_eq_true] at h1
    rcases h1 with h | h
    ·exact .inl (by have := Nat.le_of_ble_eq_true h; omega)
    ·exact .inr h
   | false =>
    obtain ⟨v, hv, hK⟩ := (h.2 ha).2 hw
    exact Eg h0 TZ hw _ la env S fO V9 hv (qY Nz NA Sz MA m V7 l (k + 1) _ _ _ _ kU (by simp at MC; omega) (by simpa using mw) (by simpa using dG) gy Bv Mx hK)
theorem xZ (a : Nat) : ∀ (l : List Nat) (N : Nat) (env : List V), gE ops N (l ++ [a]) env = aK (gE ops N l env) (bD ops a).dst (Ef ops a (N + l.length))
 | [], N, env => rfl
 | b :: l, N, env => by
  rw [List.cons_append, gE, xZ a l, gE, List.length_cons, Nat.add_assoc, Nat.add_comm 1]
theorem vg {d : Option Tmp} (v : V) : ∀ (l : List Nat) (N : Nat) (env : List V), (∀ a ∈ l, ∀ t, d = some t → (bD ops a).dst ≠ some t) → gE ops N l (aK env d v) = aK (gE ops N l env) d v
 | [], _, _, _ => rfl
 | a :: l, N, env, h => by
  rw [gE, gE, ← vg v l (N + 1) _ fun b hb => h b (List.mem_cons_of_mem _ hb), gU env v _ fun t ht => h a List.mem_cons_self t ht]
theorem zI {o : Oper} {v : V} : ∀ (l : List Nat) (N : Nat) (env : List V), (∀ a ∈ l, ∀ t, (bD ops a).dst = some t → t ∉ o.looksAt ops) → (QC P I ops MM o (gE ops N l env) v ↔ QC P I ops MM o env v)
 | [], _, _, _ => Iff.rfl
 | a :: l, N, env, h => by
  rw [gE, zI l (N + 1) _ fun b hb => h b (List.mem_cons_of_mem _ hb)]
  exact QC.congr fun t ht => h a List.mem_cons_self t ht
theorem FR {o : Oper} {S : Mem} {Q : V → Mem → Prop} : ∀ (l : List Nat) (N : Nat) (env : List V), (∀ a ∈ l, ∀ t, (bD ops a).dst = some t → t ∉ o.looksAt ops) → (WX P I ops A o (gE ops N l env) S Q ↔ WX P I ops A o env S Q)
 | [], _, _, _ => Iff.rfl
 | a :: l, N, env, h => by
  rw [gE, FR l (N + 1) _ fun b hb => h b (List.mem_cons_of_mem _ hb)]
  exact WX.congr fun t ht => h a List.mem_cons_self t ht
structure Xy (P : Program) (ops : Array Oper) (A : List Nat) (p : Nat) : Prop where
 lt : ∀ a ∈ A, a < p
 op : ∀ a ∈ A, ∃ o, ops[a]? = some o ∧ o.guard = none ∧ TX P o.op = true ∧ (∀ e ∈ o.after, Region.binds .any e = false)
 el : ∀ a ∈ A, ∀ j oj, j < p → j ≠ a → ops[j]? = some oj → (∀ e ∈ oj.after, Region.binds .any e = true → e.on ≠ a) ∧ (∀ t, (bD ops a).dst = some t → oj.dst ≠ some t ∧ t ∉ oj.looksAt ops)
 nd : A.Nodup
theorem ya : ∀ {l : List Nat}, nodupB l = true → l.Nodup
 | [], _ => List.nodup_nil
 | a :: l, h => by
  rw [nodupB, Bool.and_eq_true] at h
  refine List.nodup_cons.2 ⟨fun hm => ?_, ya h.2⟩
  rw [js.2 hm] at h
  cases h.1
theorem Q9 (h : V6 P ops A p = true) : Xy P ops A p := by
 rw [V6, Bool.and_eq_true, List.all_eq_true] at h
 obtain ⟨hn, h⟩ := h
 refine ⟨fun a ha => ?_, fun a ha => ?_, fun a ha j oj hj Q4 iX => ?_, ya hn⟩
 ·have := h a ha
  rw [Bool.and_eq_true] at this
  have := Nat.le_of_ble_eq_true this.1
  omega
 ·have h1 := h a ha
  rw [Bool.and_eq_true] at h1
  have h2 := h1.2
  split at h2
  ·rename_i o ho
   simp only [Bool.and_eq_true] at h2
   refine ⟨o, ho, by simpa using h2.1.1.1, h2.1.1.2, fun e he => ?_⟩
   have h3 := h2.1.2
   rw [Array.all_eq_true'] at h3
   simpa using h3 e he
  ·cases h2
 ·have h1 := h a ha
  rw [Bool.and_eq_true] at h1
  have h2 := h1.2
  split at h2
  ·rename_i o ho
   simp only [Bool.and_eq_true] at h2
   have h4 := List.all_eq_true.1 h2.2 j (List.mem_range.2 hj)
   rw [show (j == a) = false from beq_eq_false_iff_ne.2 Q4, Bool.false_or, iX] at h4
   simp only [Bool.and_eq_true] at h4
   have e : bD ops a = o := by unfold bD; rw [ho]
   refine ⟨fun e he hb Nt => ?_, fun t ht => ?_⟩
   ·have h5 := h4.1
    rw [Array.all_eq_true'] at h5
    have h6 := h5 e he
    rw [hb, Nt] at h6
    simp at h6
   ·rw [e] at ht
    have h5 := h4.2
    rw [ht] at h5
    simp only [Bool.and_eq_true, Bool.not_eq_true', beq_eq_false_iff_ne, List.contains_eq_mem] at h5
    exact ⟨h5.1, by simpa using h5.2⟩
  ·cases h2
theorem FT {P : Program} {ev : Operand → V} {op : Op} {S : Mem} {v : V} {S' : Mem} (hw : kz op = false) (hl : Hq op = false) (h : cU P ev S op = some (v, S')) : ∀ S2 : Mem, cU P ev S2 op = some (v, S2) := by
 intro S2
 have st : ∀ {r : Option V}, still S r = some (v, S') → still S2 r = some (v, S2) := by
  intro r hr
  obtain ⟨u, hu, e⟩ := Option.map_eq_some_iff.1 hr
  obtain ⟨rfl, rfl⟩ := Prod.mk.inj e
  rw [hu]; rfl
 cases op <;> simp only [cU] at h ⊢ <;> try (cases h; done)
 all_goals try (cases hw; done)
 all_goals try (cases hl; done)
 case move x => cases h; rfl
 case assign x => cases h; rfl
 case pick c a b =>
  split at h
  ·cases h; rfl
  ·cases h
 case build t ps => exact st h
 case buildSlice t n ps => exact st h
 case nilCheck x =>
  split at h
  ·cases h; rfl
  ·cases h; rfl
  ·cases h
 case binOp o t x y u => exact st h
 case unOp o t x => exact st h
 case convert s d x => exact st h
 case makeFunc fn first caps =>
  cases fn <;> simp only at h ⊢ <;> cases h
  rfl
 case slice t x lo hi mx =>
  cases mx <;> simp only at h ⊢
  ·exact st h
  ·cases h
 case fieldAddr s x f => exact st h
 case field s x f => exact st h
 case indexAddr t x i => exact st h
 case index t x i => exact st h
 case extract x i =>
  split at h
  ·exact st h
  ·cases h
 case call c =>
  unfold dw at h ⊢
  split at h
  ·exact st h
  ·rename_i hc _ _; simp [kz, hc] at hw
  ·exact st h
  ·exact st h
  ·rename_i hc _ _; simp [kz, hc] at hw
  ·cases h
def Ku (ops : Array Oper) : Prop := ∀ k, k < ops.size → ∃ o, ops[k]? = some o ∧ ∀ la : Array Bool, la.size = ops.size → (∀ j, j < k → la.getD j true = true) → la.getD k true = false → k ∈ Region.ready .any ops la ∧ qU ops la k o
theorem vh : ∀ (n k : Nat) (listed : Array Bool), listed.size = ops.size → (∀ j, j < ops.size → listed.getD j true = decide (j < k)) → Region.lexFrom .any ops n k listed = true → ∀ i, k ≤ i → i < k + n → i < ops.size →
 ∃ o, ops[i]? = some o ∧ ∀ la : Array Bool, la.size = ops.size → (∀ j, j < i → la.getD j true = true) → la.getD i true = false → i ∈ Region.ready .any ops la ∧ qU ops la i o
 | 0, k, _, _, _, _, i, h1, h2, _ => by omega
 | n + 1, k, listed, dG, hl, hB, i, h1, h2, h3 => by
  simp only [Region.lexFrom, Bool.and_eq_true] at hB
  obtain ⟨⟨hr, hf⟩, Mx⟩ := hB
  by_cases Wa : i = k
  ·subst Wa
   have h0 : ops[i]? = some ops[i] := Array.getElem?_eq_getElem h3
   refine ⟨_, h0, fun la yb NB hu => ⟨sA yb (fun j hj h => NB j (by rw [hl j hj] at h; exact of_decide_eq_true h)) dG (by simpa using hr) hu, fun j oj iX fh kV zB => ?_⟩⟩
   refine Region.free_spec h0 hf j oj iX fh ?_ zB
   have QO := (Array.getElem?_eq_some_iff.1 iX).1
   rw [hl j QO]
   refine decide_eq_false fun au => ?_
   rw [NB j au] at kV
   cases kV
  ·refine vh n (k + 1) _ (by simpa using dG) (fun j hj => ?_) Mx i (by omega) (by omega) h3
   by_cases oN : k = j
   ·subst oN
    have : decide (k < k + 1) = true := decide_eq_true (by omega)
    rw [this]
    by_cases hs : k < listed.size <;> simp [hs]
   ·rw [getD_set_ne true oN, hl j hj]
    exact decide_eq_decide.2 (by omega)
def Ra (ops : Array Oper) (p i : Nat) : Bool := (List.range ops.size).any fun j => !Nat.ble (j + 1) p && !(desc ops i).contains j
def Ej (ops : Array Oper) (A : List Nat) (p : Nat) : Bool := (List.range p).all fun i => !Ra ops p i || (!lY A i && (match ops[i]? with
 | some o => !kz o.op && !Hq o.op
 | none => false))
def T3 (ops : Array Oper) (A : List Nat) (p : Nat) : Prop := ∀ i, i < p → (∀ j oj, p ≤ j → ops[j]? = some oj → j ∈ desc ops i) ∨ (lY A i = false ∧ ∃ o, ops[i]? = some o ∧ kz o.op = false ∧ Hq o.op = false)
theorem Hs (h : Ej ops A p = true) : T3 ops A p := by
 intro i hi
 have h1 := List.all_eq_true.1 h i (List.mem_range.2 hi)
 rw [Bool.or_eq_true] at h1
 rcases h1 with h1 | h1
 ·left
  intro j oj hj iX
  have h2 : Ra ops p i = false := by simpa using h1
  unfold Ra at h2
  rw [List.any_eq_false] at h2
  have h3 := h2 j (List.mem_range.2 (Array.getElem?_eq_some_iff.1 iX).1)
  have hb : Nat.ble (j + 1) p = false := by
   cases hb : Nat.ble (j + 1) p with
   | false => rfl
   | true => have := Nat.le_of_ble_eq_true hb; omega
  rw [hb] at h3
  simpa using h3
 ·right
  rw [Bool.and_eq_true] at h1
  refine ⟨by simpa using h1.1, ?_⟩
  have h2 := h1.2
  split at h2
  ·rename_i o ho
   rw [Bool.and_eq_true] at h2
   exact ⟨o, ho, by simpa using h2.1, by simpa using h2.2⟩
  ·cases h2
def Ht (ops : Array Oper) (listed : Array Bool) : Prop := ∀ (j : Nat) (o : Oper), ops[j]? = some o → listed.getD j true = true → ∀ e ∈ o.after, Region.binds .any e = true → listed.getD e.on true = true
theorem Ht.desc {listed : Array Bool} (h : Ht ops listed) {k : Nat} (hk : listed.getD k true = false) : ∀ j ∈ desc ops k, listed.getD j true = false := by
 have key : ∀ (l acc : List Nat), (∀ x ∈ acc, listed.getD x true = false) → ∀ x ∈ l.foldl (pP ops k) acc, listed.getD x true = false := by
  intro l
  induction l with
  | nil => exact fun _ h => h
  | cons q l ih =>
   intro acc ha
   refine ih _ fun x hx => ?_
   unfold pP at hx
   cases hb : Nat.ble q k with
   | true => rw [hb] at hx; exact ha x hx
   | false =>
    rw [hb] at hx
    simp only [cond_false] at hx
    split at hx
    ·rename_i o ho
     cases qS : (o.after.any fun e => Region.binds .any e && acc.contains e.on) with
     | false => rw [qS] at hx; exact ha x hx
     | true =>
      rw [qS] at hx
      rcases List.mem_cons.1 hx with rfl | hx
      ·rw [Array.any_eq_true] at qS
       obtain ⟨e, Ec, h3⟩ := qS
       rw [Bool.and_eq_true] at h3
       have h4 := ha _ (List.contains_iff_mem.1 h3.2)
       cases hl : listed.getD x true with
       | false => rfl
       | true => rw [h x o ho hl _ (Array.getElem_mem Ec) h3.1] at h4; cases h4
      ·exact ha x hx
    ·exact ha x hx
 exact key _ _ fun x hx => by rw [List.mem_singleton.1 hx]; exact hk
theorem Ht.set {listed : Array Bool} (h : Ht ops listed) {i : Nat} {oi : Oper} (xl : ops[i]? = some oi) (iL : ∀ e ∈ oi.after, Region.binds .any e = true → listed.getD e.on true = true) : Ht ops (listed.setIfInBounds i true) := by
 have up : ∀ x, listed.getD x true = true → (listed.setIfInBounds i true).getD x true = true := fun x hx => by
  by_cases ZM : i = x
  ·subst ZM
   by_cases hs : i < listed.size <;> simp [hs]
  ·rw [getD_set_ne true ZM]; exact hx
 intro j o ho hl e he hb
 by_cases ZN : i = j
 ·subst ZN
  rw [xl] at ho
  obtain rfl := Option.some.inj ho
  exact up _ (iL e he hb)
 ·rw [getD_set_ne true ZN] at hl
  exact up _ (h j o ho hl e he hb)
theorem sB {KK : List V → Mem → Prop} : ∀ (n : Nat) (la : Array Bool) (env : List V) (S : Mem), jI P I ops W MM KK n la env S → jI P I ops W MM KK (n + 1) la env S
 | 0, la, env, S, h => ⟨h.1, fun _ => h.2.2, fun i hi => by rw [h.2.1] at hi; cases hi⟩
 | n + 1, la, env, S, h => by
  refine ⟨h.1, h.2.1, fun i hi => ?_⟩
  obtain ⟨o, ho, ⟨hw, Q, bV, hq, hk⟩ | ⟨hw, v, hq, hk⟩⟩ := h.2.2 i hi
  ·exact ⟨o, ho, .inl ⟨hw, Q, bV, hq, fun v S' h' => sB n _ _ _ (hk v S' h')⟩⟩
  ·exact ⟨o, ho, .inr ⟨hw, v, hq, sB n _ _ _ hk⟩⟩
theorem FU {KK : List V → Mem → Prop} {n m : Nat} (SA : n ≤ m) {la : Array Bool} {env : List V} {S : Mem} (h : jI P I ops W MM KK n la env S) : jI P I ops W MM KK m la env S := by
 induction SA with
 | refl => exact h
 | step _ ih => exact sB _ _ _ _ ih
theorem vi (f : Nat → Bool) : ∀ q, (∀ j, j < q → f j = true) ∨ ∃ i, i < q ∧ f i = false ∧ ∀ j, j < i → f j = true
 | 0 => .inl fun j hj => absurd hj (Nat.not_lt_zero j)
 | q + 1 => by
  rcases vi f q with h1 | ⟨i, h1, h2⟩
  ·cases hx : f q with
   | true =>
    refine .inl fun j hj => ?_
    rcases Nat.lt_succ_iff_lt_or_eq.1 hj with h3 | rfl
    ·exact h1 j h3
    ·exact hx
   | false => exact .inr ⟨q, by omega, hx, h1⟩
  ·exact .inr ⟨i, by omega, h2⟩
theorem yc {KK : List V → Mem → Prop} {rest : Nat} (hL : Ku ops) (hA : Xy P ops A p) (PN : ∀ i o, ops[i]? = some o → W.contains i = true → kz o.op = true) (NA : p ≤ ops.size) {done : List Nat} (hd : ∀ a ∈ done, a ∈ A)
 (hK : ∀ la env S, la.size = ops.size → K la env S → jI P I ops W (fun _ => True) KK rest la (gE ops S.boxes.length done env) (kS S (done.map (zA P ops)))) :
 ∀ (n : Nat) (la : Array Bool) (env : List V) (S : Mem), la.size = ops.size → uf P I ops A W p MM K n la env S → (∀ i, i < p → la.getD i true = false → lY A i = false ∧ ∃ o, ops[i]? = some o ∧ kz o.op = false ∧ Hq o.op = false) →
  jI P I ops W (fun _ => True) KK (rest + n) la (gE ops S.boxes.length done env) (kS S (done.map (zA P ops)))
 | 0, la, env, S, dG, h, _ => hK la env S dG h.2.2
 | n + 1, la, env, S, dG, h, hu => by
  by_cases iL : ∀ j, j < p → la.getD j true = true
  ·exact FU (by omega) (hK la env S dG (h.2.1 iL))
  ·obtain ⟨i, AP, T4, xm⟩ : ∃ i, i < p ∧ la.getD i true = false ∧ ∀ j, j < i → la.getD j true = true := by
    rcases vi (fun j => la.getD j true) p with h1 | h1
    ·exact absurd h1 iL
    ·exact h1
   obtain ⟨vj, o, ho, hw, hl⟩ := hu i AP T4
   obtain ⟨o', PO, Kv⟩ := hL i (by omega)
   rw [ho] at PO
   obtain rfl := Option.some.inj PO
   obtain ⟨hr, fO⟩ := Kv la dG xm T4
   obtain ⟨o', PO, vk⟩ := h.2.2 i hr AP
   rw [ho] at PO
   obtain rfl := Option.some.inj PO
   rcases vk with ⟨nZ, _⟩ | ⟨nZ, v, hq, hn⟩
   ·rw [PN i o ho nZ] at hw; cases hw
   ·have T5 : ∀ x ∈ done, i ≠ x := fun x hx e => by
     have := js.2 (hd x hx)
     rw [← e, vj] at this
     cases this
    have Jx : ∀ x ∈ done, ∀ t, (bD ops x).dst = some t → t ∉ o.looksAt ops := fun x hx t ht => ((hA.el x (hd x hx) i o AP (T5 x hx) ho).2 t ht).2
    have AK : ∀ x ∈ done, ∀ t, o.dst = some t → (bD ops x).dst ≠ some t := fun x hx t ht h2 => ((hA.el x (hd x hx) i o AP (T5 x hx) ho).2 t h2).1 ht
    have ih := yc hL hA PN NA hd hK n (la.setIfInBounds i true) (aK env o.dst v) S (by simpa using dG) hn (fun j hj kV => by
     have fh : i ≠ j := fun e => by
      subst e
      have : (la.setIfInBounds i true).getD i true = true := by by_cases hs : i < la.size <;> simp [hs]
      rw [this] at kV; cases kV
     rw [getD_set_ne true fh] at kV
     exact hu j hj kV)
    rw [vg v done _ _ AK] at ih
    have hqt : QC P I ops (fun _ => True) o env v := by
     rcases hq with ⟨hg, hq⟩ | hq
     ·exact .inl ⟨hg, fun S2 _ => FT hw hl (hq S h.1) S2⟩
     ·exact .inr hq
    exact qi ho nZ (rest + n) la _ _ fO hr ((zI done S.boxes.length env Jx).2 hqt) ih
theorem vl {z : Nat × Nat} {fn : FuncId} {k : List Item} {R : V → Mem → Prop} {rest : Nat} (hs : T3 ops A p) (hL : Ku ops) (PN : ∀ i o, ops[i]? = some o → W.contains i = true → kz o.op = true) (NA : p ≤ ops.size) (hA : Xy P ops A p) (QF : ∀ S Z, MM S → MM (kS S Z))
 (hK : ∀ la env S, la.size = ops.size → K la env S → ∀ done : List Nat, done.Perm A → jI P I ops W (fun _ => True) (fun env S => af P I z fn k env S R) rest la (gE ops S.boxes.length done env) (kS S (done.map (zA P ops)))) :
 ∀ (q n m : Nat), q = n + m → ∀ (t : Nat) (la listed : Array Bool) (env : List V) (S : Mem) (done oa : List Nat), uf P I ops A W p MM K n la env S → (done ++ oa).Perm A → oa.length = m → listed.size = ops.size → la.size = ops.size → (∀ j, j < ops.size → la.getD j true = (listed.getD j true || lY oa j)) → (∀ j ∈ oa, listed.getD j true = false) → Ht ops listed → (∀ j ∈ done, listed.getD j true = true) →
  af P I z fn (.inRegion ops (Region.linearise.go .any ops (q + rest) t listed []) :: k) (gE ops S.boxes.length done env) (kS S (done.map (zA P ops))) R
 | q, n, m, hq, t, la, listed, env, S, done, oa, h, hp, hm, mw, dG, hrel, kV, jY, SB => by
  have Wb : ∀ a ∈ oa, a ∈ A := fun a ha => hp.mem_iff.1 (List.mem_append_right _ ha)
  have Wc : ∀ a ∈ done, a ∈ A := fun a ha => hp.mem_iff.1 (List.mem_append_left _ ha)
  have MD : ∀ a ∈ oa, a ∈ Region.ready .any ops listed := fun a ha => by
   obtain ⟨o, ho, _, _, zB⟩ := hA.op a (Wb a ha)
   exact mem_ready.2 ⟨kV a ha, o, ho, fun e he hb => by rw [zB e he] at hb; cases hb⟩
  have heq : oa = [] → la = listed := fun h0 => by
   apply Array.ext
   ·omega
   ·intro j hj eJ
    have h1 := hrel j (by omega)
    rw [h0] at h1
    simp [hj, eJ, lY] at h1
    exact h1
  -- is there SC ahead of p Xz the rest waits abQ
  by_cases T6 : ∃ i, i < p ∧ listed.getD i true = false ∧ ∀ j oj, p ≤ j → ops[j]? = some oj → j ∈ desc ops i
  case neg =>
   have Nc : ∀ i, i < p → listed.getD i true = false → lY A i = false ∧ ∃ o, ops[i]? = some o ∧ kz o.op = false ∧ Hq o.op = false := fun i hi hu => by
    rcases hs i hi with h1 | h1
    ·exact absurd ⟨i, hi, hu, h1⟩ T6
    ·exact h1
   have h0 : oa = [] := List.eq_nil_iff_forall_not_mem.2 fun a ha => by
    have := (Nc a (hA.lt a (Wb a ha)) (kV a ha)).1
    rw [js.2 (Wb a ha)] at this
    cases this
   have yb := heq h0
   subst yb
   have XA : done.Perm A := by rw [h0, List.append_nil] at hp; exact hp
   have hC := yc hL hA PN NA Wc (fun la env S hs hk => hK la env S hs hk done XA) n la env S dG h Nc
   exact qW _ t la _ _ (FU (by omega) hC)
  case pos =>
  obtain ⟨i0, hi0, We, hw0⟩ := T6
  obtain ⟨q, rfl⟩ : ∃ q', q = q' + 1 := by
   cases q with
   | succ q => exact ⟨q, rfl⟩
   | zero =>
    exfalso
    obtain rfl : n = 0 := by omega
    have Qz : oa = [] := List.eq_nil_of_length_eq_zero (by omega)
    have := h.2.1 i0 hi0
    rw [heq Qz, We] at this
    cases this
  have bV : Region.ready .any ops listed ≠ [] := by
   by_cases Qz : oa = []
   ·-- the first Xz is left is ready
    rcases vi (fun j => listed.getD j true) (i0 + 1) with h1 | ⟨i, hi, h1, h2⟩
    ·rw [h1 i0 (by omega)] at We; cases We
    ·obtain ⟨o, _, Kv⟩ := hL i (by omega)
     exact List.ne_nil_of_mem (Kv listed mw h2 h1).1
   ·obtain ⟨a, l, Wf⟩ := List.exists_cons_of_ne_nil Qz
    exact List.ne_nil_of_mem (MD a (by rw [Wf]; exact List.mem_cons_self))
  rw [show q + 1 + rest = (q + rest) + 1 by omega]
  simp only [Region.linearise.go]
  change af P I z fn (.inRegion ops (match (Region.ready .any ops listed)[t % (Region.ready .any ops listed).length]? with
   | some i => Region.linearise.go .any ops (q + rest) (t / (Region.ready .any ops listed).length) (listed.setIfInBounds i true) [i]
   | none => [].reverse) :: k) (gE ops S.boxes.length done env) (kS S (done.map (zA P ops))) R
  cases hi : (Region.ready .any ops listed)[t % (Region.ready .any ops listed).length]? with
  | none =>
   exfalso
   cases hr : Region.ready .any ops listed with
   | nil => exact bV hr
   | cons x xs =>
    rw [hr] at hi
    have au : t % (x :: xs).length < (x :: xs).length := Nat.mod_lt _ (by simp)
    simp at hi
    simp at au
    omega
  | some i =>
   simp only []
   rw [linearise_go_acc, List.reverse_singleton, List.singleton_append]
   have ZO := List.mem_of_getElem? hi
   obtain ⟨T4, oi, xl, iL⟩ := mem_ready.1 ZO
   have XB := (Array.getElem?_eq_some_iff.1 xl).1
   have T7 : ∀ e ∈ oi.after, Region.binds .any e = true → listed.getD e.on true = true := fun e he hb => by
    have h1 := iL e he hb
    rcases Nat.lt_or_ge e.on listed.size with h2 | h2
    ·simp [h2] at h1 ⊢; exact h1
    ·simp [Array.getElem?_eq_none h2] at h1
   have Rb := jY.set xl T7
   have NC : i < p := by
    rcases Nat.lt_or_ge i p with h' | h'
    ·exact h'
    ·rcases qV (hw0 i oi h' xl) with h1 | ⟨_, oj, iX, e, he, hb, Nt⟩
     ·omega
     ·rw [xl] at iX
      obtain rfl := Option.some.inj iX
      have h2 := jY.desc We _ Nt
      rw [T7 e he hb] at h2
      cases h2
   by_cases AP : i ∈ oa
   ·-- a new box
    obtain ⟨o, ho, hg, dA, _⟩ := hA.op i (Wb i AP)
    have eo : bD ops i = o := by unfold bD; rw [ho]
    have yd : cU P (ah I (gE ops S.boxes.length done env)) (kS S (done.map (zA P ops))) o.op = some (Ef ops i (S.boxes.length + done.length), kS S ((done ++ [i]).map (zA P ops))) := by
     have e1 : (kS S (done.map (zA P ops))).boxes.length = S.boxes.length + done.length := by simp [kS]
     cases nF : o.op with
     | alloc t =>
      rw [nF] at dA
      obtain ⟨ti, jF⟩ := Option.isSome_iff_exists.1 dA
      simp only [cU, jF, e1]
      simp only [Ef, zA, eo, nF, jF, List.map_append, List.map_cons, List.map_nil, kS, List.append_assoc]
     | makeMap t r =>
      rw [nF] at dA
      cases r with
      | none =>
       simp only [cU, e1]
       simp only [Ef, zA, eo, nF, List.map_append, List.map_cons, List.map_nil, kS, List.append_assoc]
      | some r => cases dA
     | _ => rw [nF] at dA; cases dA
    refine af.op ho (.inl hg) yd ?_
    rw [← eo, ← xZ]
    refine vl hs hL PN NA hA QF hK q n (m - 1) (by have := List.length_pos_of_mem AP; omega) _ la _ env S (done ++ [i]) (oa.erase i) h ?_ ?_ (by simpa using mw) dG (fun j hj => ?_) (fun j hj => ?_) Rb (fun j hj => ?_)
    ·rw [List.append_assoc, List.singleton_append]
     exact ((List.perm_cons_erase AP).symm.append_left done).trans hp
    ·rw [List.length_erase_of_mem AP, hm]
    ·rw [hrel j hj]
     by_cases fh : i = j
     ·subst fh
      have h1 : (listed.setIfInBounds i true).getD i true = true := by by_cases hs : i < listed.size <;> simp [hs]
      rw [h1, Bool.true_or, js.2 AP, Bool.or_true]
     ·rw [getD_set_ne true fh]
      congr 1
      rw [Bool.eq_iff_iff, js, js, List.mem_erase_of_ne (fun e => fh e.symm)]
    ·have ZP : oa.Nodup := (List.nodup_append.1 (hp.nodup_iff.2 hA.nd)).2.1
     have fh : i ≠ j := fun e => by subst e; exact (List.Nodup.not_mem_erase ZP) hj
     rw [getD_set_ne true fh]
     exact kV j (List.mem_of_mem_erase hj)
    ·by_cases fh : i = j
     ·subst fh
      by_cases hs : i < listed.size <;> simp [hs]
     ·rw [getD_set_ne true fh]
      rcases List.mem_append.1 hj with hj | hj
      ·exact SB j hj
      ·exact absurd (List.mem_singleton.1 hj).symm fh
   ·have V8 : la.getD i true = false := by
     rw [hrel i XB, T4, Bool.false_or]
     cases hx : lY oa i with
     | false => rfl
     | true => exact absurd (js.1 hx) AP
    have V9 := sA dG (fun j hj h1 => by rw [hrel j hj, h1, Bool.true_or]) mw ZO V8
    obtain ⟨n', rfl⟩ : ∃ n', n = n' + 1 := by
     cases n with
     | succ n' => exact ⟨n', rfl⟩
     | zero =>
      have := h.2.1 i NC
      rw [V8] at this
      cases this
    obtain ⟨hS, _, T8⟩ := h
    obtain ⟨o, ho, vk⟩ := T8 i V9 NC
    have vj : ∀ x ∈ done, i ≠ x := fun x hx e => by
     have := SB x hx
     rw [← e, T4] at this
     cases this
    have Jx : ∀ x ∈ done, ∀ t, (bD ops x).dst = some t → t ∉ o.looksAt ops := fun x hx t ht => ((hA.el x (Wc x hx) i o NC (vj x hx) ho).2 t ht).2
    have AK : ∀ x ∈ done, ∀ t, o.dst = some t → (bD ops x).dst ≠ some t := fun x hx t ht h2 => ((hA.el x (Wc x hx) i o NC (vj x hx) ho).2 t h2).1 ht
    have St : A = [] → done = [] := fun h0 => List.eq_nil_iff_forall_not_mem.2 fun x hx => by have := Wc x hx; rw [h0] at this; cases this
    have next : ∀ v S', (S'.boxes.length = S.boxes.length ∨ A = []) → uf P I ops A W p MM K n' (la.setIfInBounds i true) (aK env o.dst v) S' → ∀ t, af P I z fn (.inRegion ops (Region.linearise.go .any ops (q + rest) t (listed.setIfInBounds i true) []) :: k) (aK (gE ops S.boxes.length done env) o.dst v) (kS S' (done.map (zA P ops))) R := by
     intro v S' FQ hn t
     have e : aK (gE ops S.boxes.length done env) o.dst v = gE ops S'.boxes.length done (aK env o.dst v) := by
      rcases FQ with FQ | h0
      ·rw [FQ, vg v done _ _ AK]
      ·rw [St h0]; rfl
     rw [e]
     refine vl hs hL PN NA hA QF hK q n' m (by omega) t _ _ _ S' done oa hn hp hm (by simpa using mw) (by simpa using dG) (fun j hj => ?_) (fun j hj => ?_) Rb (fun j hj => ?_)
     ·by_cases fh : i = j
      ·subst fh
       have h1 : (listed.setIfInBounds i true).getD i true = true := by by_cases hs : i < listed.size <;> simp [hs]
       have h2 : (la.setIfInBounds i true).getD i true = true := by by_cases hs : i < la.size <;> simp [hs]
       rw [h1, h2, Bool.true_or]
      ·rw [getD_set_ne true fh, getD_set_ne true fh]
       exact hrel j hj
     ·rw [getD_set_ne true (fun e => AP (by rw [e]; exact hj))]
      exact kV j hj
     ·rw [getD_set_ne true (vj j hj)]
      exact SB j hj
    rcases vk with ⟨_, Q, _, FQ, hwx, hk⟩ | ⟨_, v, hy, hn⟩
    ·have XC := (FR (A := A) done S.boxes.length env Jx).2 hwx
     refine WG.step (Q := fun v T => ∃ S', T = kS S' (done.map (zA P ops)) ∧ Q v S') ho ?_ ?_
     ·rcases XC with ⟨hg, hz⟩ | ⟨hg, hq⟩
      ·exact .inl ⟨hg, hz _ fun h0 => by rw [St h0]; rfl⟩
      ·exact .inr ⟨hg, S, rfl, hq⟩
     ·rintro v T ⟨S', rfl, hQ⟩
      exact next v S' (FQ v S' hQ) (hk v S' hQ) _
    ·exact QC.step ho (QF S _ hS) ((zI done S.boxes.length env Jx).2 hy) (next v S (.inl rfl) hn _)
termination_by q => q
end machine
def Ek (L : List Nat) : V → Prop
 | .ptr i _ => pg L i
 | .mp i => pg L i
 | _ => True
abbrev gj := List V → Mem → Prop
def jw (A L : List Nat) (S0 : Mem) (next : gj) (r : Option (V × Mem)) (d : Option Tmp) (env : List V) : Prop :=
 match r with
 | some (v, S') => A = [] ∧ eu L S0 S' ∧ next (aK env d v) S'
 | none => False
def gF (next : gj) (r : Option (V × Mem)) (d : Option Tmp) (env : List V) (S : Mem) : Prop :=
 match r with
 | some (v, _) => next (aK env d v) S
 | none => False
def qZ (L : List Nat) (a : V) (next : gj) (r : Option (V × Mem)) (d : Option Tmp) (env : List V) (S : Mem) : Prop :=
 match r with
 | some (v, _) => Ek L a ∧ next (aK env d v) S
 | none => False
def tB (P : Program) (I : Inv) (A L : List Nat) (S0 : Mem) (next : gj) (f : V) (args : List V) (d : Option Tmp) (env : List V) (S : Mem) : Prop :=
 match f with
 | .func g first caps => ∃ Q : V → Mem → Prop, (∃ v S', Q v S') ∧ (∀ v S', Q v S' → S'.boxes.length = S.boxes.length ∨ A = []) ∧ (∀ Z, (A = [] → Z = []) → aD P I g (first ++ args ++ caps) (kS S Z) fun v T => ∃ S', T = kS S' Z ∧ Q v S') ∧ ∀ v S', Q v S' → eu L S0 S' ∧ next (aK env d v) S'
 | _ => False
def T9 (P : Program) (I : Inv) (A L : List Nat) (S0 : Mem) (next : gj) (op : Op) (d : Option Tmp) (env : List V) (S : Mem) : Prop :=
 ∃ Q : V → Mem → Prop, (∃ v S', Q v S') ∧ A = [] ∧ (∀ o : Oper, o.op = op → pO P I o env S Q) ∧ ∀ v S', Q v S' → eu L S0 S' ∧ next (aK env d v) S'
def oR (P : Program) (I : Inv) (A L : List Nat) (S0 : Mem) (next : gj) (op : Op) (d : Option Tmp) (env : List V) (S : Mem) : Prop :=
 match op with
 | .load t a => qZ L (ah I env a) next (cU P (ah I env) S (.load t a)) d env S
 | .lookup t m k ok => qZ L (ah I env m) next (cU P (ah I env) S (.lookup t m k ok)) d env S
 | .store t a x => jw A L S0 next (cU P (ah I env) S (.store t a x)) d env
 | .alloc t => jw A L S0 next (cU P (ah I env) S (.alloc t)) d env
 | .box t x => jw A L S0 next (cU P (ah I env) S (.box t x)) d env
 | .makeMap t r => jw A L S0 next (cU P (ah I env) S (.makeMap t r)) d env
 | .mapUpdate t m k x => jw A L S0 next (cU P (ah I env) S (.mapUpdate t m k x)) d env
 | .call c => match c.callee with
  | .value f => tB P I A L S0 next (ah I env f) (c.args.toList.map (ah I env)) d env S
  | .builtin .append => T9 P I A L S0 next (.call c) d env S ∨ jw A L S0 next (dw P (ah I env) S c) d env
  | .builtin .delete => jw A L S0 next (dw P (ah I env) S c) d env
  | _ => gF next (dw P (ah I env) S c) d env S
 | op => gF next (cU P (ah I env) S op) d env S
def gX (P : Program) (I : Inv) (A L : List Nat) (S0 : Mem) (next : gj) (g : V) (op : Op) (d : Option Tmp) (env : List V) (S : Mem) : Prop :=
 match g with
 | .d (.bool true) => oR P I A L S0 next op d env S
 | .d (.bool false) => next (aK env d (.bZ [])) S
 | _ => False
def Ua (b : Bool) (p q : Prop) : Prop :=
 match b with
 | true => p
 | false => q
def mM (P : Program) (I : Inv) (ops : Array Oper) (A L : List Nat) (S0 : Mem) (K : gj) : Nat → List Oper → gj
 | _, [] => fun env S => eu L S0 S ∧ K env S
 | k, o :: l => fun env S => Ua (lY A k) (mM P I ops A L S0 K (k + 1) l env S) (gX P I A L S0 (mM P I ops A L S0 K (k + 1) l) (FO env ops o) o.op o.dst env S)
def tC : List Nat → (List Nat → Prop) → Prop
 | [], f => f []
 | [a], f => f [a]
 | [a, b], f => f [a, b] ∧ f [b, a]
 | l, f => ∀ d : List Nat, d.Perm l → f d
theorem Kw : ∀ {l : List Nat} {f : List Nat → Prop}, tC l f → ∀ d : List Nat, d.Perm l → f d
 | [], _, h, d, hd => by rw [List.perm_nil.1 hd]; exact h
 | [a], _, h, d, hd => by rw [List.perm_singleton.1 hd]; exact h
 | [a, b], _, h, d, hd => by
  match d, hd with
  | [], hd => exact absurd hd.length_eq (by simp)
  | [_], hd => exact absurd hd.length_eq (by simp)
  | _ :: _ :: _ :: _, hd => exact absurd hd.length_eq (by simp)
  | [x, y], hd =>
   have hx : x ∈ [a, b] := hd.mem_iff.1 List.mem_cons_self
   rcases List.mem_cons.1 hx with rfl | hx
   ·have := List.perm_singleton.1 ((List.perm_cons _).1 hd)
    rw [this]; exact h.1
   ·obtain rfl := List.mem_singleton.1 hx
    have h2 : [x, y].Perm [x, a] := hd.trans (List.Perm.swap _ _ _)
    have := List.perm_singleton.1 ((List.perm_cons _).1 h2)
    rw [this]; exact h.2
 | _ :: _ :: _ :: _, _, h, d, hd => h d hd
section
variable {P : Program} {I : Inv} {ops : Array Oper} {A L : List Nat} {S0 : Mem} {K : gj}
theorem FV {env : List V} {o : Oper} (h : FO env ops o = .d (.bool true)) : dW env ops o := by
 unfold FO at h
 split at h
 ·rename_i hg; exact .inl hg
 ·rename_i j want hg
  unfold D8 at h
  split at h
  ·rename_i t ht
   simp only [V.d.injEq, D.bool.injEq, beq_iff_eq] at h
   subst h
   exact .inr ⟨j, t, hg, ht⟩
  ·cases h
  ·cases h
theorem Ky {env : List V} {o : Oper} (h : FO env ops o = .d (.bool false)) : nS env ops o := by
 unfold FO at h
 split at h
 ·cases h
 ·rename_i j want hg
  unfold D8 at h
  split at h
  ·rename_i t ht
   simp only [V.d.injEq, D.bool.injEq] at h
   exact ⟨j, want, hg, .inl ⟨t, ht, h⟩⟩
  ·rename_i ht; exact ⟨j, want, hg, .inr ht⟩
  ·cases h
theorem ND {ev : Operand → V} {t : TypeId} {a : Operand} {S S2 : Mem} {v : V} {S' : Mem} (hl : Ek L (ev a)) (hk : ∀ i, pg L i → S2.boxes[i]? = S.boxes[i]?) (h : cU P ev S (.load t a) = some (v, S')) : cU P ev S2 (.load t a) = some (v, S2) := by
 simp only [cU] at h ⊢
 obtain ⟨u, hu, e⟩ := Option.map_eq_some_iff.1 h
 obtain ⟨rfl, rfl⟩ := Prod.mk.inj e
 have : fM P S2 t (ev a) = fM P S t (ev a) := by
  unfold fM
  split
  ·rename_i i k hp
   rw [hp] at hl
   rw [hk i hl]
  ·rfl
  ·rfl
 rw [this, hu]; rfl
theorem NF {ev : Operand → V} {t : TypeId} {m k : Operand} {ok : Bool} {S S2 : Mem} {v : V} {S' : Mem} (hl : Ek L (ev m)) (hk : ∀ i, pg L i → S2.boxes[i]? = S.boxes[i]?) (h : cU P ev S (.lookup t m k ok) = some (v, S')) : cU P ev S2 (.lookup t m k ok) = some (v, S2) := by
 simp only [cU] at h ⊢
 obtain ⟨u, hu, e⟩ := Option.map_eq_some_iff.1 h
 obtain ⟨rfl, rfl⟩ := Prod.mk.inj e
 have : cS P S2 t (ev m) (ev k) ok = cS P S t (ev m) (ev k) ok := by
  unfold cS
  split
  ·rename_i z i s hz hp _
   rw [hp] at hl
   rw [hk i hl]
  ·rfl
 rw [this, hu]; rfl
theorem Rc {next : gj} {o : Oper} {env : List V} {S : Mem} (hL : pQ L S0) (hS : Kept L S0 S) (h : oR P I A L S0 next o.op o.dst env S) :
 (kz o.op = true ∧ ∃ Q : V → Mem → Prop, (∃ v S', Q v S') ∧ (∀ v S', Q v S' → S'.boxes.length = S.boxes.length ∨ A = []) ∧ (∀ Z, (A = [] → Z = []) → WO P I o env (kS S Z) fun v T => ∃ S', T = kS S' Z ∧ Q v S') ∧ ∀ v S', Q v S' → eu L S0 S' ∧ next (aK env o.dst v) S') ∨ (kz o.op = false ∧ ∃ v, (∀ S', Kept L S0 S' → cU P (ah I env) S' o.op = some (v, S')) ∧ next (aK env o.dst v) S) := by
 have bind : ∀ r, cU P (ah I env) S o.op = r → kz o.op = true → jw A L S0 next r o.dst env → (kz o.op = true ∧ ∃ Q : V → Mem → Prop, (∃ v S', Q v S') ∧ (∀ v S', Q v S' → S'.boxes.length = S.boxes.length ∨ A = []) ∧ (∀ Z, (A = [] → Z = []) → WO P I o env (kS S Z) fun v T => ∃ S', T = kS S' Z ∧ Q v S') ∧ ∀ v S', Q v S' → eu L S0 S' ∧ next (aK env o.dst v) S') := by
  intro r hr hw hb
  cases r with
  | none => exact hb.elim
  | some p =>
   obtain ⟨v, S'⟩ := p
   obtain ⟨h0, h1, h2⟩ := hb
   refine ⟨hw, fun u T => u = v ∧ T = S', ⟨v, S', rfl, rfl⟩, fun _ _ _ => .inr h0, fun Z hZ => ?_, fun u T ⟨e1, e2⟩ => by subst e1 e2; exact ⟨h1, h2⟩⟩
   rw [hZ h0, iu]
   exact .inl ⟨v, S', hr, S', (iu S').symm, rfl, rfl⟩
 have ZQ : ∀ r, cU P (ah I env) S o.op = r → kz o.op = false → Hq o.op = false → gF next r o.dst env S → (kz o.op = false ∧ ∃ v, (∀ S', Kept L S0 S' → cU P (ah I env) S' o.op = some (v, S')) ∧ next (aK env o.dst v) S) := by
  intro r hr hw hl hb
  cases r with
  | none => exact hb.elim
  | some p =>
   obtain ⟨v, S'⟩ := p
   exact ⟨hw, v, fun S2 _ => FT hw hl hr S2, hb⟩
 have kk : ∀ S', Kept L S0 S' → ∀ i, pg L i → S'.boxes[i]? = S.boxes[i]? := fun S' h' i hi => by
  obtain ⟨vs, hv⟩ := hL.get i hi
  rw [h' i hi vs hv, hS i hi vs hv]
 generalize ho : o.op = op at *
 cases op with
 | load t a =>
  right
  obtain ⟨r, hr⟩ : ∃ r, cU P (ah I env) S (.load t a) = r := ⟨_, rfl⟩
  have h : qZ L (ah I env a) next (cU P (ah I env) S (.load t a)) o.dst env S := h
  rw [hr] at h
  cases r with
  | none => exact h.elim
  | some p => exact ⟨rfl, p.1, fun S2 h2 => ND h.1 (kk S2 h2) hr, h.2⟩
 | lookup t m k ok =>
  right
  obtain ⟨r, hr⟩ : ∃ r, cU P (ah I env) S (.lookup t m k ok) = r := ⟨_, rfl⟩
  have h : qZ L (ah I env m) next (cU P (ah I env) S (.lookup t m k ok)) o.dst env S := h
  rw [hr] at h
  cases r with
  | none => exact h.elim
  | some p => exact ⟨rfl, p.1, fun S2 h2 => NF h.1 (kk S2 h2) hr, h.2⟩
 | store t a x => exact .inl (bind _ rfl rfl h)
 | alloc t => exact .inl (bind _ rfl rfl h)
 | box t x => exact .inl (bind _ rfl rfl h)
 | makeMap t r => exact .inl (bind _ rfl rfl h)
 | mapUpdate t m k x => exact .inl (bind _ rfl rfl h)
 | call c =>
  unfold oR at h
  dsimp only at h
  split at h
  ·rename_i f hf
   left
   unfold tB at h
   split at h
   ·rename_i g first caps hg
    obtain ⟨Q, h1, h0, h2, h3⟩ := h
    exact ⟨by simp [kz, hf], Q, h1, h0, fun Z hZ => .inr (.inl ⟨c, f, g, first, caps, ho, hf, hg, h2 Z hZ⟩), h3⟩
   ·exact h.elim
  ·rename_i hf
   rcases h with ⟨Q, h1, h2, h3, h4⟩ | h
   ·refine .inl ⟨by simp [kz, hf], Q, h1, fun _ _ _ => .inr h2, fun Z hZ => ?_, h4⟩
    rw [hZ h2, iu]
    refine .inr (.inr fun c w ev r1 r2 r3 => ?_)
    obtain ⟨x, w', c', v, S', k1, k2, k3⟩ := h3 o ho c w ev r1 r2 r3
    exact ⟨x, w', c', v, S', k1, ⟨S', (iu S').symm, k2⟩, k3⟩
   ·exact .inl (bind _ rfl (by simp [kz, hf]) h)
  ·rename_i hf; exact .inl (bind _ rfl (by simp [kz, hf]) h)
  ·rename_i h1 h2 h3
   refine .inr (ZQ _ rfl ?_ rfl h)
   unfold kz
   dsimp only
   split
   ·rename_i f hf; exact (h1 f hf).elim
   ·rename_i hf; exact (h2 hf).elim
   ·rename_i hf; exact (h3 hf).elim
   ·rfl
 | _ => exact .inr (ZQ _ rfl rfl rfl h)
theorem Rd {k : Nat} {o : Oper} (h : ops[k]? = some o) (ha : lY A k = false) : (JB A ops).contains k = kz o.op := by
 have hk := (Array.getElem?_eq_some_iff.1 h).1
 rw [Bool.eq_iff_iff, List.contains_iff_mem]
 unfold JB
 rw [List.mem_filter, List.mem_range]
 have : bD ops k = o := by unfold bD; rw [h]
 rw [this, ha, Bool.not_false, Bool.and_true]
 exact ⟨fun h => h.2, fun h => ⟨hk, h⟩⟩
theorem oS (hL : pQ L S0) {K' : gj} (hK : ∀ env S, K env S → K' env S) : ∀ (l : List Oper) (k : Nat) (env : List V) (S : Mem), (∀ j o, l[j]? = some o → ops[k + j]? = some o) → Kept L S0 S → mM P I ops A L S0 K k l env S → Hr P I ops A (JB A ops) (Kept L S0) K' l k env S
 | [], _, _, _, _, hS, h => ⟨hS, hK _ _ h.2⟩
 | o :: l, k, env, S, hl, hS, h => by
  have h0 : ops[k]? = some o := hl 0 o rfl
  have kU : ∀ j o, l[j]? = some o → ops[k + 1 + j]? = some o := fun j o h => by
   have := hl (j + 1) o (by simpa using h)
   rwa [Nat.add_assoc, Nat.add_comm 1 j]
  have h : Ua (lY A k) (mM P I ops A L S0 K (k + 1) l env S) (gX P I A L S0 (mM P I ops A L S0 K (k + 1) l) (FO env ops o) o.op o.dst env S) := h
  cases ha : lY A k with
  | true =>
   rw [ha] at h
   exact ⟨fun _ => oS hL hK l (k + 1) _ S kU hS h, fun hc => by rw [ha] at hc; cases hc⟩
  | false =>
   rw [ha] at h
   refine ⟨fun hc => (by rw [ha] at hc; cases hc), fun _ => ?_⟩
   have hw := Rd h0 ha
   have h : gX P I A L S0 (mM P I ops A L S0 K (k + 1) l) (FO env ops o) o.op o.dst env S := h
   unfold gX at h
   split at h
   ·rename_i hg
    rcases Rc hL hS h with ⟨xp, Q, h1, h4, h2, h3⟩ | ⟨xp, v, h2, h3⟩
    ·refine ⟨fun _ => ⟨hS, Q, h1, h4, .inl ⟨FV hg, h2⟩, fun v S' hQ => ?_⟩, fun hc => absurd (hc.symm.trans (hw.trans xp)) (by decide)⟩
     obtain ⟨q1, q2⟩ := h3 v S' hQ
     exact oS hL hK l (k + 1) _ S' kU q1.kept q2
    ·exact ⟨fun hc => absurd (hc.symm.trans (hw.trans xp)) (by decide), fun _ => ⟨v, .inl ⟨FV hg, h2⟩, oS hL hK l (k + 1) _ S kU hS h3⟩⟩
   ·rename_i hg
    have hn := oS hL hK l (k + 1) _ S kU hS h
    exact ⟨fun _ => ⟨hS, fun u T => u = .bZ [] ∧ T = S, ⟨_, _, rfl, rfl⟩, (fun u T hq => .inl (by rw [hq.2])), .inr ⟨Ky hg, rfl, rfl⟩, fun u T ⟨e1, e2⟩ => by subst e1 e2; exact hn⟩, fun _ => ⟨_, .inr ⟨Ky hg, rfl⟩, hn⟩⟩
   ·exact h.elim
theorem El {W : List Nat} {MM : Mem → Prop} {K : gj} : ∀ (l : List Oper) (k : Nat) (env : List V) (S : Mem), Hr P I ops [] W MM K l k env S → zE P I ops W MM K l k env S
 | [], _, _, _, h => h
 | o :: l, k, env, S, h => by
  refine ⟨fun hw => ?_, fun hw => ?_⟩
  ·obtain ⟨hS, Q, h1, _, h2, h3⟩ := (h.2 rfl).1 hw
   refine ⟨hS, Q, h1, ?_, fun v S' hQ => El l _ _ _ (h3 v S' hQ)⟩
   rcases h2 with ⟨a, b⟩ | h2
   ·refine .inl ⟨a, ?_⟩
    have := b [] fun _ => rfl
    rw [iu] at this
    rcases this with ⟨v, T, h5, S', rfl, h6⟩ | ⟨q, f, g, first, caps, h5, h6, h7, h8⟩ | h5
    ·rw [iu] at h5
     exact .inl ⟨v, S', h5, h6⟩
    ·exact .inr (.inl ⟨q, f, g, first, caps, h5, h6, h7, h8.mono fun v T ⟨S', e, hq⟩ => by rw [iu] at e; subst e; exact hq⟩)
    ·refine .inr (.inr fun c w ev q1 q2 q3 => ?_)
     obtain ⟨x, w', c', v, T, r1, ⟨S', e, hq⟩, r2⟩ := h5 c w ev q1 q2 q3
     rw [iu] at e
     subst e
     exact ⟨x, w', c', v, T, r1, hq, r2⟩
   ·exact .inr h2
  ·obtain ⟨v, h2, h3⟩ := (h.2 rfl).2 hw
   exact ⟨v, h2, El l _ _ _ h3⟩
theorem Em {W W' : List Nat} {MM : Mem → Prop} {K : gj} : ∀ (l : List Oper) (k : Nat) (env : List V) (S : Mem), (∀ j, k ≤ j → W.contains j = W'.contains j) → zE P I ops W MM K l k env S → zE P I ops W' MM K l k env S
 | [], _, _, _, _, h => h
 | o :: l, k, env, S, hW, h => by
  refine ⟨fun hw => ?_, fun hw => ?_⟩
  ·obtain ⟨hS, Q, h1, h2, h3⟩ := h.1 ((hW k (Nat.le_refl _)).trans hw)
   exact ⟨hS, Q, h1, h2, fun v S' hQ => Em l _ _ _ (fun j hj => hW j (by omega)) (h3 v S' hQ)⟩
  ·obtain ⟨v, h2, h3⟩ := h.2 ((hW k (Nat.le_refl _)).trans hw)
   exact ⟨v, h2, Em l _ _ _ (fun j hj => hW j (by omega)) h3⟩
end
theorem af.bp {P : Program} {I : Inv} {z : Nat × Nat} {fn : FuncId} {k : List Item} {R : V → Mem → Prop} {ops : Array Oper} {id : Nat} {env : List V} {S : Mem} (p : Nat) (A L : List Nat) (hm : P.follows .mixedOrders = true) (hB : Region.lexB .any ops = true) (hW : Eb ops (JB A ops) = true) (hs : Ej ops A p = true) (hp : Nat.ble p ops.size = true) (hA : V6 P ops A p = true) (hc : Nat.beq (Ei A 0 p + A.length) p = true)
 (h : pQ L S ∧ mM P I ops A L S (fun env S1 => tC A fun done => mM P I ops [] [] (kS S1 (done.map (zA P ops))) (fun env S => af P I z fn k env S R) p (ops.toList.drop p) (gE ops S1.boxes.length done env) (kS S1 (done.map (zA P ops)))) 0 (ops.toList.take p) env S) : af P I z fn (.code (.region id ops true) :: k) env S R := by
 obtain ⟨hL, h⟩ := h
 intro b a c w c0 w0 h1 h2 h3 h4 h5 h6 hI cs
 have hp := Nat.le_of_ble_eq_true hp
 have Wg := Q9 hA
 have hc := Nat.eq_of_beq_eq_true hc
 have hd : Below w.heap.size w { w with drawn := w.drawn + 1 } := ⟨rfl, rfl, rfl, Nat.le_refl _, fun _ _ => rfl⟩
 obtain ⟨r1, r2⟩ := h5.under hd
 simp only [Region.lexB, Bool.and_eq_true] at hB
 simp only [Eb, Bool.and_eq_true] at hW
 have au : (ops.toList.take p).length = p := by simp; omega
 have ZR : (ops.toList.drop p).length = ops.size - p := by simp
 have hB2 : Region.lexFrom .any ops ((ops.toList.take p).length + (ops.size - p)) 0 (Array.replicate ops.size false) = true := by
  rw [au, Nat.add_sub_cancel' hp]
  simpa using hB.2
 have lC : ∀ j, p ≤ j → lY A j = false := fun j hj => by
  cases hx : lY A j with
  | false => rfl
  | true => have := Wg.lt j (js.1 hx); omega
 let la : Array Bool := ((List.range ops.size).map (lY A)).toArray
 have yb : la.size = ops.size := by simp [la]
 have NB : ∀ j, j < ops.size → la.getD j true = lY A j := fun j hj => by simp [la, hj]
 have hD := oS (ops := ops) hL (K' := fun env S1 => tC A fun done => zE P I ops (JB A ops) (fun _ => True) (fun env S => af P I z fn k env S R) (ops.toList.drop p) p (gE ops S1.boxes.length done env) (kS S1 (done.map (zA P ops)))) (fun env S1 hq => by
  have step : ∀ done : List Nat, mM P I ops [] [] (kS S1 (done.map (zA P ops))) (fun env S => af P I z fn k env S R) p (ops.toList.drop p) (gE ops S1.boxes.length done env) (kS S1 (done.map (zA P ops))) → zE P I ops (JB A ops) (fun _ => True) (fun env S => af P I z fn k env S R) (ops.toList.drop p) p (gE ops S1.boxes.length done env) (kS S1 (done.map (zA P ops))) := by
   intro done hq
   have e : (fun _ : Mem => True) = Kept [] (kS S1 (done.map (zA P ops))) := by
    funext S'
    exact propext ⟨fun _ _ h => h.elim, fun _ => trivial⟩
   rw [e]
   have := El _ p _ _ (oS (A := []) (L := []) trivial (fun _ _ h => h) _ p _ _ (fun j o hj => by simpa using hj) (fun _ h => h.elim) hq)
   refine Em _ p _ _ (fun j hj => ?_) this
   rw [Bool.eq_iff_iff, List.contains_iff_mem, List.contains_iff_mem]
   unfold JB
   rw [List.mem_filter, List.mem_filter, lC j hj]
   rfl
  revert hq
  unfold tC
  split
  ·exact step _
  ·exact step _
  ·exact fun hq => ⟨step _ hq.1, step _ hq.2⟩
  ·exact fun hq d hd => step d (hq d hd)) _ 0 env S (fun j o hj => by
   rw [List.getElem?_take] at hj
   split at hj
   ·simpa using hj
   ·cases hj) (fun _ _ _ hv => hv) h
 have qS := qY (P := P) (I := I) (MM := Kept L S) (W := JB A ops) (A := A)
  (K := fun la env S1 => (∀ j, j < ops.size → la.getD j true = decide (j < p)) ∧ Region.lexFrom .any ops (ops.size - p) p la = true ∧ tC A fun done => zE P I ops (JB A ops) (fun _ => True) (fun env S => af P I z fn k env S R) (ops.toList.drop p) p (gE ops S1.boxes.length done env) (kS S1 (done.map (zA P ops))))
  (fun x o hx ho => by
   obtain ⟨o', PO, _, _, zB⟩ := Wg.op x (js.1 hx)
   rw [ho] at PO
   obtain rfl := Option.some.inj PO
   exact zB) hp hW.1 hW.2 (ops.size - p) (fun la env S1 dG NB hlx hq => by
   have hj : ∀ j, j < ops.size → la.getD j true = decide (j < p) := fun j hj => by
    rw [NB j hj]
    by_cases MB : j < p
    ·rw [decide_eq_true MB, Bool.true_or]
    ·rw [lC j (by omega), Bool.or_false]
   exact ⟨hj, hlx la dG hj, hq⟩) (ops.toList.take p) 0 (Array.replicate ops.size false) la env S (fun j hj => by rw [au] at hj; simp [hj]) (by rw [au, Nat.zero_add]) (by simp) yb (fun j hj => by simp [hj]) (fun j hj => by rw [NB j hj]; simp) hB2 hD
 have kV : ∀ j ∈ A, (Array.replicate ops.size false).getD j true = false := fun j hj => by
  have h8 : j < ops.size := by have := Wg.lt j hj; omega
  simp [h8]
 have Kv : Ku ops := fun q hq => vh ops.size 0 (Array.replicate ops.size false) (by simp) (fun j hj => by simp [hj]) (by simpa using hB.2) q (Nat.zero_le _) (by omega) hq
 have PN : ∀ i o, ops[i]? = some o → (JB A ops).contains i = true → kz o.op = true := fun i o ho hw => by
  have hw := List.contains_iff_mem.1 hw
  unfold JB at hw
  rw [List.mem_filter] at hw
  have e : bD ops i = o := by unfold bD; rw [ho]
  rw [e, Bool.and_eq_true] at hw
  exact hw.2.1
 have aX := vl (fn := fn) (k := k) (R := R) (z := z) (MM := Kept L S) (rest := ops.size - p) (Hs hs) Kv PN hp Wg (fun S' Z h => Kept.kS h Z) (fun la env S1 dG hq done XA => by
  have hC := Kw hq.2.2 done XA
  have h7 := vc hW.1 hW.2 (ops.toList.drop p) p la _ _ (fun j => by simp) hq.1 (by rw [ZR]; exact hq.2.1) hC
  rw [ZR] at h7
  exact h7) _ _ _ rfl (w.tape w.drawn (.order b.fn id)) la (Array.replicate ops.size false) env S [] A qS (List.Perm.refl _) rfl (by simp) yb (fun j hj => by rw [NB j hj]; simp [hj]) kV (fun j o ho hl => by
  have h8 := (Array.getElem?_eq_some_iff.1 ho).1
  simp [h8] at hl) (fun j hj => absurd hj List.not_mem_nil)
 rw [au, hc, Nat.add_sub_cancel' hp] at aX
 rw [show (List.map (zA P ops) ([] : List Nat)) = [] from rfl, iu] at aX
 obtain ⟨e, w', fr, g1, g2, g3⟩ := aX b a c _ c0 w0 h1 h2 h3 (h4.ext r2) r1 (h6.trans r2) ⟨r2.I.trans hI.1, hI.2⟩ cs
 refine ⟨e, w', fr, g1, .of_steps (.one ?_) g2, g3⟩
 have := step_region_draw (P := P) (b := b) (a := a) (k := k) (cs := cs) (w := w) (ops := ops) (id := id)
 rw [this]
 simp only [Region.schedule, hm, Bool.true_or, if_true, Region.linearise]
section
variable {P : Program} {I : Inv} {ops : Array Oper} {A L : List Nat} {S0 : Mem} {next : gj} {d : Option Tmp} {env : List V} {S : Mem}
theorem By (K : gj) (k : Nat) : mM P I ops A L S0 K k [] env S = (eu L S0 S ∧ K env S) := by cases k <;> rfl
theorem sC (K : gj) (k : Nat) (o : Oper) (l : List Oper) : mM P I ops A L S0 K k (o :: l) env S = Ua (lY A k) (mM P I ops A L S0 K (k + 1) l env S) (gX P I A L S0 (mM P I ops A L S0 K (k + 1) l) (FO env ops o) o.op o.dst env S) := rfl
theorem NG (K : gj) (k : Nat) (o : Oper) (l : List Oper) (h : lY A k = true) : mM P I ops A L S0 K k (o :: l) env S = mM P I ops A L S0 K (k + 1) l env S := by rw [sC, h]; rfl
theorem NH (K : gj) (k : Nat) (o : Oper) (l : List Oper) (h : lY A k = false) : mM P I ops A L S0 K k (o :: l) env S = gX P I A L S0 (mM P I ops A L S0 K (k + 1) l) (FO env ops o) o.op o.dst env S := by rw [sC, h]; rfl
theorem PR (p q : Prop) : Ua true p q = p := rfl
theorem Ub (p q : Prop) : Ua false p q = q := rfl
theorem NI (k : Nat) : lY [] k = false := rfl
theorem Kz (a k : Nat) (l : List Nat) : lY (a :: l) k = ((a == k) || lY l k) := rfl
theorem KA (N : Nat) : gE ops N [] env = env := rfl
theorem Hu (N a : Nat) (l : List Nat) : gE ops N (a :: l) env = gE ops (N + 1) l (aK env (bD ops a).dst (Ef ops a N)) := rfl
theorem KB (B Z : List (List V)) (T : List (Nat × Nat)) : kS ⟨B, T⟩ Z = ⟨B ++ Z, T⟩ := rfl
theorem FW (f : List Nat → Prop) : tC [] f = f [] := rfl
theorem FX (a : Nat) (f : List Nat → Prop) : tC [a] f = f [a] := rfl
theorem NJ (a b : Nat) (f : List Nat → Prop) : tC [a, b] f = (f [a, b] ∧ f [b, a]) := rfl
theorem ye (S : Mem) : pQ [] S = True := rfl
theorem vn (x : Nat) (l : List Nat) (S : Mem) : pQ (x :: l) S = ((S.boxes[x]?).isSome = true ∧ pQ l S) := rfl
theorem KC (op : Op) : gX P I A L S0 next (.d (.bool true)) op d env S = oR P I A L S0 next op d env S := rfl
theorem PS (op : Op) : gX P I A L S0 next (.d (.bool false)) op d env S = next (aK env d (.bZ [])) S := rfl
theorem Re (t : Bool) : D8 (.d (.bool t)) true = .d (.bool t) := by cases t <;> rfl
theorem Rf (t : Bool) : D8 (.d (.bool t)) false = .d (.bool (!t)) := by cases t <;> rfl
theorem Rg (w : Bool) : D8 (.bZ []) w = .d (.bool false) := rfl
theorem vo (v : V) (S' : Mem) : jw A L S0 next (some (v, S')) d env = (A = [] ∧ eu L S0 S' ∧ next (aK env d v) S') := rfl
theorem vp (v : V) (S' : Mem) : gF next (some (v, S')) d env S = next (aK env d v) S := rfl
theorem En (a v : V) (S' : Mem) : qZ L a next (some (v, S')) d env S = (Ek L a ∧ next (aK env d v) S) := rfl
theorem KD (x : Operand) : oR P I A L S0 next (.move x) d env S = next (aK env d (ah I env x)) S := rfl
theorem Eo (x : Operand) : oR P I A L S0 next (.assign x) d env S = next (aK env d (ah I env x)) S := rfl
theorem KE (a b c : Operand) : oR P I A L S0 next (.pick a b c) d env S = gF next (cU P (ah I env) S (.pick a b c)) d env S := rfl
theorem zJ (a : Operand) : oR P I A L S0 next (.nilCheck a) d env S = gF next (cU P (ah I env) S (.nilCheck a)) d env S := rfl
theorem xq (t : TypeId) (a : Operand) (f : Nat) : oR P I A L S0 next (.fieldAddr t a f) d env S = gF next (cU P (ah I env) S (.fieldAddr t a f)) d env S := rfl
theorem Hv (t : TypeId) (a : Operand) (f : Nat) : oR P I A L S0 next (.field t a f) d env S = gF next (cU P (ah I env) S (.field t a f)) d env S := rfl
theorem xu (t : TypeId) (a b : Operand) : oR P I A L S0 next (.indexAddr t a b) d env S = gF next (cU P (ah I env) S (.indexAddr t a b)) d env S := rfl
theorem Hw (t : TypeId) (a b : Operand) : oR P I A L S0 next (.index t a b) d env S = gF next (cU P (ah I env) S (.index t a b)) d env S := rfl
theorem Bz (a : Operand) (i : Nat) : oR P I A L S0 next (.extract a i) d env S = gF next (cU P (ah I env) S (.extract a i)) d env S := rfl
theorem Hx (o : BinOp) (t : TypeId) (a b : Operand) (u : TypeId) : oR P I A L S0 next (.binOp o t a b u) d env S = gF next (cU P (ah I env) S (.binOp o t a b u)) d env S := rfl
theorem KF (o : UnOp) (t : TypeId) (a : Operand) : oR P I A L S0 next (.unOp o t a) d env S = gF next (cU P (ah I env) S (.unOp o t a)) d env S := rfl
theorem BA (t u : TypeId) (a : Operand) : oR P I A L S0 next (.convert t u a) d env S = gF next (cU P (ah I env) S (.convert t u a)) d env S := rfl
theorem Hy (t : TypeId) (ps : Array (Nat × Operand)) : oR P I A L S0 next (.build t ps) d env S = gF next (cU P (ah I env) S (.build t ps)) d env S := rfl
theorem vq (t : TypeId) (n : Nat) (ps : Array (Nat × Operand)) : oR P I A L S0 next (.buildSlice t n ps) d env S = gF next (cU P (ah I env) S (.buildSlice t n ps)) d env S := rfl
theorem Hz (t : TypeId) (a : Operand) (l h m : Option Operand) : oR P I A L S0 next (.slice t a l h m) d env S = gF next (cU P (ah I env) S (.slice t a l h m)) d env S := rfl
theorem zK (f : Fn) (a b : Array Operand) : oR P I A L S0 next (.makeFunc f a b) d env S = gF next (cU P (ah I env) S (.makeFunc f a b)) d env S := rfl
theorem KG (t : TypeId) (a : Operand) : oR P I A L S0 next (.load t a) d env S = qZ L (ah I env a) next (cU P (ah I env) S (.load t a)) d env S := rfl
theorem Ep (t : TypeId) (m k : Operand) (ok : Bool) : oR P I A L S0 next (.lookup t m k ok) d env S = qZ L (ah I env m) next (cU P (ah I env) S (.lookup t m k ok)) d env S := rfl
theorem HB (t : TypeId) (a x : Operand) : oR P I A L S0 next (.store t a x) d env S = jw A L S0 next (cU P (ah I env) S (.store t a x)) d env := rfl
theorem HH (t : TypeId) : oR P I A L S0 next (.alloc t) d env S = jw A L S0 next (cU P (ah I env) S (.alloc t)) d env := rfl
theorem NK (t : TypeId) (x : Operand) : oR P I A L S0 next (.box t x) d env S = jw A L S0 next (cU P (ah I env) S (.box t x)) d env := rfl
theorem BC (t : TypeId) (r : Option Operand) : oR P I A L S0 next (.makeMap t r) d env S = jw A L S0 next (cU P (ah I env) S (.makeMap t r)) d env := rfl
theorem xy (t : TypeId) (m k x : Operand) : oR P I A L S0 next (.mapUpdate t m k x) d env S = jw A L S0 next (cU P (ah I env) S (.mapUpdate t m k x)) d env := rfl
theorem KH (f : Operand) (aa : Array Operand) (ts : Array TypeId) : oR P I A L S0 next (.call ⟨.value f, aa, ts⟩) d env S = tB P I A L S0 next (ah I env f) (aa.toList.map (ah I env)) d env S := rfl
theorem Er (aa : Array Operand) (ts : Array TypeId) : oR P I A L S0 next (.call ⟨.builtin .append, aa, ts⟩) d env S = (T9 P I A L S0 next (.call ⟨.builtin .append, aa, ts⟩) d env S ∨ jw A L S0 next (dw P (ah I env) S ⟨.builtin .append, aa, ts⟩) d env) := rfl
theorem Es (aa : Array Operand) (ts : Array TypeId) : oR P I A L S0 next (.call ⟨.builtin .delete, aa, ts⟩) d env S = jw A L S0 next (dw P (ah I env) S ⟨.builtin .delete, aa, ts⟩) d env := rfl
theorem NL (aa : Array Operand) (ts : Array TypeId) : oR P I A L S0 next (.call ⟨.builtin .len, aa, ts⟩) d env S = gF next (dw P (ah I env) S ⟨.builtin .len, aa, ts⟩) d env S := rfl
theorem KI (i k : Nat) : Ek L (.ptr i k) = pg L i := rfl
theorem NM (i : Nat) : Ek L (.mp i) = pg L i := rfl
theorem HJ (r : List D) (k : Nat) : Ek L (.fS r k) = True := rfl
theorem KJ (i : Nat) : pg [] i = False := rfl
theorem HO (x i : Nat) (l : List Nat) : pg (x :: l) i = (x = i ∨ pg l i) := rfl
theorem oT (S S' : Mem) : eu [] S S' = True := rfl
theorem vr (x : Nat) (l : List Nat) (S S' : Mem) : eu (x :: l) S S' = (S'.boxes[x]? = S.boxes[x]? ∧ eu l S S') := rfl
theorem Et (L : List Nat) (S : Mem) : eu L S S = True := eq_true (kA S L)
theorem bf {g : FuncId} {first caps args : List V} {v : V} (h : ∀ Z, aD P I g (first ++ args ++ caps) (kS S Z) fun r T => r = v ∧ T = kS S Z) (hk : eu L S0 S ∧ next (aK env d v) S) : tB P I A L S0 next (.func g first caps) args d env S :=
 ⟨fun u T => u = v ∧ T = S, ⟨v, S, rfl, rfl⟩, fun u T hq => .inl (by rw [hq.2]), fun Z _ => (h Z).mono fun r T hq => ⟨S, hq.2, hq.1, rfl⟩, fun u T ⟨e1, e2⟩ => by subst e1 e2; exact hk⟩
theorem vt {g : FuncId} {first caps args : List V} {Q : V → Prop} (bV : ∃ v, Q v) (h : ∀ Z, aD P I g (first ++ args ++ caps) (kS S Z) fun r T => Q r ∧ T = kS S Z) (hk : ∀ v, Q v → eu L S0 S ∧ next (aK env d v) S) : tB P I A L S0 next (.func g first caps) args d env S := by
 obtain ⟨v, hv⟩ := bV
 exact ⟨fun u T => Q u ∧ T = S, ⟨v, S, hv, rfl⟩, fun u T hq => .inl (by rw [hq.2]), fun Z _ => (h Z).mono fun r T hq => ⟨S, hq.2, hq.1, rfl⟩, fun u T ⟨e1, e2⟩ => by subst e2; exact hk u e1⟩
theorem KL {g : FuncId} {first caps args : List V} {Q : V → Mem → Prop} (bV : ∃ v S', Q v S') (hl : ∀ v S', Q v S' → S'.boxes.length = S.boxes.length) (h : ∀ Z, aD P I g (first ++ args ++ caps) (kS S Z) fun v T => ∃ S', T = kS S' Z ∧ Q v S') (hk : ∀ v S', Q v S' → eu L S0 S' ∧ next (aK env d v) S') : tB P I A L S0 next (.func g first caps) args d env S :=
 ⟨Q, bV, fun v S' hq => .inl (hl v S' hq), fun Z _ => h Z, hk⟩
theorem cz {g : FuncId} {first caps args : List V} {Q : V → Mem → Prop} (bV : ∃ v S', Q v S') (h : aD P I g (first ++ args ++ caps) S Q) (hk : ∀ v S', Q v S' → eu L S0 S' ∧ next (aK env d v) S') : tB P I [] L S0 next (.func g first caps) args d env S :=
 ⟨Q, bV, fun v S' hq => .inr rfl, fun Z hZ => by rw [hZ rfl, iu]; exact h.mono fun v S' hq => ⟨S', (iu S').symm, hq⟩, hk⟩
end
set_option linter.defProp false in
def xw := And.intro @By (And.intro @NG (And.intro @NH (And.intro @PR (And.intro @NI (And.intro @Kz (And.intro @KA (And.intro @Hu (And.intro @KB (And.intro @FW (And.intro @FX (And.intro @NJ (And.intro @ye (And.intro @vn (And.intro @KC (And.intro @PS (And.intro @Re (And.intro @Rf (And.intro @Bool.not_true (And.intro @Bool.not_false (And.intro @Rg (And.intro @vo (And.intro @vp (And.intro @En (And.intro @KD (And.intro @Eo (And.intro @KE (And.intro @zJ (And.intro @xq (And.intro @Hv (And.intro @xu (And.intro @Hw (And.intro @Bz (And.intro @Hx (And.intro @KF (And.intro @BA (And.intro @Hy (And.intro @vq (And.intro @Hz (And.intro @zK (And.intro @KG (And.intro @Ep (And.intro @HB (And.intro @HH (And.intro @NK (And.intro @BC (And.intro @xy (And.intro @KH (And.intro @Er (And.intro @Es (And.intro @NL (And.intro @KI (And.intro @NM (And.intro @HJ (And.intro @KJ (And.intro @HO (And.intro @oT (And.intro @Et (And.intro @vr (And.intro @Ef.eq_1 (And.intro @zA.eq_1 (And.intro @or_true (And.intro @true_or (And.intro @true_and (And.intro @and_true (And.intro @and_self (And.intro @Option.isSome_some.{0} (And.intro @Bool.or_false (And.intro @Bool.false_or (And.intro @Bool.true_or (And.intro @Bool.or_true (And.intro @List.length_append.{0} (And.intro @List.length_cons.{0} (And.intro @List.length_nil.{0} (And.intro @List.append_assoc.{0} (And.intro @List.cons_append.{0} (And.intro @List.nil_append.{0} (And.intro @List.drop_succ_cons.{0} (And.intro @List.drop_zero.{0} (And.intro @List.take_succ_cons.{0} (And.intro @List.take_zero.{0} (And.intro @List.map_cons.{0,0} @List.map_nil.{0,0})))))))))))))))))))))))))))))))))))))))))))))))))))))))))))))))))))))))))))))))))
abbrev qD := FuncId → List Item → List V → Mem → Option (V × Mem)
def FY (P : Program) (fn : FuncId) (env : List V) (S : Mem) : Option (V × Mem) :=
 match P.funcs[fn]? with
 | some f => match Bb P S env f.results.toList with
  | some v => some (v, S)
  | none => none
 | none => none
def zL (S : Mem) (v : V) (S' : Mem) : V × Mem :=
 match fit S.boxes.length S'.aL.length v && (S'.boxes.take S.boxes.length).all (fun vs => vs.all (fit S.boxes.length S.aL.length)) && Nat.ble S.boxes.length S'.boxes.length && Nat.ble S.aL.length S'.aL.length with
 | true => (wk S.boxes.length S.aL.length v, ⟨S'.boxes.take S.boxes.length, S'.aL.take S.aL.length⟩)
 | false => (v, S')
def Uc (run : qD) (g : FuncId) (body : Code) (init : List V) (S : Mem) : Option (V × Mem) :=
 match run g [.code body] init S with
 | some (v, S') => some (zL S v S')
 | none => none
def vu (P : Program) (dK : FuncId → List V → Option V) (run : qD) (g : FuncId) (args : List V) : Option V :=
 match P.funcs[g]? with
 | some f => match f.body with
  | some body => match dK g args with
   | some v => some (wk 0 0 v)
   | none => match run g [.code body] (args ++ List.replicate (f.ntmps - args.length) .undef) ⟨[], []⟩ with
    | some (v, S0) => match fit 0 S0.aL.length v with
     | true => some (wk 0 0 v)
     | false => none
    | none => none
  | none => none
 | none => none
def FZ (P : Program) (run : qD) (g : FuncId) (args : List V) (S : Mem) : Option (V × Mem) :=
 match P.funcs[g]? with
 | some f => match f.body with
  | some body => Uc run g body (args ++ List.replicate (f.ntmps - args.length) .undef) S
  | none => none
 | none => none
def KM (P : Program) (dK : FuncId → List V → Option V) (run : qD) (g : FuncId) (args : List V) (S : Mem) : Option (V × Mem) :=
 match iW 0 0 args with
 | true => match vu P dK run g (ud 0 0 args) with
  | some v => some (v, S)
  | none => FZ P run g args S
 | false => FZ P run g args S
def sD (run : qD) (fn : FuncId) (r : Option (V × Mem)) (k : List Item) (d : Option Tmp) (env : List V) : Option (V × Mem) :=
 match r with
 | some (v, S) => run fn k (aK env d v) S
 | none => none
def BD (P : Program) (env : List V) (S : Mem) (s : Operand) (t : TypeId) : List V × Mem :=
 match s with
 | .tmp q => match env.getD q .undef with
  | .sl rows .full => match bB P t with
   | some ti => match ti.d with
    | .slice e => match bB P e with
     | some te => match decide (0 < te.size) && cV te.size rows with
      | true => (env.set q (.sl rows (.own S.aL.length)), { S with aL := S.aL ++ [(rows.length, te.size)] })
      | false => (env, S)
     | none => (env, S)
    | _ => (env, S)
   | none => (env, S)
  | _ => (env, S)
 | _ => (env, S)
def NN (P : Program) (I : Inv) (dK : FuncId → List V → Option V) (run : qD) (fn : FuncId) (ops : Array Oper) (rest : List Nat) (o : Oper) (k : List Item) (env : List V) (S : Mem) : Option (V × Mem) :=
 match o.op with
 | .call q => match q.callee with
  | .value f => match ah I env f with
   | .func g first caps => sD run fn (KM P dK run g (first ++ q.args.toList.map (ah I env) ++ caps) S) (.inRegion ops rest :: k) o.dst env
   | _ => none
  | .builtin .append => match q.args.toList, q.argTypes.toList with
   | [s, _], [t, _] => match BD P env S s t with
    | (cr, S') => sD run fn (dw P (ah I cr) S' q) (.inRegion ops rest :: k) o.dst cr
   | _, _ => none
  | _ => sD run fn (dw P (ah I env) S q) (.inRegion ops rest :: k) o.dst env
 | op => sD run fn (cU P (ah I env) S op) (.inRegion ops rest :: k) o.dst env
def PT (P : Program) (I : Inv) (dK : FuncId → List V → Option V) (run : qD) (fn : FuncId) (ops : Array Oper) (i : Nat) (rest : List Nat) (k : List Item) (env : List V) (S : Mem) : Option (V × Mem) :=
 match ops[i]? with
 | some o => match o.guard with
  | none => NN P I dK run fn ops rest o k env S
  | some (j, want) => match eE env ops j with
   | .d (.bool t) => match t == want with
    | true => NN P I dK run fn ops rest o k env S
    | false => run fn (.inRegion ops rest :: k) (aK env o.dst (.bZ [])) S
   | .bZ [] => run fn (.inRegion ops rest :: k) (aK env o.dst (.bZ [])) S
   | _ => none
 | none => none
def BE : Op → Bool
 | .move _ => true
 | .assign _ => true
 | .pick .. => true
 | .build .. => true
 | .load .. => true
 | .nilCheck _ => true
 | .binOp .. => true
 | .unOp .. => true
 | .makeFunc .. => true
 | .slice .. => true
 | .fieldAddr .. => true
 | .indexAddr .. => true
 | .index .. => true
 | .extract .. => true
 | _ => false
def F1 (r : Option (V × Mem)) : Option V :=
 match r with
 | some (v, _) => some v
 | none => none
def BF (P : Program) (I : Inv) (dK : FuncId → List V → Option V) (run : qD) (o : Oper) (env : List V) (S : Mem) : Option V :=
 match o.op with
 | .call q => match q.callee with
  | .value f => match ah I env f with
   | .func g first caps => match iW 0 0 (first ++ q.args.toList.map (ah I env) ++ caps) with
    | true => vu P dK run g (ud 0 0 (first ++ q.args.toList.map (ah I env) ++ caps))
    | false => none
   | _ => none
  | .builtin .len => F1 (dw P (ah I env) S q)
  | _ => none
 | op => match BE op with
  | true => F1 (cU P (ah I env) S op)
  | false => none
def tD (P : Program) (I : Inv) (dK : FuncId → List V → Option V) (run : qD) (ops : Array Oper) (S : Mem) : List Oper → List V → Option (List V)
 | [], env => some env
 | o :: l, env => match o.guard with
  | none => match BF P I dK run o env S with
   | some v => tD P I dK run ops S l (aK env o.dst v)
   | none => none
  | some (j, want) => match eE env ops j with
   | .d (.bool t) => match t == want with
    | true => match BF P I dK run o env S with
     | some v => tD P I dK run ops S l (aK env o.dst v)
     | none => none
    | false => tD P I dK run ops S l (aK env o.dst (.bZ []))
   | .bZ [] => tD P I dK run ops S l (aK env o.dst (.bZ []))
   | _ => none
mutual
def NO : D → D → Bool
 | .int k n, .int j m => decide (k = j) && decide (n = m)
 | .bool a, .bool b => a == b
 | .str a, .str b => decide (a = b)
 | .sl a, .sl b => od a b
 | _, _ => false
def od : List (List D) → List (List D) → Bool
 | [], [] => true
 | a :: l, b :: m => BG a b && od l m
 | _, _ => false
def BG : List D → List D → Bool
 | [], [] => true
 | a :: l, b :: m => NO a b && BG l m
 | _, _ => false
end
mutual
theorem zN : ∀ a b, NO a b = true → a = b
 | .int k n, b, h => by
  cases b <;> simp [NO] at h
  rw [h.1, h.2]
 | .bool k, b, h => by
  cases b <;> simp [NO] at h
  rw [h]
 | .str k, b, h => by
  cases b <;> simp [NO] at h
  rw [h]
 | .sl k, b, h => by
  cases b <;> simp [NO] at h
  rw [lZ _ _ h]
theorem lZ : ∀ a b, od a b = true → a = b
 | [], b, h => by
  cases b
  ·rfl
  ·simp [od] at h
 | x :: l, b, h => by
  cases b <;> simp [od] at h
  rw [BH _ _ h.1, lZ _ _ h.2]
theorem BH : ∀ a b, BG a b = true → a = b
 | [], b, h => by
  cases b
  ·rfl
  ·simp [BG] at h
 | x :: l, b, h => by
  cases b <;> simp [BG] at h
  rw [zN _ _ h.1, BH _ _ h.2]
end
def XD : V → V → Bool
 | .undef, .undef => true
 | .d a, .d b => NO a b
 | .sl a .full, .sl b .full => od a b
 | .sl a (.own t), .sl b (.own u) => od a b && decide (t = u)
 | .ptr i k, .ptr j l => decide (i = j) && decide (k = l)
 | .gZ, .gZ => true
 | _, _ => false
theorem Rh {a b : V} (h : XD a b = true) : a = b := by
 unfold XD at h
 split at h
 ·rfl
 ·rw [zN _ _ h]
 ·rw [lZ _ _ h]
 ·rw [Bool.and_eq_true, decide_eq_true_eq] at h
  rw [lZ _ _ h.1, h.2]
 ·rw [Bool.and_eq_true, decide_eq_true_eq, decide_eq_true_eq] at h
  rw [h.1, h.2]
 ·rfl
 ·cases h
def NP : List V → List V → Bool
 | [], [] => true
 | a :: l, b :: m => XD a b && NP l m
 | _, _ => false
theorem F2 : ∀ {a b : List V}, NP a b = true → a = b
 | [], [], _ => rfl
 | a :: l, b :: m, h => by
  rw [NP, Bool.and_eq_true] at h
  rw [Rh h.1, F2 h.2]
def XE : Option (List V) → Option (List V) → Bool
 | some a, some b => NP a b
 | none, none => true
 | _, _ => false
theorem Ri {a b : Option (List V)} (h : XE a b = true) : a = b := by
 unfold XE at h
 split at h
 ·rw [F2 h]
 ·rfl
 ·cases h
def F3 : List Nat → Mem → Mem → Bool
 | [], _, _ => true
 | i :: l, S, S' => XE S'.boxes[i]? S.boxes[i]? && F3 l S S'
theorem BI {S S' : Mem} : ∀ {L : List Nat}, F3 L S S' = true → eu L S S'
 | [], _ => by rw [oT]; trivial
 | i :: l, h => by
  rw [F3, Bool.and_eq_true] at h
  rw [vr]
  exact ⟨Ri h.1, BI h.2⟩
def F4 : List Nat → Mem → Bool
 | [], _ => true
 | i :: l, S => (S.boxes[i]?).isSome && F4 l S
theorem BK {S : Mem} : ∀ {L : List Nat}, F4 L S = true → pQ L S
 | [], _ => by rw [ye]; trivial
 | i :: l, h => by
  rw [F4, Bool.and_eq_true] at h
  rw [vn]
  exact ⟨h.1, BK h.2⟩
theorem BL {i : Nat} : ∀ {L : List Nat}, i ∈ L → pg L i
 | x :: l, h => by
  rcases List.mem_cons.1 h with rfl | h
  ·exact .inl rfl
  ·exact .inr (BL h)
def XF : V → List Nat
 | .ptr i _ => [i]
 | .mp i => [i]
 | _ => []
def NQ (A : List Nat) (r : Option (V × Mem)) : Option (V × Mem × Bool × List Nat) :=
 match A with
 | [] => match r with
  | some (v, S') => some (v, S', true, [])
  | none => none
 | _ => none
def Rj (S : Mem) (l : List Nat) (r : Option (V × Mem)) : Option (V × Mem × Bool × List Nat) :=
 match r with
 | some (v, _) => some (v, S, false, l)
 | none => none
def Ud (P : Program) (dK : FuncId → List V → Option V) (run : qD) (A : List Nat) (g : FuncId) (args : List V) (S : Mem) : Option (V × Mem × Bool × List Nat) :=
 match A with
 | [] => match KM P dK run g args S with
  | some (v, S') => some (v, S', true, [])
  | none => none
 | _ => match iW 0 0 args with
  | true => match vu P dK run g (ud 0 0 args) with
   | some v => some (v, S, false, [])
   | none => none
  | false => none
def Rk (P : Program) (I : Inv) (dK : FuncId → List V → Option V) (run : qD) (A : List Nat) (op : Op) (env : List V) (S : Mem) : Option (V × Mem × Bool × List Nat) :=
 match op with
 | .load t a => Rj S (XF (ah I env a)) (cU P (ah I env) S (.load t a))
 | .lookup t m k ok => Rj S (XF (ah I env m)) (cU P (ah I env) S (.lookup t m k ok))
 | .store t a x => NQ A (cU P (ah I env) S (.store t a x))
 | .alloc t => NQ A (cU P (ah I env) S (.alloc t))
 | .box t x => NQ A (cU P (ah I env) S (.box t x))
 | .makeMap t r => NQ A (cU P (ah I env) S (.makeMap t r))
 | .mapUpdate t m k x => NQ A (cU P (ah I env) S (.mapUpdate t m k x))
 | .call c => match c.callee with
  | .value f => match ah I env f with
   | .func g first caps => Ud P dK run A g (first ++ c.args.toList.map (ah I env) ++ caps) S
   | _ => none
  | .builtin .append => NQ A (dw P (ah I env) S c)
  | .builtin .delete => NQ A (dw P (ah I env) S c)
  | _ => Rj S [] (dw P (ah I env) S c)
 | op => Rj S [] (cU P (ah I env) S op)
def BN (P : Program) (I : Inv) (dK : FuncId → List V → Option V) (run : qD) (ops : Array Oper) (A : List Nat) : Nat → List Oper → List V → Mem → Option (List V × Mem × List Mem × List Nat)
 | _, [], env, S => some (env, S, [], [])
 | k, o :: l, env, S => match lY A k with
  | true => BN P I dK run ops A (k + 1) l env S
  | false => match FO env ops o with
   | .d (.bool b) => match b with
    | true => match Rk P I dK run A o.op env S with
     | some (v, S1, w, ld) => match BN P I dK run ops A (k + 1) l (aK env o.dst v) S1 with
      | some (e, S2, tr, ls) => some (e, S2, (match w with
       | true => S1 :: tr
       | false => tr), ld ++ ls)
      | none => none
     | none => none
    | false => BN P I dK run ops A (k + 1) l (aK env o.dst (.bZ [])) S
   | _ => none
def NR (P : Program) (I : Inv) (dK : FuncId → List V → Option V) (run : qD) (p : Nat) (fn : FuncId) (ops : Array Oper) (k : List Item) (done : List Nat) (Eu : List V) (S1 : Mem) : Option (V × Mem) :=
 match BN P I dK run ops [] p (ops.toList.drop p) (gE ops S1.boxes.length done Eu) (kS S1 (done.map (zA P ops))) with
 | some (Ue, S3, _, []) => run fn k Ue S3
 | _ => none
def Ev (P : Program) (I : Inv) (dK : FuncId → List V → Option V) (run : qD) (p : Nat) (A : List Nat) (fn : FuncId) (ops : Array Oper) (k : List Item) (env : List V) (S : Mem) : Option (V × Mem) :=
 match Eb ops (JB A ops) && Ej ops A p && Nat.ble p ops.size && V6 P ops A p && Nat.beq (Ei A 0 p + A.length) p with
 | true => match BN P I dK run ops A 0 (ops.toList.take p) env S with
  | some (Eu, S1, tr, ls) => match F4 ls S && tr.all (F3 ls S) with
   | true => match A with
    | [] => NR P I dK run p fn ops k [] Eu S1
    | [a] => NR P I dK run p fn ops k [a] Eu S1
    | _ => none
   | false => none
  | none => none
 | false => none
def KN (P : Program) (I : Inv) (dK : FuncId → List V → Option V) (Ew : FuncId → Nat → Option (Nat × List Nat)) (run : qD) (fn : FuncId) (c : Code) (k : List Item) (env : List V) (S : Mem) : Option (V × Mem) :=
 match c with
 | .seq a b => run fn (.code a :: .code b :: k) env S
 | .skip => run fn k env S
 | .label _ => run fn k env S
 | .block id a => run fn (.code a :: .inBlock id :: k) env S
 | .region _ ops false => run fn (.inRegion ops (sx 0 ops.toList) :: k) env S
 | .region id ops true => match P.follows .mixedOrders && Region.lexB .any ops with
  | true => match Ew fn id with
   | some (p, A) => Ev P I dK run p A fn ops k env S
   | none => match tD P I dK run ops S ops.toList env with
    | some cr => run fn k cr S
    | none => none
  | false => none
 | .cond x a b => match ah I env x with
  | .d (.bool t) => match t with
   | true => run fn (.code a :: k) env S
   | false => run fn (.code b :: k) env S
  | _ => none
 | .exit id => match exitTo id k with
  | some k' => run fn k' env S
  | none => none
 | .loop x => run fn (.code x :: .inLoop x :: k) env S
 | .ret => FY P fn env S
 | _ => none
def Ex (P : Program) (I : Inv) (dK : FuncId → List V → Option V) (Ew : FuncId → Nat → Option (Nat × List Nat)) (run : qD) : qD := fun fn k env S =>
 match k with
 | [] => FY P fn env S
 | .code c :: k => KN P I dK Ew run fn c k env S
 | .inBlock _ :: k => run fn k env S
 | .inLoop x :: k => run fn (.code x :: .inLoop x :: k) env S
 | .inRegion _ [] :: k => run fn k env S
 | .inRegion ops (i :: rest) :: k => PT P I dK run fn ops i rest k env S
 | _ => none
noncomputable def ew (P : Program) (I : Inv) (dK : FuncId → List V → Option V) (Ew : FuncId → Nat → Option (Nat × List Nat)) (n : Nat) : qD := Nat.rec (fun _ _ _ _ => none) (fun _ run => Ex P I dK Ew run) n
def eB (P : Program) : Bool := P.funcs.toList.all fun f => !(f.name == "runtime.NumGoroutine")
section
variable {P : Program} {I : Inv} {dK : FuncId → List V → Option V}
def iY (P : Program) (I : Inv) (run : qD) : Prop := ∀ fn k env S v S', run fn k env S = some (v, S') → ∀ z R, R v S' → af P I z fn k env S R
theorem yf (hN : eB P = true) {g : FuncId} {f : Func} (hf : P.funcs[g]? = some f) : (f.name == "runtime.NumGoroutine") = false := by
 have := List.all_eq_true.1 hN f (by simpa using Array.mem_of_getElem? hf)
 simpa using this
theorem HU {S S' : Mem} {v : V} {g : FuncId} {args : List V} {Q : V → Mem → Prop} (h : ∀ R : V → Mem → Prop, R v S' → aD P I g args S R) (hq : Q (zL S v S').1 (zL S v S').2) : aD P I g args S Q := by
 unfold zL at hq
 split at hq
 ·rename_i hc
  simp only [Bool.and_eq_true, Nat.ble_eq] at hc
  obtain ⟨⟨⟨_, h2⟩, h3⟩, h4⟩ := hc
  refine aD.left (h _ ⟨S'.boxes.take S.boxes.length, S'.boxes.drop S.boxes.length, S'.aL.take S.aL.length, S'.aL.drop S.aL.length, by simp, by simp; omega, by simp; omega, fun i vs hi v hv => .inr ?_, hq⟩)
  exact List.all_eq_true.1 (List.all_eq_true.1 h2 vs (List.mem_of_getElem? hi)) v hv
 ·exact h _ hq
theorem sE (hN : eB P = true) (ho : ∀ g args v, dK g args = some v → aD P I g args ⟨[], []⟩ (fun v' _ => v' = v)) {run : qD} (aX : iY P I run) {g : FuncId} {args : List V} {v : V} (h : vu P dK run g (ud 0 0 args) = some v) (S : Mem) : aD P I g args S fun v' S' => v' = v ∧ S' = S := by
 unfold vu at h
 split at h
 case h_2 => cases h
 rename_i f hf
 split at h
 case h_2 => cases h
 rename_i body hb
 have hn := yf hN hf
 split at h
 ·rename_i v1 ho1
  obtain rfl := Option.some.inj h
  refine ((ho _ _ _ ho1).frame S).mono ?_
  rintro v' ZS ⟨rfl, v0, S0, rfl, rfl⟩
  exact ⟨rfl, rfl⟩
 ·split at h
  case h_2 => cases h
  rename_i v1 S1 h1
  split at h
  case h_2 => cases h
  obtain rfl := Option.some.inj h
  have hA : aD P I g (ud 0 0 args) ⟨[], []⟩ (fun v' _ => v' = v1) := aD.enter hf hb hn (aX _ _ _ _ _ _ h1 _ _ rfl)
  refine (hA.frame S).mono ?_
  rintro v' ZS ⟨rfl, v0, S0, rfl, rfl⟩
  exact ⟨rfl, rfl⟩
theorem BO (hN : eB P = true) {run : qD} (aX : iY P I run) {g : FuncId} {args : List V} {S S' : Mem} {v : V} (h : FZ P run g args S = some (v, S')) {Q : V → Mem → Prop} (hq : Q v S') : aD P I g args S Q := by
 unfold FZ at h
 split at h
 case h_2 => cases h
 rename_i f hf
 split at h
 case h_2 => cases h
 rename_i body hb
 have hn := yf hN hf
 unfold Uc at h
 split at h
 case h_2 => cases h
 rename_i v1 S1 h1
 have e := Option.some.inj h
 refine HU (v := v1) (S' := S1) (fun R hR => aD.enter hf hb hn (aX _ _ _ _ _ _ h1 _ _ hR)) ?_
 rw [e]; exact hq
theorem zO (hN : eB P = true) (ho : ∀ g args v, dK g args = some v → aD P I g args ⟨[], []⟩ (fun v' _ => v' = v)) {run : qD} (aX : iY P I run) {g : FuncId} {args : List V} {S S' : Mem} {v : V} (h : KM P dK run g args S = some (v, S')) {Q : V → Mem → Prop} (hq : Q v S') : aD P I g args S Q := by
 unfold KM at h
 split at h
 case h_2 => exact BO hN aX h hq
 rename_i w8
 split at h
 case h_2 => exact BO hN aX h hq
 rename_i v1 h1
 obtain ⟨rfl, rfl⟩ := Prod.mk.inj (Option.some.inj h)
 refine (sE hN ho aX h1 S).mono ?_
 rintro v' ZS ⟨rfl, rfl⟩
 exact hq
theorem BP {r : Option (V × Mem)} {v : V} (h : F1 r = some v) : ∃ S, r = some (v, S) := by
 unfold F1 at h
 split at h
 case h_2 => cases h
 rename_i v1 S1
 obtain rfl := Option.some.inj h
 exact ⟨S1, rfl⟩
theorem qm {S S' : Mem} {r : Option V} {v : V} (h : still S r = some (v, S')) : S' = S := by
 obtain ⟨_, _, e⟩ := Option.map_eq_some_iff.1 h
 exact (Prod.mk.inj e).2.symm
theorem Ey {ev : Operand → V} {S S' : Mem} {op : Op} {v : V} (hq : BE op = true) (h : cU P ev S op = some (v, S')) : S' = S := by
 unfold cU at h
 split at h <;> try (cases hq; done)
 all_goals first
  | exact qm h
  | (obtain ⟨_, rfl⟩ := Prod.mk.inj (Option.some.inj h); rfl)
  | (split at h <;> first
   | exact qm h
   | (obtain ⟨_, rfl⟩ := Prod.mk.inj (Option.some.inj h); rfl)
   | (cases h; done))
  | (cases h; done)
theorem KO (hN : eB P = true) (ho : ∀ g args v, dK g args = some v → aD P I g args ⟨[], []⟩ (fun v' _ => v' = v)) {run : qD} (aX : iY P I run) {o : Oper} {env : List V} {S : Mem} {v : V} (h : BF P I dK run o env S = some v) : TN P I o env S v := by
 unfold BF at h
 split at h
 ·rename_i q hq
  split at h
  ·rename_i f hf
   split at h
   case h_2 => cases h
   rename_i g first caps hg
   split at h
   case h_2 => cases h
   rename_i w8
   exact .inr ⟨q, f, g, first, caps, hq, hf, hg, sE hN ho aX h S⟩
  ·rename_i hb
   obtain ⟨S', h1⟩ := BP h
   have h2 : S' = S := by
    unfold dw at h1
    rw [hb] at h1
    split at h1
    all_goals first
     | exact qm h1
     | (rename_i e _ _; cases e; done)
     | (cases h1; done)
   rw [h2] at h1
   exact .inl (by rw [hq]; exact h1)
  ·cases h
 ·split at h
  case h_2 => cases h
  rename_i hqo
  obtain ⟨S', h1⟩ := BP h
  have h2 := Ey hqo h1
  rw [h2] at h1
  exact .inl h1
theorem q9 (hN : eB P = true) (ho : ∀ g args v, dK g args = some v → aD P I g args ⟨[], []⟩ (fun v' _ => v' = v)) {run : qD} (aX : iY P I run) {ops : Array Oper} {S : Mem} {K : List V → Prop} : ∀ (l : List Oper) (env cr : List V), tD P I dK run ops S l env = some cr → K cr → Bk P I ops S K l env
 | [], env, cr, h, hK => by
  obtain rfl := Option.some.inj h
  exact hK
 | o :: l, env, cr, h, hK => by
  unfold tD at h
  have go : dW env ops o → (match BF P I dK run o env S with
   | some v => tD P I dK run ops S l (aK env o.dst v)
   | none => none) = some cr → Bk P I ops S K (o :: l) env := by
   intro hw h
   split at h
   case h_2 => cases h
   rename_i v hv
   exact ⟨v, .inl ⟨hw, KO hN ho aX hv⟩, q9 hN ho aX l _ _ h hK⟩
  split at h
  ·rename_i hg
   exact go (.inl hg) h
  ·rename_i j want hg
   split at h
   ·rename_i t ht
    split at h
    ·rename_i hw
     have : t = want := by simpa using hw
     subst this
     exact go (.inr ⟨j, t, hg, ht⟩) h
    ·rename_i hw
     exact ⟨.bZ [], .inr ⟨⟨j, want, hg, .inl ⟨t, ht, hw⟩⟩, rfl⟩, q9 hN ho aX l _ _ h hK⟩
   ·rename_i ht
    exact ⟨.bZ [], .inr ⟨⟨j, want, hg, .inr ht⟩, rfl⟩, q9 hN ho aX l _ _ h hK⟩
   ·cases h
theorem oU {run : qD} (aX : iY P I run) {fn : FuncId} {r : Option (V × Mem)} {k : List Item} {d : Option Tmp} {env : List V} {v : V} {S' : Mem} (h : sD run fn r k d env = some (v, S')) : ∃ v1 S1, r = some (v1, S1) ∧ ∀ z R, R v S' → af P I z fn k (aK env d v1) S1 R := by
 unfold sD at h
 split at h
 case h_2 => cases h
 rename_i v1 S1
 exact ⟨v1, S1, rfl, aX _ _ _ _ _ _ h⟩
theorem KP {env : List V} {S : Mem} {s : Operand} {t : TypeId} {cr : List V} {S1 : Mem} (h : BD P env S s t = (cr, S1)) {z : Nat × Nat} {fn : FuncId} {k : List Item} {R : V → Mem → Prop} (hr : af P I z fn k cr S1 R) : af P I z fn k env S R := by
 have hid : (env, S) = (cr, S1) → af P I z fn k env S R := by
  intro e
  obtain ⟨rfl, rfl⟩ := Prod.mk.inj e
  exact hr
 unfold BD at h
 split at h
 case h_2 => exact hid h
 rename_i q
 split at h
 case h_2 => exact hid h
 rename_i rows hq
 split at h
 case h_2 => exact hid h
 split at h
 case h_2 => exact hid h
 split at h
 case h_2 => exact hid h
 rename_i te _
 split at h
 case h_2 => exact hid h
 rename_i hc
 rw [Bool.and_eq_true, decide_eq_true_eq] at hc
 obtain ⟨rfl, rfl⟩ := Prod.mk.inj h
 exact af.token q rows hq te.size hc.1 hc.2 hr
theorem BQ {env : List V} {S : Mem} {s : Operand} {t : TypeId} {cr : List V} {S1 : Mem} (h : BD P env S s t = (cr, S1)) {ops : Array Oper} {o : Oper} (hw : dW env ops o) : dW cr ops o := by
 have hid : (env, S) = (cr, S1) → dW cr ops o := by
  intro e
  obtain ⟨rfl, rfl⟩ := Prod.mk.inj e
  exact hw
 unfold BD at h
 split at h
 case h_2 => exact hid h
 rename_i q
 split at h
 case h_2 => exact hid h
 rename_i rows hq
 split at h
 case h_2 => exact hid h
 split at h
 case h_2 => exact hid h
 split at h
 case h_2 => exact hid h
 rename_i te _
 split at h
 case h_2 => exact hid h
 obtain ⟨rfl, rfl⟩ := Prod.mk.inj h
 rcases hw with hw | ⟨j, t, h1, h2⟩
 ·exact .inl hw
 ·refine .inr ⟨j, t, h1, ?_⟩
  unfold eE at h2 ⊢
  split
  ·rename_i u hu
   rw [hu] at h2
   simp only at h2
   by_cases e : q = u
   ·subst e
    rw [hq] at h2
    cases h2
   ·rw [List.getD_eq_getElem?_getD, List.getElem?_set_ne e, ← List.getD_eq_getElem?_getD]
    exact h2
  ·rename_i hu
   rw [hu] at h2
   exact h2
theorem F5 (hN : eB P = true) (ho : ∀ g args v, dK g args = some v → aD P I g args ⟨[], []⟩ (fun v' _ => v' = v)) {run : qD} (aX : iY P I run) {fn : FuncId} {ops : Array Oper} {i : Nat} {rest : List Nat} {o : Oper} {k : List Item} {env : List V} {S S' : Mem} {v : V} (xl : ops[i]? = some o) (hw : dW env ops o)
 (h : NN P I dK run fn ops rest o k env S = some (v, S')) (z : Nat × Nat) (R : V → Mem → Prop) (hR : R v S') : af P I z fn (.inRegion ops (i :: rest) :: k) env S R := by
 unfold NN at h
 split at h
 ·rename_i q hq
  split at h
  ·rename_i f hf
   split at h
   case h_2 => cases h
   rename_i g first caps hg
   obtain ⟨v1, S1, h1, h2⟩ := oU aX h
   exact .call xl hw hq hf hg (zO hN ho aX h1 (h2 z R hR))
  ·rename_i hb
   split at h
   case h_2 => cases h
   rename_i s _ t _ _ _
   split at h
   rename_i cr S2 J6
   obtain ⟨v1, S1, h1, h2⟩ := oU aX h
   exact KP J6 (.op xl (BQ J6 hw) (by rw [hq]; exact h1) (h2 z R hR))
  ·obtain ⟨v1, S1, h1, h2⟩ := oU aX h
   exact .op xl hw (by rw [hq]; exact h1) (h2 z R hR)
 ·obtain ⟨v1, S1, h1, h2⟩ := oU aX h
  exact .op xl hw h1 (h2 z R hR)
theorem BR {fn : FuncId} {env : List V} {S S' : Mem} {v : V} (h : FY P fn env S = some (v, S')) : S' = S ∧ ∃ f, P.funcs[fn]? = some f ∧ Bb P S env f.results.toList = some v := by
 unfold FY at h
 split at h
 case h_2 => cases h
 rename_i f hf
 split at h
 case h_2 => cases h
 rename_i v1 hv
 obtain ⟨rfl, rfl⟩ := Prod.mk.inj (Option.some.inj h)
 exact ⟨rfl, f, hf, hv⟩
theorem NS (hN : eB P = true) (ho : ∀ g args v, dK g args = some v → aD P I g args ⟨[], []⟩ (fun v' _ => v' = v)) {run : qD} (aX : iY P I run) {A L : List Nat} {S0 : Mem} {next : gj} {op : Op} {d : Option Tmp} {env : List V} {S S1 : Mem} {v : V} {w : Bool} {ld : List Nat}
 (h : Rk P I dK run A op env S = some (v, S1, w, ld)) (hL : ∀ i ∈ ld, pg L i) (h0 : eu L S0 S) (h1 : w = true → eu L S0 S1) (hn : eu L S0 S1 → next (aK env d v) S1) : oR P I A L S0 next op d env S := by
 have hB : ∀ r, NQ A r = some (v, S1, w, ld) → jw A L S0 next r d env := by
  intro r h
  unfold NQ at h
  split at h
  case h_2 => cases h
  split at h
  case h_2 => cases h
  simp only [Option.some.injEq, Prod.mk.injEq] at h
  obtain ⟨rfl, rfl, rfl, rfl⟩ := h
  rw [vo]
  exact ⟨rfl, h1 rfl, hn (h1 rfl)⟩
 have hP : ∀ l r, Rj S l r = some (v, S1, w, ld) → l = ld ∧ gF next r d env S := by
  intro l r h
  unfold Rj at h
  split at h
  case h_2 => cases h
  simp only [Option.some.injEq, Prod.mk.injEq] at h
  obtain ⟨rfl, rfl, rfl, rfl⟩ := h
  rw [vp]
  exact ⟨rfl, hn h0⟩
 have hl : ∀ a r, Rj S (XF a) r = some (v, S1, w, ld) → qZ L a next r d env S := by
  intro a r h
  obtain ⟨e, hp⟩ := hP _ _ h
  unfold gF at hp
  unfold qZ
  split at hp
  case h_2 => cases hp
  refine ⟨?_, hp⟩
  rw [← e] at hL
  cases a
  all_goals first
   | trivial
   | exact hL _ List.mem_cons_self
 unfold Rk at h
 split at h
 ·exact hl _ _ h
 ·exact hl _ _ h
 ·exact hB _ h
 ·exact hB _ h
 ·exact hB _ h
 ·exact hB _ h
 ·exact hB _ h
 ·rename_i c
  unfold oR
  dsimp only
  split at h
  ·rename_i f hf
   try rw [hf]
   try dsimp only
   split at h
   case h_2 => cases h
   rename_i g first caps hg
   rw [hg]
   unfold Ud at h
   split at h
   ·split at h
    case h_2 => cases h
    rename_i v1 S2 h2
    simp only [Option.some.injEq, Prod.mk.injEq] at h
    obtain ⟨rfl, rfl, rfl, rfl⟩ := h
    exact cz (Q := fun u T => u = v1 ∧ T = S2) ⟨_, _, rfl, rfl⟩ (zO hN ho aX h2 ⟨rfl, rfl⟩) fun u T hq => by rw [hq.1, hq.2]; exact ⟨h1 rfl, hn (h1 rfl)⟩
   ·split at h
    case h_2 => cases h
    split at h
    case h_2 => cases h
    rename_i v1 h2
    simp only [Option.some.injEq, Prod.mk.injEq] at h
    obtain ⟨rfl, rfl, rfl, rfl⟩ := h
    exact bf (fun Z => sE hN ho aX h2 _) ⟨h0, hn h0⟩
  ·rename_i hb
   try rw [hb]
   exact .inr (hB _ h)
  ·rename_i hb
   try rw [hb]
   exact hB _ h
  ·rename_i h1 h2 h3
   first
    | exact (hP _ _ h).2
    | (split
       ·rename_i f hf
        exact absurd hf (h1 f)
       ·rename_i hf
        exact absurd hf h2
       ·rename_i hf
        exact absurd hf h3
       ·exact (hP _ _ h).2)
 ·rename_i n1 n2 n3 n4 n5 n6 n7 n8
  unfold oR
  try split
  all_goals first
   | exact (hP _ _ h).2
   | exact absurd rfl (n1 _ _)
   | exact absurd rfl (n2 _ _ _ _)
   | exact absurd rfl (n3 _ _ _)
   | exact absurd rfl (n4 _)
   | exact absurd rfl (n5 _ _)
   | exact absurd rfl (n6 _ _)
   | exact absurd rfl (n7 _ _ _ _)
   | exact absurd rfl (n8 _)
theorem ri (hN : eB P = true) (ho : ∀ g args v, dK g args = some v → aD P I g args ⟨[], []⟩ (fun v' _ => v' = v)) {run : qD} (aX : iY P I run) {ops : Array Oper} {A L : List Nat} {S0 : Mem} {K : gj} : ∀ (l : List Oper) (k : Nat) (env : List V) (S : Mem) (e : List V) (S2 : Mem) (tr : List Mem) (ls : List Nat),
 BN P I dK run ops A k l env S = some (e, S2, tr, ls) → (∀ M ∈ tr, eu L S0 M) → (∀ i ∈ ls, pg L i) → eu L S0 S → K e S2 → mM P I ops A L S0 K k l env S
 | [], k, env, S, e, S2, tr, ls, h, _, _, h0, hK => by
  unfold BN at h
  simp only [Option.some.injEq, Prod.mk.injEq] at h
  obtain ⟨rfl, rfl, rfl, rfl⟩ := h
  rw [By]
  exact ⟨h0, hK⟩
 | o :: l, k, env, S, e, S2, tr, ls, h, ht, hl, h0, hK => by
  unfold BN at h
  rw [sC]
  split at h
  ·rename_i hA
   rw [hA, PR]
   exact ri hN ho aX l _ _ _ _ _ _ _ h ht hl h0 hK
  ·rename_i hA
   rw [hA, Ub]
   split at h
   case h_2 => cases h
   rename_i b hg
   rw [hg]
   split at h
   ·rw [KC]
    split at h
    case h_2 => cases h
    rename_i v S1 w ld hd
    split at h
    case h_2 => cases h
    rename_i e1 S3 tr1 ls1 hr
    simp only [Option.some.injEq, Prod.mk.injEq] at h
    obtain ⟨rfl, rfl, rfl, rfl⟩ := h
    have hw : w = true → eu L S0 S1 := fun e => by subst e; exact ht _ List.mem_cons_self
    have xj : ∀ M ∈ tr1, eu L S0 M := fun M hM => by
     cases w
     ·exact ht M hM
     ·exact ht M (List.mem_cons_of_mem _ hM)
    exact NS hN ho aX hd (fun i hi => hl i (List.mem_append_left _ hi)) h0 hw fun h1 => ri hN ho aX l _ _ _ _ _ _ _ hr xj (fun i hi => hl i (List.mem_append_right _ hi)) h1 hK
   ·rw [PS]
    exact ri hN ho aX l _ _ _ _ _ _ _ h ht hl h0 hK
theorem HY (hN : eB P = true) (ho : ∀ g args v, dK g args = some v → aD P I g args ⟨[], []⟩ (fun v' _ => v' = v)) {run : qD} (aX : iY P I run) {p : Nat} {A : List Nat} {fn : FuncId} {id : Nat} {ops : Array Oper} {k : List Item} {env : List V} {S S' : Mem} {v : V} (hm : P.follows .mixedOrders = true) (hB : Region.lexB .any ops = true)
 (h : Ev P I dK run p A fn ops k env S = some (v, S')) (z : Nat × Nat) (R : V → Mem → Prop) (hR : R v S') : af P I z fn (.code (.region id ops true) :: k) env S R := by
 unfold Ev at h
 split at h
 case h_2 => cases h
 rename_i hc
 simp only [Bool.and_eq_true] at hc
 obtain ⟨⟨⟨⟨c1, c2⟩, c3⟩, c4⟩, c5⟩ := hc
 split at h
 case h_2 => cases h
 rename_i Eu S1 tr ls h1
 split at h
 case h_2 => cases h
 rename_i hk
 rw [Bool.and_eq_true, List.all_eq_true] at hk
 have PU : ∀ done, NR P I dK run p fn ops k done Eu S1 = some (v, S') → mM P I ops [] [] (kS S1 (done.map (zA P ops))) (fun env S => af P I z fn k env S R) p (ops.toList.drop p) (gE ops S1.boxes.length done Eu) (kS S1 (done.map (zA P ops))) := by
  intro done h
  unfold NR at h
  split at h
  case h_2 => cases h
  rename_i Ue S3 tr3 h3
  exact ri hN ho aX _ _ _ _ _ _ _ _ h3 (fun M _ => by rw [oT]; trivial) (fun i hi => absurd hi List.not_mem_nil) (by rw [oT]; trivial) (aX _ _ _ _ _ _ h z R hR)
 refine af.bp p A ls hm hB c1 c2 c3 c4 c5 ⟨BK hk.1, ri hN ho aX _ _ _ _ _ _ _ _ h1 (fun M hM => BI (hk.2 M hM)) (fun i hi => BL hi) (kA _ _) ?_⟩
 split at h
 ·rw [FW]
  exact PU _ h
 ·rw [FX]
  exact PU _ h
 ·cases h
theorem HZ {Ew : FuncId → Nat → Option (Nat × List Nat)} (hN : eB P = true) (ho : ∀ g args v, dK g args = some v → aD P I g args ⟨[], []⟩ (fun v' _ => v' = v)) {run : qD} (aX : iY P I run) : iY P I (Ex P I dK Ew run) := by
 intro fn k env S v S' h z R hR
 unfold Ex at h
 split at h
 ·obtain ⟨rfl, f, hf, hv⟩ := BR h
  exact .fin hf hv hR
 ·rename_i c k
  unfold KN at h
  split at h
  ·exact .seq (aX _ _ _ _ _ _ h _ _ hR)
  ·exact .skip (aX _ _ _ _ _ _ h _ _ hR)
  ·exact .label (aX _ _ _ _ _ _ h _ _ hR)
  ·exact .block (aX _ _ _ _ _ _ h _ _ hR)
  ·rw [uZ] at h
   exact .region (aX _ _ _ _ _ _ h _ _ hR)
  ·split at h
   case h_2 => cases h
   rename_i hc
   rw [Bool.and_eq_true] at hc
   split at h
   ·exact HY hN ho aX hc.1 hc.2 h z R hR
   split at h
   case h_2 => cases h
   rename_i cr he
   exact .draw hc.1 hc.2 (q9 hN ho aX _ _ _ he (aX _ _ _ _ _ _ h _ _ hR))
  ·rename_i x a b
   split at h
   case h_2 => cases h
   rename_i t ht
   refine .cond ht ?_
   split at h
   ·exact aX _ _ _ _ _ _ h _ _ hR
   ·exact aX _ _ _ _ _ _ h _ _ hR
  ·split at h
   case h_2 => cases h
   rename_i k' hk
   exact .exit hk (aX _ _ _ _ _ _ h _ _ hR)
  ·exact .loop (aX _ _ _ _ _ _ h _ _ hR)
  ·obtain ⟨rfl, f, hf, hv⟩ := BR h
   exact .ret hf hv hR
  ·cases h
 ·exact .inBlock (aX _ _ _ _ _ _ h _ _ hR)
 ·exact .inLoop (aX _ _ _ _ _ _ h _ _ hR)
 ·exact .iV (aX _ _ _ _ _ _ h _ _ hR)
 ·rename_i ops i rest k
  unfold PT at h
  split at h
  case h_2 => cases h
  rename_i o xl
  split at h
  ·rename_i hg
   exact F5 hN ho aX xl (.inl hg) h z R hR
  ·rename_i j want hg
   split at h
   ·rename_i t ht
    split at h
    ·rename_i hw
     have : t = want := by simpa using hw
     subst this
     exact F5 hN ho aX xl (.inr ⟨j, t, hg, ht⟩) h z R hR
    ·rename_i hw
     exact .mG xl ⟨j, want, hg, .inl ⟨t, ht, hw⟩⟩ (aX _ _ _ _ _ _ h _ _ hR)
   ·rename_i ht
    exact .mG xl ⟨j, want, hg, .inr ht⟩ (aX _ _ _ _ _ _ h _ _ hR)
   ·cases h
 ·cases h
theorem PV {Ew : FuncId → Nat → Option (Nat × List Nat)} (hN : eB P = true) (ho : ∀ g args v, dK g args = some v → aD P I g args ⟨[], []⟩ (fun v' _ => v' = v)) : ∀ n, iY P I (ew P I dK Ew n)
 | 0 => fun _ _ _ _ _ _ h => by cases h
 | n + 1 => HZ hN ho (PV hN ho n)
end
noncomputable def zP (P : Program) (I : Inv) (dK : FuncId → List V → Option V) (Ew : FuncId → Nat → Option (Nat × List Nat)) (n : Nat) (g : FuncId) (args : List V) : Option V :=
 match KM P dK (ew P I dK Ew n) g args ⟨[], []⟩ with
 | some (v, _) => some v
 | none => none
theorem yg {P : Program} {I : Inv} {dK : FuncId → List V → Option V} {Ew : FuncId → Nat → Option (Nat × List Nat)} (hN : eB P = true) (ho : ∀ g args v, dK g args = some v → aD P I g args ⟨[], []⟩ (fun v' _ => v' = v)) {n : Nat} {g : FuncId} {args : List V} {v : V} (h : zP P I dK Ew n g args = some v) : aD P I g args ⟨[], []⟩ (fun v' _ => v' = v) := by
 unfold zP at h
 split at h
 case h_2 => cases h
 rename_i v1 S1 h1
 obtain rfl := Option.some.inj h
 exact zO hN ho (PV hN ho n) h1 rfl
end Go.Ab
namespace Go.Proofs.YtnfnbjjnjjdjdaaGreatDoor
open Go.RowKit
def iZ (l p : List UInt8) : Bool := p.isPrefixOf l
end Go.Proofs.YtnfnbjjnjjdjdaaGreatDoor
namespace Go.Av
def cY (c : UInt8) : Bool := decide (97 ≤ c.toNat ∧ c.toNat ≤ 122 ∨ 65 ≤ c.toNat ∧ c.toNat ≤ 90 ∨ c.toNat = 95)
def bT (c : UInt8) : Bool := decide (48 ≤ c.toNat ∧ c.toNat ≤ 57)
def lG (c : UInt8) : Bool := decide (c.toNat = 32 ∨ c.toNat = 9 ∨ c.toNat = 10 ∨ c.toNat = 13)
def eL : Bool → List UInt8 → List UInt8
 | _, [] => []
 | true, c :: r => if c.toNat = 10 then eL false r else eL true r
 | false, c :: r => if lG c = true then eL false r else if c.toNat = 47 ∧ r.head? = some 47 then eL true r else c :: r
theorem H6 (b : Bool) : eL b [] = [] := by cases b <;> rfl
theorem Ez (c : UInt8) (r : List UInt8) (h : lG c = true) : eL false (c :: r) = eL false r := by simp [eL, h]
theorem H7 (c : UInt8) (r : List UInt8) (h : c.toNat = 47) (h' : r.head? = some 47) : eL false (c :: r) = eL true (c :: r) := by
 have hw : ¬ lG c = true := by unfold lG; rw [decide_eq_true_iff]; omega
 simp only [eL]
 rw [if_neg hw, if_pos ⟨h, h'⟩, if_neg (by omega)]
theorem H8 (c : UInt8) (r : List UInt8) (h : ¬ lG c = true) (h' : ¬ (c.toNat = 47 ∧ r.head? = some 47)) : eL false (c :: r) = c :: r := by
 simp only [eL]
 rw [if_neg h, if_neg h']
theorem NT (c : UInt8) (r : List UInt8) (h : ¬ c.toNat = 10) : eL true (c :: r) = eL true r := by simp [eL, h]
theorem yh (c : UInt8) (r : List UInt8) (h : c.toNat = 10) : eL true (c :: r) = eL false (c :: r) := by
 have hw : lG c = true := by unfold lG; rw [decide_eq_true_iff]; omega
 simp [eL, h, hw]
def fA (bs : List UInt8) (k : Nat) : Nat := bs.length - (eL false (bs.drop k)).length
theorem vw (bs : List UInt8) (k m : Nat) (hm : m ≤ bs.length) (h : eL false (bs.drop k) = bs.drop m) : fA bs k = m := by
 unfold fA
 rw [h, List.length_drop]
 omega
theorem kB (bs : List UInt8) (k : Nat) : fA bs k ≤ bs.length := by unfold fA; omega
def eT (p : UInt8 → Bool) (bs : List UInt8) (k : Nat) : Nat := k + ((bs.drop k).takeWhile p).length
theorem BS (p : UInt8 → Bool) (bs : List UInt8) (k : Nat) (h : k ≤ bs.length) : k ≤ eT p bs k ∧ eT p bs k ≤ bs.length := by
 unfold eT
 have := (List.takeWhile_prefix p (l := bs.drop k)).length_le
 rw [List.length_drop] at this
 omega
theorem gf {bs : List UInt8} {k : Nat} {c : UInt8} (h : bs[k]? = some c) : bs.drop k = c :: bs.drop (k + 1) := by
 obtain ⟨au, rfl⟩ := List.getElem?_eq_some_iff.1 h
 exact List.drop_eq_getElem_cons au
theorem EA (p : UInt8 → Bool) (bs : List UInt8) (k : Nat) (c : UInt8) (h : bs[k]? = some c) (hp : p c = true) : eT p bs k = eT p bs (k + 1) := by
 unfold eT
 rw [gf h, List.takeWhile_cons_of_pos hp]
 simp only [List.length_cons]
 omega
theorem EB (p : UInt8 → Bool) (bs : List UInt8) (k : Nat) (c : UInt8) (h : bs[k]? = some c) (hp : ¬ p c = true) : eT p bs k = k := by
 unfold eT
 rw [gf h, List.takeWhile_cons_of_neg hp]
 rfl
theorem H9 (p : UInt8 → Bool) (bs : List UInt8) (k : Nat) (h : bs.length ≤ k) : eT p bs k = k := by
 unfold eT
 rw [List.drop_eq_nil_of_le h]
 rfl
def PW (B : Nat) (w : World) (v : Value) (bs : List UInt8) : Prop :=
 (v = .slice none 0 0 ∧ bs = []) ∨ ∃ (g off cap : Nat), v = .slice (some ⟨g, off, none⟩) bs.length cap ∧ g < B ∧ bs.length ≤ cap ∧ cap ≤ maxLen ∧ ∀ j u, (bv bs)[j]? = some u → w.cell? ⟨g, off + j, none⟩ = some u
theorem PW.below {B : Nat} {w w' : World} {v : Value} {bs : List UInt8} (h : PW B w v bs) (hb : RowKit.Below B w w') : PW B w' v bs := by
 rcases h with h | ⟨g, off, cap, hv, hg, h1, h2, hc⟩
 ·exact .inl h
 ·exact .inr ⟨g, off, cap, hv, hg, h1, h2, fun j u hu => by rw [hb.cell (p := ⟨g, off + j, none⟩) hg]; exact hc j u hu⟩
theorem PW.mono {B B' : Nat} {w : World} {v : Value} {bs : List UInt8} (h : PW B w v bs) (hB : B ≤ B') : PW B' w v bs := by
 rcases h with h | ⟨g, off, cap, hv, hg, h1, h2, hc⟩
 ·exact .inl h
 ·exact .inr ⟨g, off, cap, hv, by omega, h1, h2, hc⟩
theorem kX {bs : List UInt8} {k : Nat} {a : UInt8} (h : bs[k]? = some a) : (bv bs)[k]? = some (.int .u8 (a.toNat : Int)) := by
 simp [bv, h]
theorem zQ {bs : List UInt8} {k : Nat} {u : Value} (h : (bv bs)[k]? = some u) : ∃ a, bs[k]? = some a ∧ u = .int .u8 (a.toNat : Int) := by
 simp only [bv, List.getElem?_map, Option.map_eq_some_iff] at h
 obtain ⟨a, ha, rfl⟩ := h
 exact ⟨a, ha, rfl⟩
theorem EC {w : World} {g off : Nat} {bs : List UInt8} (hc : ∀ j u, (bv bs)[j]? = some u → w.cell? ⟨g, off + j, none⟩ = some u) (k : Nat) :
 ∀ j u, (bv (bs.drop k))[j]? = some u → w.cell? ⟨g, off + k + j, none⟩ = some u := by
 intro j u hu
 obtain ⟨a, ha, rfl⟩ := zQ hu
 rw [List.getElem?_drop] at ha
 have := hc (k + j) _ (kX ha)
 rwa [← Nat.add_assoc] at this
theorem ED {w : World} {g off : Nat} {bs : List UInt8} (hc : ∀ j u, (bv bs)[j]? = some u → w.cell? ⟨g, off + j, none⟩ = some u) (n : Nat) :
 ∀ j u, (bv (bs.take n))[j]? = some u → w.cell? ⟨g, off + j, none⟩ = some u := by
 intro j u hu
 obtain ⟨a, ha, rfl⟩ := zQ hu
 rw [List.getElem?_take] at ha
 split at ha
 ·exact hc j _ (kX ha)
 ·cases ha
end Go.Av
namespace Go.Proofs.YtnfnbjjnjjdjdaaGreatDoor
open Go.RowKit Go.Av
set_option maxRecDepth 100000 in
set_option maxHeartbeats 400000 in
theorem j6 (c : UInt8) (x : Int) (hx : (c.toNat : Int) = x) (w : World) : Calls Tryz.prog 154 #[.int .u8 x] w fun e w' => e = .returned (.bool (cY c)) ∧ w = w' := by
 have hc : x < 256 := by have := c.toNat_lt; omega
 have hr : cY c = true ↔ (97 ≤ x ∧ x ≤ 122 ∨ 65 ≤ x ∧ x ≤ 90 ∨ x = 95) := by
  unfold cY
  rw [decide_eq_true_iff]
  omega
 generalize cY c = r at hr ⊢
 have h0 : 0 ≤ x := by omega
 clear hx
 by_cases h1 : 97 ≤ x <;> by_cases h2 : x ≤ 122 <;> by_cases h3 : 65 ≤ x <;> by_cases h4 : x ≤ 90 <;> by_cases h5 : x = 95 <;> first | omega | skip
 all_goals
  first | (have e5 : (x == 95) = true := by simpa using h5) | (have e5 : (x == 95) = false := by simpa using h5)
  cases r <;> simp [h1, h2, h3, h4, h5] at hr
  clear h5
  go_enter Tryz.func154, Tryz.ntmps154
  go_wp2_with fail
  go_ret
  exact ⟨rfl, rfl⟩
set_option maxRecDepth 100000 in
set_option maxHeartbeats 400000 in
theorem rj (c : UInt8) (x : Int) (hx : (c.toNat : Int) = x) (w : World) : Calls Tryz.prog 157 #[.int .u8 x] w fun e w' => e = .returned (.bool (bT c)) ∧ w = w' := by
 have hc : x < 256 := by have := c.toNat_lt; omega
 have hr : bT c = true ↔ (48 ≤ x ∧ x ≤ 57) := by
  unfold bT
  rw [decide_eq_true_iff]
  omega
 generalize bT c = r at hr ⊢
 have h0 : 0 ≤ x := by omega
 clear hx
 by_cases h1 : 48 ≤ x <;> by_cases h2 : x ≤ 57 <;> first | omega | skip
 all_goals
  cases r <;> simp [h1, h2] at hr
  go_enter Tryz.func157, Tryz.ntmps157
  go_wp2_with fail
  go_ret
  exact ⟨rfl, rfl⟩
def og (c : UInt8) : Bool := cY c || bT c
set_option maxRecDepth 100000 in
set_option maxHeartbeats 400000 in
theorem NU (c : UInt8) (x : Int) (hx : (c.toNat : Int) = x) (w : World) : Calls Tryz.prog 156 #[.int .u8 x] w fun e w' => e = .returned (.bool (og c)) ∧ w = w' := by
 have hl := j6 c x hx
 have hd := rj c x hx
 have hw : og c = (cY c || bT c) := rfl
 rw [hw]
 clear hw hx
 generalize cY c = p at hl ⊢
 generalize bT c = q at hd ⊢
 have HL := Lib.hid hl
 have HD := Lib.hid hd
 clear hl hd
 cases p
 ·go_enter Tryz.func156, Tryz.ntmps156
  go_wp2_with fail
  refine (HL.out _).mono ?_
  rintro e w1 ⟨rfl, rfl⟩
  go_wp2_with fail
  refine (HD.out _).mono ?_
  rintro e w1 ⟨rfl, rfl⟩
  go_wp2_with fail
  go_ret
  exact ⟨by cases q <;> rfl, rfl⟩
 ·go_enter Tryz.func156, Tryz.ntmps156
  go_wp2_with fail
  refine (HL.out _).mono ?_
  rintro e w1 ⟨rfl, rfl⟩
  go_wp2_with fail
  go_ret
  exact ⟨rfl, rfl⟩
set_option maxRecDepth 100000 in
set_option maxHeartbeats 400000 in
theorem yj (F : Nat) (p : UInt8 → Bool) (hE : ∀ args w, (callFunc F args).run Tryz.prog w = .ok (.enter F args) w) (hF : ∀ (c : UInt8) (w : World), Calls Tryz.prog F #[.int .u8 (c.toNat : Int)] w fun e w' => e = .returned (.bool (p c)) ∧ w = w')
 (B : Nat) (v : Value) (bs : List UInt8) (k0 : Nat) (w : World) (hv : PW B w v bs) (hk : k0 ≤ bs.length) (hn : bs.length ≤ 9223372036854775807) :
 Calls Tryz.prog 155 #[v, .int .i64 (k0 : Int), .func (.func F) #[] #[]] w fun e w' => e = .returned (.int .i64 (eT p bs k0 : Int)) ∧ w = w' := by
 have HF := Lib.hid hF
 clear hF
 rcases hv with ⟨rfl, rfl⟩ | ⟨g, off, cap, rfl, hg, ek, qb, hc⟩
 ·have : k0 = 0 := by simpa using hk
  subst this
  go_enter Tryz.func155, Tryz.ntmps155
  go_wp2_with fail
  refine wp_loop_rounds 1 ?_
  rw [rounds_succ]
  go_wp2_with fail
  go_ret
  exact ⟨rfl, rfl⟩
 ·have hi : ∀ k : Nat, k < bs.length → ∃ a, bs[k]? = some a ∧ w.cell? ⟨g, off + k, none⟩ = some (.int .u8 (a.toNat : Int)) := by
   intro k hk
   exact ⟨bs[k], List.getElem?_eq_getElem hk, hc k _ (kX (List.getElem?_eq_getElem hk))⟩
  have HI := Lib.hid hi
  clear hi hc
  go_enter Tryz.func155, Tryz.ntmps155
  go_wp2_with fail
  go_loop [1] (fun i => ∃ k : Nat, i = .int .i64 k ∧ k ≤ bs.length ∧ Hid (eT p bs k0 = eT p bs k)) (fun i => (bs.length - intOf i).toNat)
  case atStart => exact ⟨k0, rfl, hk, Lib.hid rfl⟩
  case round =>
   obtain ⟨k, rfl, hk, HR⟩ := hrel
   by_cases au : k < bs.length
   ·obtain ⟨a, ha, eO⟩ := HI.out k au
    have HA := Lib.hid ha
    clear ha
    have SD := HF.out a
    have aH : (k : Int) < bs.length := by omega
    by_cases hp : p a = true
    ·rw [hp] at SD
     have HP := Lib.hid hp
     have XG := Lib.hid SD
     clear hp SD
     go_wp2_with fail
     refine (XG.out _).mono ?_
     rintro e w1 ⟨rfl, rfl⟩
     go_wp2_with fail
     go_round
     case rel => exact ⟨k + 1, by go_num, by omega, Lib.hid (by rw [HR.out, EA p bs k a HA.out HP.out])⟩
     case measure => simp [intOf]; omega
    ·rw [Bool.not_eq_true] at hp
     rw [hp] at SD
     have HP := Lib.hid hp
     have XG := Lib.hid SD
     clear hp SD
     go_wp2_with fail
     refine (XG.out _).mono ?_
     rintro e w1 ⟨rfl, rfl⟩
     go_wp2_with fail
     go_ret
     exact ⟨by rw [HR.out, EB p bs k a HA.out (by rw [HP.out]; exact Bool.false_ne_true)]; rfl, rfl⟩
   ·have aH : ¬ (k : Int) < bs.length := by omega
    go_wp2_with fail
    go_ret
    exact ⟨by rw [HR.out, H9 p bs k (by omega)]; rfl, rfl⟩
def kY : List (List UInt8) := [[97, 112, 112, 101, 110, 100], [98, 111, 111, 108], [98, 121, 116, 101], [99, 97, 115, 101], [100, 101, 102, 97, 117, 108, 116], [101, 108, 115, 101], [102, 97, 108, 115, 101], [102, 111, 114], [102, 117, 110, 99], [105, 102], [105, 110, 116], [105, 110, 116, 51, 50], [108, 101, 110], [112, 97, 99, 107, 97, 103, 101], [114, 101, 116, 117, 114, 110], [115, 116, 114, 117, 99, 116], [115, 119, 105, 116, 99, 104], [116, 114, 117, 101], [116, 121, 112, 101], [117, 105, 110, 116, 51, 50], [117, 105, 110, 116, 54, 52], [118, 97, 114]]
def eg : List (List UInt8) := [[38, 38], [124, 124], [61, 61], [33, 61], [60, 61], [62, 61], [60, 60], [62, 62], [40], [41], [123], [125], [91], [93], [44], [46], [58], [61], [60], [62], [43], [45], [42], [47], [37], [38], [124], [94], [33]]
def BT (l : List (List UInt8)) : Array Value := (l.map fun s => Value.string ⟨s.toArray⟩).toArray
structure pq (w : World) : Prop where
 BU : ∃ t fr, w.heap[0]? = some (.cells (BT eg) t fr)
 keys : ∃ t fr, w.heap[1]? = some (.cells (BT kY) t fr)
theorem pq.size {w : World} (h : pq w) : 1 < w.heap.size ∧ 0 < w.heap.size := by
 obtain ⟨t, fr, h1⟩ := h.BU
 obtain ⟨t', Wh, h2⟩ := h.keys
 exact ⟨(Array.getElem?_eq_some_iff.1 h2).1, (Array.getElem?_eq_some_iff.1 h1).1⟩
theorem pq.below {w w' : World} (h : pq w) (hb : Below w.heap.size w w') : pq w' := by
 have hs := h.size
 obtain ⟨t, fr, h1⟩ := h.BU
 obtain ⟨t', Wh, h2⟩ := h.keys
 exact ⟨⟨t, fr, by rw [hb.block _ hs.2]; exact h1⟩, ⟨t', Wh, by rw [hb.block _ hs.1]; exact h2⟩⟩
set_option linter.unusedVariables false in
theorem pq.kept {w w' : World} (h : pq w) {B : Nat} (hb : Below B w w') (hB : 1 + 0 + 1 ≤ B)
 : pq w' := by
 obtain ⟨t, fr, h1⟩ := h.BU
 obtain ⟨t', Wh, h2⟩ := h.keys
 exact ⟨⟨t, fr, by rw [hb.block _ (by omega)]; exact h1⟩, ⟨t', Wh, by rw [hb.block _ (by omega)]; exact h2⟩⟩
theorem KQ (k : Nat) (hk : k < 22) : ∀ W, (Instr.index 198 (.agg (BT kY)) (.int .i64 (k : Int))).run Tryz.prog W = .ok (.string ⟨(kY.getD k []).toArray⟩) W := by
 intro W
 have : k = 0 ∨ k = 1 ∨ k = 2 ∨ k = 3 ∨ k = 4 ∨ k = 5 ∨ k = 6 ∨ k = 7 ∨ k = 8 ∨ k = 9 ∨ k = 10 ∨ k = 11 ∨ k = 12 ∨ k = 13 ∨ k = 14 ∨ k = 15 ∨ k = 16 ∨ k = 17 ∨ k = 18 ∨ k = 19 ∨ k = 20 ∨ k = 21 := by omega
 rcases this with rfl | rfl | rfl | rfl | rfl | rfl | rfl | rfl | rfl | rfl | rfl | rfl | rfl | rfl | rfl | rfl | rfl | rfl | rfl | rfl | rfl | rfl
 all_goals
  show _ = _
  kernel_rfl
theorem Ia (k : Nat) (hk : k < 29) : ∀ W, (Instr.index 189 (.agg (BT eg)) (.int .i64 (k : Int))).run Tryz.prog W = .ok (.string ⟨(eg.getD k []).toArray⟩) W := by
 intro W
 have : k = 0 ∨ k = 1 ∨ k = 2 ∨ k = 3 ∨ k = 4 ∨ k = 5 ∨ k = 6 ∨ k = 7 ∨ k = 8 ∨ k = 9 ∨ k = 10 ∨ k = 11 ∨ k = 12 ∨ k = 13 ∨ k = 14 ∨ k = 15 ∨ k = 16 ∨ k = 17 ∨ k = 18 ∨ k = 19 ∨ k = 20 ∨ k = 21 ∨ k = 22 ∨ k = 23 ∨ k = 24 ∨ k = 25 ∨ k = 26 ∨ k = 27 ∨ k = 28 := by omega
 rcases this with rfl | rfl | rfl | rfl | rfl | rfl | rfl | rfl | rfl | rfl | rfl | rfl | rfl | rfl | rfl | rfl | rfl | rfl | rfl | rfl | rfl | rfl | rfl | rfl | rfl | rfl | rfl | rfl | rfl
 all_goals
  show _ = _
  kernel_rfl
def j7 (s : List UInt8) : Bool := kY.any (s == ·)
def rm (s : List UInt8) (k : Nat) : Bool := (kY.drop k).any (s == ·)
theorem zR (s : List UInt8) (k : Nat) (hk : k < 22) : rm s k = (s == kY.getD k [] || rm s (k + 1)) := by
 unfold rm
 have : kY.drop k = kY.getD k [] :: kY.drop (k + 1) := by
  have h : k < kY.length := hk
  rw [List.drop_eq_getElem_cons h]
  simp [List.getD, h]
 rw [this, List.any_cons]
set_option maxRecDepth 100000 in
set_option maxHeartbeats 400000 in
theorem KR (s : ByteArray) (w : World) (ht : pq w) : Calls Tryz.prog 158 #[.string s] w fun e w' => e = .returned (.bool (j7 s.data.toList)) ∧ w = w' := by
 obtain ⟨t, fr, th⟩ := ht.keys
 have HK := Lib.hid th
 clear th ht
 have hi := KQ
 generalize ZT : BT kY = kv at HK hi
 have dG : (Tryz.prog.info? 198).map (·.size) = some kv.size := by rw [← ZT]; kernel_rfl
 have HS := Lib.hid dG
 have HI := Lib.hid hi
 clear ZT dG hi
 go_enter Tryz.func158, Tryz.ntmps158
 go_wp2_with (refine wpList_load_row rfl 198 _ rfl 1 rfl _ kv _ _ HK.out Tryz.underlying198 rfl HS.out ?_)
 go_loop [6] (fun i => ∃ k : Nat, i = .int .i64 k ∧ k ≤ 22 ∧ Hid (j7 s.data.toList = rm s.data.toList k)) (fun i => (22 - intOf i).toNat)
 case atStart => exact ⟨0, rfl, by omega, Lib.hid rfl⟩
 case round =>
  obtain ⟨k, rfl, hk, HR⟩ := hrel
  by_cases au : k < 22
  ·have Wa := HI.out k au
   have jX := zR s.data.toList k au
   generalize kY.getD k [] = q at Wa jX
   have F6 := Lib.hid jX
   clear jX
   by_cases hq : q = s.data.toList
   ·have e : (q == s.toList) = true := by rw [ByteArray.toList_eq]; simpa using hq
    have HQ := Lib.hid hq
    clear hq
    go_wp2_with fail
    go_ret
    exact ⟨by rw [HR.out, F6.out, HQ.out]; simp, rfl⟩
   ·have e : (q == s.toList) = false := by rw [ByteArray.toList_eq]; simpa using hq
    have e2 : (s.data.toList == q) = false := by simpa using fun h => hq h.symm
    have HQ := Lib.hid e2
    clear hq e2
    go_wp2_with fail
    go_round
    case rel => exact ⟨k + 1, by go_num, by omega, Lib.hid (by rw [HR.out, F6.out, HQ.out]; rfl)⟩
    case measure => simp [intOf]; omega
  ·have e : rm s.data.toList k = false := by
    rw [show k = 22 by omega]
    rfl
   have HE := Lib.hid e
   clear e
   go_wp2_with fail
   go_ret
   exact ⟨by rw [HR.out, HE.out]; rfl, rfl⟩
end Go.Proofs.YtnfnbjjnjjdjdaaGreatDoor
namespace Go.Proofs.YtnfnbjjnjjdjdaaGreatDoor
open Go.RowKit Go.Av Go.Ab
def sF (l : List (List UInt8)) : List D := l.map .str
theorem tE {w : World} {g : Nat} {l : List (List UInt8)} {t : TypeId} {fr : Nat × Nat} (h : w.heap[g]? = some (.cells (BT l) t fr)) (hs : l.all (fun s => decide (s.length ≤ 9223372036854775807)) = true) (q : Nat) (hq : q < (sF l).length) : ∃ v, AV (sF l)[q] = some v ∧ w.cell? ⟨g, q, none⟩ = some v := by
 have y5 : q < l.length := by simpa [sF] using hq
 have mw := of_decide_eq_true (List.all_eq_true.1 hs l[q] (List.getElem_mem y5))
 refine ⟨.string ⟨(l[q]).toArray⟩, ?_, ?_⟩
 ·simp [sF, AV, mw]
 ·simp [World.cell?, h, BT, y5]
def Uf (g : Nat) : Option (List D) := bif g == 0 then some (sF eg) else bif g == 1 then some (sF kY) else none
def av : Inv := ⟨pq, 1 + 0 + 1, Uf, by
 intro w g row h hg
 unfold Uf at hg
 by_cases e : (g == 0) = true
 ·rw [e, cond_true] at hg
  obtain rfl := Option.some.inj hg
  obtain rfl := eq_of_beq e
  obtain ⟨t, fr, h1⟩ := h.BU
  exact ⟨by decide, fun q hq => tE h1 (by kernel_rfl) q hq⟩
 ·rw [Bool.eq_false_iff.2 e, cond_false] at hg
  by_cases e : (g == 1) = true
  ·rw [e, cond_true] at hg
   obtain rfl := Option.some.inj hg
   obtain rfl := eq_of_beq e
   obtain ⟨t, fr, h1⟩ := h.keys
   exact ⟨by decide, fun q hq => tE h1 (by kernel_rfl) q hq⟩
  ·rw [Bool.eq_false_iff.2 e, cond_false] at hg
   cases hg⟩
end Go.Proofs.YtnfnbjjnjjdjdaaGreatDoor
namespace Go.Proofs.YtnfnbjjnjjdjdaaGreatDoor
open Go.RowKit Go.Av
theorem oh (c x : UInt8) (r : List UInt8) : Lib.indexByte (c :: r) x = if c == x then 0 else if Lib.indexByte r x == -1 then -1 else Lib.indexByte r x + 1 := rfl
def pR (bs : List UInt8) (x : UInt8) (k : Nat) : Int := if Lib.indexByte (bs.drop k) x == -1 then -1 else Lib.indexByte (bs.drop k) x + k
theorem EE (bs : List UInt8) (x : UInt8) : pR bs x 0 = Lib.indexByte bs x := by
 unfold pR
 rw [List.drop_zero]
 split
 ·rename_i h; exact (eq_of_beq h).symm
 ·simp
theorem Ib (bs : List UInt8) (x c : UInt8) (k : Nat) (h : bs[k]? = some c) (hc : c = x) : pR bs x k = k := by
 subst hc
 unfold pR
 rw [gf h, oh]
 simp
theorem EF (bs : List UInt8) (x c : UInt8) (k : Nat) (h : bs[k]? = some c) (hc : ¬ c = x) : pR bs x k = pR bs x (k + 1) := by
 unfold pR
 rw [gf h, oh]
 have h0 := (Lib.indexByte_ge (bs.drop (k + 1)) x)
 have Ic : (c == x) = false := by simpa using hc
 rw [Ic]
 simp only [Bool.false_eq_true, if_false]
 by_cases h1 : Lib.indexByte (bs.drop (k + 1)) x = -1
 ·rw [h1]; rfl
 ·have e1 : (Lib.indexByte (bs.drop (k + 1)) x == -1) = false := by simpa using h1
  have e2 : (Lib.indexByte (bs.drop (k + 1)) x + 1 == -1) = false := by rw [beq_eq_false_iff_ne]; omega
  rw [e1]
  simp only [Bool.false_eq_true, if_false]
  rw [e2]
  simp only [Bool.false_eq_true, if_false]
  omega
theorem Ie (bs : List UInt8) (x : UInt8) (k : Nat) (h : bs.length ≤ k) : pR bs x k = -1 := by
 unfold pR
 rw [List.drop_eq_nil_of_le h]
 rfl
set_option maxRecDepth 100000 in
set_option maxHeartbeats 400000 in
theorem BV (g off cap : Nat) (bs : List UInt8) (x : UInt8) (w : World) (hc : ∀ j u, (bv bs)[j]? = some u → w.cell? ⟨g, off + j, none⟩ = some u) (hn : bs.length ≤ 9223372036854775807) :
 Calls Tryz.prog 198 #[.slice (some ⟨g, off, none⟩) bs.length cap, .int .u8 (x.toNat : Int)] w fun e w' => e = .returned (.int .i64 (Lib.indexByte bs x)) ∧ w = w' := by
 have hi : ∀ k : Nat, k < bs.length → ∃ a, bs[k]? = some a ∧ w.cell? ⟨g, off + k, none⟩ = some (.int .u8 (a.toNat : Int)) := by
  intro k hk
  exact ⟨bs[k], List.getElem?_eq_getElem hk, hc k _ (kX (List.getElem?_eq_getElem hk))⟩
 have HI := Lib.hid hi
 clear hi hc
 go_enter Tryz.func198, Tryz.ntmps198
 go_wp2_with fail
 go_loop [8] (fun i => ∃ k : Nat, i = .int .i64 k ∧ k ≤ bs.length ∧ Hid (Lib.indexByte bs x = pR bs x k)) (fun i => (bs.length - intOf i).toNat)
 case atStart => exact ⟨0, rfl, by omega, Lib.hid (by rw [EE])⟩
 case round =>
  obtain ⟨k, rfl, hk, HR⟩ := hrel
  by_cases au : k < bs.length
  ·obtain ⟨a, ha, eO⟩ := HI.out k au
   have HA := Lib.hid ha
   clear ha
   by_cases SE : a = x
   ·have e : ((x.toNat : Int) == (a.toNat : Int)) = true := by rw [SE]; simp
    have HX := Lib.hid SE
    clear SE
    go_wp2_with fail
    go_ret
    exact ⟨by rw [HR.out, Ib bs x a k HA.out HX.out]; rfl, rfl⟩
   ·have e : ((x.toNat : Int) == (a.toNat : Int)) = false := by
     rw [beq_eq_false_iff_ne]
     intro h
     apply SE
     apply UInt8.toNat_inj.1
     omega
    have HX := Lib.hid SE
    clear SE
    go_wp2_with fail
    go_round
    case rel => exact ⟨k + 1, by go_num, by omega, Lib.hid (by rw [HR.out, EF bs x a k HA.out HX.out])⟩
    case measure => simp [intOf]; omega
  ·have aH : ¬ (k : Int) < bs.length := by omega
   go_wp2_with fail
   go_ret
   exact ⟨by rw [HR.out, Ie bs x k (by omega)]; rfl, rfl⟩
set_option maxRecDepth 100000 in
set_option maxHeartbeats 400000 in
theorem vz (g off cap : Nat) (bs : List UInt8) (x : UInt8) (w : World) (hc : ∀ j u, (bv bs)[j]? = some u → w.cell? ⟨g, off + j, none⟩ = some u) (hn : bs.length ≤ 9223372036854775807) :
 Calls Tryz.prog 179 #[.slice (some ⟨g, off, none⟩) bs.length cap, .int .u8 (x.toNat : Int)] w fun e w' => e = .returned (.bool (decide (0 ≤ Lib.indexByte bs x))) ∧ w = w' := by
 have h := BV g off cap bs x w hc hn
 generalize Lib.indexByte bs x = r at h ⊢
 have H := Lib.hid h
 clear h hc
 go_enter Tryz.func179, Tryz.ntmps179
 go_wp2_with fail
 refine H.out.mono ?_
 rintro e w1 ⟨rfl, rfl⟩
 go_wp2_with fail
 go_ret
 exact ⟨rfl, rfl⟩
theorem EG (x : UInt8) : decide (0 ≤ Lib.indexByte [32, 9, 10, 13] x) = lG x := by
 have hx : ∀ n : Nat, n < 256 → decide (0 ≤ Lib.indexByte [32, 9, 10, 13] (UInt8.ofNat n)) = lG (UInt8.ofNat n) := by decide +kernel
 have := hx x.toNat x.toNat_lt
 simpa using this
set_option maxRecDepth 100000 in
set_option maxHeartbeats 400000 in
theorem BW (v1 v2 : Value) (l1 l2 : List UInt8) (w : World) (h1 : (convert 57 9 v1).run Tryz.prog w = .ok (.string ⟨l1.toArray⟩) w) (h2 : (convert 57 9 v2).run Tryz.prog w = .ok (.string ⟨l2.toArray⟩) w) :
 Calls Tryz.prog 180 #[v1, v2] w fun e w' => e = .returned (.bool (l1 == l2)) ∧ w = w' := by
 go_enter Tryz.func180, Tryz.ntmps180
 go_wp2_with fail
 go_ret
 exact ⟨by simp, rfl⟩
theorem mO (g off cap n : Nat) (bs : List UInt8) (w : World) (hlen : bs.length = n) (hc : ∀ j u, (bv bs)[j]? = some u → w.cell? ⟨g, off + j, none⟩ = some u) :
 (convert 57 9 (.slice (some ⟨g, off, none⟩) n cap)).run Tryz.prog w = .ok (.string ⟨bs.toArray⟩) w :=
 pJ (P := Tryz.prog) 57 5 9 Tryz.underlying57 Tryz.underlying5 Tryz.underlying9 g off cap n bs hlen hc
theorem KS (l p : List UInt8) : (l.take p.length == p) = iZ l p := by
 unfold iZ
 rw [Bool.eq_iff_iff, beq_iff_eq, List.isPrefixOf_iff_prefix, List.prefix_iff_eq_take]
 exact eq_comm
set_option maxRecDepth 100000 in
set_option maxHeartbeats 400000 in
theorem m8 (g off n cap g2 Rl zF : Nat) (l p : List UInt8) (w : World) (hl : l.length = n) (ek : n ≤ cap) (_hmax : n ≤ 9223372036854775807) (Ug : 1 ≤ p.length) (PX : p.length ≤ 9223372036854775807)
 (hc : ∀ j u, (bv l)[j]? = some u → w.cell? ⟨g, off + j, none⟩ = some u) (AK : ∀ j u, (bv p)[j]? = some u → w.cell? ⟨g2, Rl + j, none⟩ = some u) :
 Calls Tryz.prog 160 #[.slice (some ⟨g, off, none⟩) n cap, .slice (some ⟨g2, Rl, none⟩) p.length zF] w fun e w' => e = .returned (.bool (iZ l p)) ∧ w = w' := by
 by_cases h : p.length ≤ n
 ·have k1 := mO g off cap p.length (l.take p.length) w (by rw [List.length_take]; omega) (ED hc _)
  have k2 := mO g2 Rl zF p.length p w rfl AK
  have he := BW _ _ _ _ w k1 k2
  rw [KS] at he
  generalize iZ l p = r at he ⊢
  have HE := Lib.hid he
  clear he k1 k2 hc AK hl
  have h' : (p.length : Int) ≤ n := by omega
  go_enter Tryz.func160, Tryz.ntmps160
  go_wp2_with fail
  refine HE.out.mono ?_
  rintro e w1 ⟨rfl, rfl⟩
  go_wp2_with fail
  go_ret
  exact ⟨rfl, rfl⟩
 ·have e : iZ l p = false := by
   unfold iZ
   rw [Bool.eq_false_iff]
   intro e
   have := (List.isPrefixOf_iff_prefix.1 e).length_le
   omega
  rw [e]
  clear e hc AK hl
  have h' : ¬ (p.length : Int) ≤ n := by omega
  go_enter Tryz.func160, Tryz.ntmps160
  go_wp2_with fail
  go_ret
  exact ⟨rfl, rfl⟩
theorem ym (l : List UInt8) (c : UInt8) (r : List UInt8) (h : l = c :: r) : iZ l [47, 47] = true ↔ (c.toNat = 47 ∧ r.head? = some 47) := by
 subst h
 unfold iZ
 rw [List.isPrefixOf_iff_prefix]
 constructor
 ·rintro ⟨t, ht⟩
  simp at ht
  obtain ⟨rfl, rfl⟩ := ht
  exact ⟨rfl, rfl⟩
 ·rintro ⟨h1, h2⟩
  have hc : c = 47 := UInt8.toNat_inj.1 h1
  subst hc
  cases r with
  | nil => simp at h2
  | cons d t => simp at h2; subst h2; exact ⟨t, rfl⟩
theorem Ig (w : World) : Calls Tryz.prog 153 #[.slice none 0 0, .int .i64 0] w fun e w' => e = .returned (.int .i64 0) ∧ w = w' := by
 go_enter Tryz.func153, Tryz.ntmps153
 go_wp2_with fail
 refine wp_loop_rounds 1 ?_
 rw [rounds_succ]
 go_wp2_with fail
 go_ret
 exact ⟨rfl, rfl⟩
theorem cD (w : World) (o : Obj) (a : Addr) (h : a.block < w.heap.size) : (w.alloc o).cell? a = w.cell? a := World.cell?_of_block (Below.heap_alloc w o a.block h)
theorem yo (w : World) (bs : List UInt8) (e : TypeId) : ∀ j u, (bv bs)[j]? = some u → (w.alloc (.cells (bv bs).toArray e)).cell? ⟨w.heap.size, 0 + j, none⟩ = some u := JL w (bv bs) e
set_option maxRecDepth 100000 in
set_option maxHeartbeats 1000000 in
theorem kZ (g off cap : Nat) (bs : List UInt8) (k0 : Nat) (w : World) (hg : g < w.heap.size) (ek : bs.length ≤ cap) (qb : bs.length ≤ 9223372036854775807) (hk0 : k0 ≤ bs.length)
 (hc : ∀ j u, (bv bs)[j]? = some u → w.cell? ⟨g, off + j, none⟩ = some u) :
 Calls Tryz.prog 153 #[.slice (some ⟨g, off, none⟩) bs.length cap, .int .i64 (k0 : Int)] w fun e w' => e = .returned (.int .i64 (fA bs k0 : Int)) ∧ Below w.heap.size w w' := by
 have HC := Lib.hid hc
 clear hc
 go_enter Tryz.func153, Tryz.ntmps153
 go_wp2_with fail
 go_loopw [1] (fun i wr => ∃ k : Nat, i = .int .i64 k ∧ k ≤ bs.length ∧ Hid (eL false (bs.drop k0) = eL false (bs.drop k)) ∧ Below w.heap.size w wr) (fun i _ => (bs.length - intOf i).toNat)
 case atStart => exact ⟨k0, rfl, hk0, Lib.hid rfl, Below.refl _ _⟩
 case round =>
  obtain ⟨k, rfl, hk, HR, hb⟩ := hrel
  have dG := hb.size
  by_cases au : k < bs.length
  ·have aH : (k : Int) < bs.length := by omega
   obtain ⟨a, ha⟩ : ∃ a, bs[k]? = some a := ⟨bs[k], List.getElem?_eq_getElem au⟩
   have eO : wr.cell? ⟨g, off + k, none⟩ = some (.int .u8 (a.toNat : Int)) := by rw [hb.cell (p := ⟨g, off + k, none⟩) hg]; exact HC.out k _ (kX ha)
   have ZU : k < cap := by omega
   have ME : ∀ o : Obj, (wr.alloc o).cell? ⟨g, off + k, none⟩ = some (.int .u8 (a.toNat : Int)) := fun o => by rw [cD _ _ _ (show g < wr.heap.size by omega)]; exact eO
   have HD := Lib.hid (gf ha)
   have HA := Lib.hid ha
   clear ha
   have h4 := vz wr.heap.size 0 4 [32, 9, 10, 13] a (wr.alloc (.cells #[.int .u8 32, .int .u8 9, .int .u8 10, .int .u8 13] 5)) (yo wr [32, 9, 10, 13] _) (by decide)
   rw [EG] at h4
   by_cases hw : lG a = true
   ·rw [hw] at h4
    have HW := Lib.hid hw
    clear hw
    go_wp2_with fail
    refine h4.mono ?_
    rintro e w1 ⟨rfl, rfl⟩
    go_wp2_with fail
    go_roundw
    case rel => exact ⟨k + 1, by go_num, by omega, Lib.hid (by rw [HR.out, HD.out, Ez _ _ HW.out]), hb.alloc dG _⟩
    case measure => simp [intOf]; omega
   ·rw [Bool.not_eq_true] at hw
    rw [hw] at h4
    have HW := Lib.hid hw
    clear hw
    go_wp2_with fail
    refine h4.mono ?_
    rintro e w1 ⟨rfl, rfl⟩
    go_wp2_with fail
    have XH : ∀ j u, (bv bs)[j]? = some u → wr.cell? ⟨g, off + j, none⟩ = some u := fun j u hu => by rw [hb.cell (p := ⟨g, off + j, none⟩) hg]; exact HC.out j u hu
    have AK : ∀ j u, (bv (bs.drop k))[j]? = some u → ((wr.alloc (.cells #[.int .u8 32, .int .u8 9, .int .u8 10, .int .u8 13] 5)).alloc (.cells #[.int .u8 47, .int .u8 47] 5)).cell? ⟨g, off + k + j, none⟩ = some u := by
     intro j u hu
     rw [cD _ _ _ (show g < (wr.alloc _).heap.size by simp; omega), cD _ _ _ (show g < wr.heap.size by omega)]
     exact EC XH k j u hu
    have ZV : ∀ j u, (bv [47, 47])[j]? = some u → ((wr.alloc (.cells #[.int .u8 32, .int .u8 9, .int .u8 10, .int .u8 13] 5)).alloc (.cells #[.int .u8 47, .int .u8 47] 5)).cell? ⟨wr.heap.size + 1, 0 + j, none⟩ = some u := by
     have := yo (wr.alloc (.cells #[.int .u8 32, .int .u8 9, .int .u8 10, .int .u8 13] 5)) [47, 47] 5
     rw [show (wr.alloc (.cells #[.int .u8 32, .int .u8 9, .int .u8 10, .int .u8 13] 5)).heap.size = wr.heap.size + 1 from by simp] at this
     exact this
    have sG := m8 g (off + k) (bs.length - k) (cap - k) (wr.heap.size + 1) 0 2 (bs.drop k) [47, 47] _ (by rw [List.length_drop]) (by omega) (by omega) (by decide) (by decide) AK ZV
    clear AK ZV
    have DJ := (hb.alloc dG (.cells #[.int .u8 32, .int .u8 9, .int .u8 10, .int .u8 13] 5)).alloc (Nat.le_trans dG (by simp)) (.cells #[.int .u8 47, .int .u8 47] 5)
    by_cases hs : iZ (bs.drop k) [47, 47] = true
    ·rw [hs] at sG
     have mw := (ym _ _ _ HD.out).1 hs
     have HS := Lib.hid (H7 a (bs.drop (k + 1)) mw.1 mw.2)
     have Uh := mw.1
     clear hs mw
     refine sG.mono ?_
     rintro e w1 ⟨rfl, rfl⟩
     have pS : ∀ j u, (bv bs)[j]? = some u → ((wr.alloc (.cells #[.int .u8 32, .int .u8 9, .int .u8 10, .int .u8 13] 5)).alloc (.cells #[.int .u8 47, .int .u8 47] 5)).cell? ⟨g, off + j, none⟩ = some u := by
      intro j u hu
      rw [cD _ _ _ (show g < (wr.alloc _).heap.size by simp; omega), cD _ _ _ (show g < wr.heap.size by omega)]
      exact XH j u hu
     have ZW := Lib.hid pS
     have HAA := Lib.hid Uh
     clear pS XH ME eO h4 sG Uh
     generalize SF : (wr.alloc (.cells #[.int .u8 32, .int .u8 9, .int .u8 10, .int .u8 13] 5)).alloc (.cells #[.int .u8 47, .int .u8 47] 5) = w2 at ZW DJ ⊢
     clear SF
     go_wp2_with fail
     go_loop [1] (fun i => ∃ m : Nat, i = .int .i64 m ∧ k ≤ m ∧ m ≤ bs.length ∧ Hid (eL false (bs.drop k) = eL true (bs.drop m))) (fun i => (bs.length - intOf i).toNat)
     case atStart => exact ⟨k, rfl, by omega, by omega, Lib.hid (by rw [HD.out, HS.out])⟩
     case round =>
      obtain ⟨m, rfl, hkm, hm, HM⟩ := hrel
      by_cases ZX : m < bs.length
      ·have XI : (m : Int) < bs.length := by omega
       obtain ⟨d, hd⟩ : ∃ d, bs[m]? = some d := ⟨bs[m], List.getElem?_eq_getElem ZX⟩
       have XJ : w2.cell? ⟨g, off + m, none⟩ = some (.int .u8 (d.toNat : Int)) := ZW.out m _ (kX hd)
       have XK := Lib.hid (gf hd)
       have HD1 := Lib.hid hd
       clear hd
       by_cases AL : d.toNat = 10
       ·have bV : ((d.toNat : Int) != 10) = false := by simp; omega
        have HT := Lib.hid AL
        clear AL
        have ab2 : k < m := by
         rcases Nat.lt_or_ge k m with h | h
         ·exact h
         ·exfalso
          have XL : k = m := by omega
          subst XL
          have := HA.out
          rw [HD1.out] at this
          injection this with this
          have h1 := HT.out
          have h2 := HAA.out
          rw [this] at h1
          omega
        go_wp2_with fail
        first
         | exact ⟨⟨m, rfl, hm, Lib.hid (by rw [HR.out, HM.out, XK.out, yh _ _ HT.out]), DJ⟩, by simp [intOf]; omega⟩
         | (go_roundw; (case rel => exact ⟨m, rfl, hm, Lib.hid (by rw [HR.out, HM.out, XK.out, yh _ _ HT.out]), DJ⟩); (case measure => simp [intOf]; omega))
       ·have bV : ((d.toNat : Int) != 10) = true := by simp; omega
        have HT := Lib.hid AL
        clear AL
        go_wp2_with fail
        go_round
        case rel => exact ⟨m + 1, by go_num, by omega, by omega, Lib.hid (by rw [HM.out, XK.out, NT _ _ HT.out])⟩
        case measure => simp [intOf]; omega
      ·have XI : ¬ (m : Int) < bs.length := by omega
       have e : bs.drop m = [] := List.drop_eq_nil_of_le (by omega)
       have HE := Lib.hid e
       clear e
       go_wp2_with fail
       first
        | exact ⟨⟨m, rfl, hm, Lib.hid (by rw [HR.out, HM.out, HE.out]; rfl), DJ⟩, by simp [intOf]; omega⟩
        | (go_roundw; (case rel => exact ⟨m, rfl, hm, Lib.hid (by rw [HR.out, HM.out, HE.out]; rfl), DJ⟩); (case measure => simp [intOf]; omega))
    ·have XM := hs
     rw [Bool.not_eq_true] at XM
     rw [XM] at sG
     have PY : eL false (bs.drop k0) = bs.drop k := by
      rw [HR.out, HD.out]
      exact H8 a _ (by rw [HW.out]; exact Bool.false_ne_true) (fun h => hs ((ym _ _ _ HD.out).2 h))
     have HW2 := Lib.hid (vw bs k0 k hk PY)
     clear hs XM PY
     refine sG.mono ?_
     rintro e w1 ⟨rfl, rfl⟩
     go_wp2_with fail
     go_ret
     exact ⟨by rw [HW2.out]; rfl, DJ⟩
  ·have aH : ¬ (k : Int) < bs.length := by omega
   go_wp2_with fail
   go_ret
   exact ⟨by rw [vw bs k0 k hk (by rw [HR.out, List.drop_eq_nil_of_le (by omega)]; rfl)]; rfl, hb⟩
theorem cu (W : World) (b i j : Nat) (v : Value) (h : ¬ i = j) : (W.setCell ⟨b, i, none⟩ v).cell? ⟨b, j, none⟩ = W.cell? ⟨b, j, none⟩ :=
 World.cell?_setCell_other W ⟨b, i, none⟩ ⟨b, j, none⟩ v (fun e => h (congrArg Addr.off e))
def jT (l : List UInt8) : Nat := l.foldl (fun n c => n * 10 + (c.toNat - 48)) 0
theorem Ih (l : List UInt8) (c : UInt8) : jT (l ++ [c]) = jT l * 10 + (c.toNat - 48) := by simp [jT]
theorem zS (l : List UInt8) (k : Nat) : jT (l.take k) ≤ jT l := by
 have h : ∀ (r : List UInt8) (n : Nat), n ≤ r.foldl (fun n c => n * 10 + (c.toNat - 48)) n := by
  intro r
  induction r with
  | nil => intro n; exact Nat.le_refl _
  | cons c r ih =>
   intro n
   rw [List.foldl_cons]
   exact Nat.le_trans (by omega) (ih _)
 have e : jT l = (l.drop k).foldl (fun n c => n * 10 + (c.toNat - 48)) (jT (l.take k)) := by
  unfold jT
  rw [← List.foldl_append, List.take_append_drop]
 rw [e]
 exact h _ _
def BX : Nat := 18446744073709551615
structure bC where
 kind : Nat
 text : List UInt8
 int : Nat
 at' : Nat
 next : Nat
def bC.zero : bC := ⟨0, [], 0, 0, 0⟩
def bC.cells (x : bC) : Array Value := #[.int .i64 (x.kind : Int), .string ⟨x.text.toArray⟩, .int .u64 (x.int : Int), .int .i64 (x.at' : Int), .int .i64 (x.next : Int)]
def gG (bs : List UInt8) (k : Nat) : List UInt8 := (bs.drop k).take (eT bT bs k - k)
def cF (bs : List UInt8) (k : Nat) : Bool :=
 decide (jT (gG bs k) ≤ BX) && !(decide (eT bT bs k < bs.length) && cY (bs.getD (eT bT bs k) 0)) && !(decide (k + 1 < eT bT bs k) && decide (bs.getD k 0 = 48))
def jU (bs : List UInt8) (k : Nat) : bC := ⟨2, gG bs k, jT (gG bs k), k, eT bT bs k⟩
def iw (bs : List UInt8) (k : Nat) (w : World) (e : Ending) (w' : World) : Prop :=
 e = .returned (.tuple #[.agg (if cF bs k = true then jU bs k else bC.zero).cells, .bool (cF bs k)]) ∧ Below w.heap.size w w'
theorem iw.no {bs : List UInt8} {k : Nat} {w w' : World} (h : cF bs k = false) (hb : Below w.heap.size w w') : iw bs k w (.returned (.tuple #[.agg #[.int .i64 0, .string ⟨#[]⟩, .int .u64 0, .int .i64 0, .int .i64 0], .bool false])) w' := by
 unfold iw
 rw [h]
 exact ⟨rfl, hb⟩
theorem iw.yes {bs : List UInt8} {k : Nat} {w w' : World} (h : cF bs k = true) (hb : Below w.heap.size w w') : iw bs k w (.returned (.tuple #[.agg (jU bs k).cells, .bool true])) w' := by
 unfold iw
 rw [h]
 exact ⟨rfl, hb⟩
theorem zT {bs : List UInt8} {k : Nat} (h : ¬ jT (gG bs k) ≤ BX) : cF bs k = false := by
 unfold cF
 rw [decide_eq_false h]
 rfl
set_option maxRecDepth 100000 in
set_option maxHeartbeats 1000000 in
theorem KT (g off cap : Nat) (bs : List UInt8) (k : Nat) (w : World) (hg : g < w.heap.size) (ek : bs.length ≤ cap) (qb : cap ≤ 9223372036854775807) (hk : k < bs.length)
 (hc : ∀ j u, (bv bs)[j]? = some u → w.cell? ⟨g, off + j, none⟩ = some u) :
 Calls Tryz.prog 159 #[.slice (some ⟨g, off, none⟩) bs.length cap, .int .i64 (k : Int)] w (iw bs k w) := by
 have KU : ∀ (args : Array Value) (w : World), (callFunc 157 args).run Tryz.prog w = .ok (.enter 157 args) w := by
  intro args w
  simp [go_sem]
 have zU := fun W hv => yj 157 bT KU (fun c w => rj c _ rfl w) (w.heap.size + 1) (.slice (some ⟨g, off, none⟩) bs.length cap) bs k W hv (by omega) (by omega)
 have SG := BS bT bs k (by omega)
 have Tw : (gG bs k).length = eT bT bs k - k := by
  unfold gG
  rw [List.length_take, List.length_drop]
  omega
 have XJ : ∀ j : Nat, j < eT bT bs k - k → ∃ a, (gG bs k)[j]? = some a ∧ bT a = true ∧ w.cell? ⟨g, off + k + j, none⟩ = some (.int .u8 (a.toNat : Int)) := by
  intro j hj
  have Xu : k + j < bs.length := by omega
  have tZ : bs[k + j]? = some bs[k + j] := List.getElem?_eq_getElem Xu
  refine ⟨bs[k + j], ?_, ?_, ?_⟩
  ·unfold gG
   rw [List.getElem?_take, if_pos hj, List.getElem?_drop, tZ]
  ·have MW := List.all_takeWhile (p := bT) (l := bs.drop k)
   have sG := List.takeWhile_prefix bT (l := bs.drop k)
   have hlen : ((bs.drop k).takeWhile bT).length = eT bT bs k - k := by unfold eT; omega
   have G2 : ((bs.drop k).takeWhile bT)[j]? = some bs[k + j] := by
    rw [List.prefix_iff_eq_take.1 sG, List.getElem?_take, if_pos (by omega), List.getElem?_drop, tZ]
   exact List.all_eq_true.1 MW _ (List.mem_of_getElem? G2)
  ·have := hc (k + j) _ (kX tZ)
   rw [show off + k + j = off + (k + j) by omega]
   exact this
 have XN : cF bs k = cF bs k := rfl
 generalize Ui : eT bT bs k = e at *
 generalize ZY : gG bs k = ds at *
 have HWH := Lib.hid zU
 have ZZ := Lib.hid XJ
 have XO := Lib.hid Tw
 have Uj := Lib.hid Ui
 have XP := Lib.hid ZY
 clear KU zU XJ Tw XN Ui ZY
 have HC := Lib.hid hc
 clear hc
 have Xn : (k : Int) ≤ e := by omega
 have Z0 : (e : Int) ≤ bs.length := by omega
 have hkc : k < cap := by omega
 go_enter Tryz.func159, Tryz.ntmps159
 go_wp2_with fail
 refine (HWH.out _ ?_).mono ?_
 ·exact .inr ⟨g, off, cap, rfl, by omega, ek, by unfold maxLen; omega, fun j u hu => by rw [cD _ _ _ hg]; exact HC.out j u hu⟩
 rintro e' w1 ⟨rfl, rfl⟩
 go_wp2_with fail
 obtain ⟨m, hm⟩ : ∃ m, e - k = m := ⟨_, rfl⟩
 rw [hm]
 have HM := Lib.hid hm
 clear hm
 have hmb : m ≤ 9223372036854775807 := by have := HM.out; omega
 have hmc : m ≤ cap - k := by have := HM.out; omega
 go_loop [7, 19] (fun n i => ∃ j : Nat, i = .int .i64 j ∧ j ≤ m ∧ n = .int .u64 (jT (ds.take j) : Int) ∧ Hid (jT (ds.take j) ≤ BX)) (fun _ i => (m - intOf i).toNat)
 case atStart => exact ⟨0, rfl, by omega, rfl, by unfold Hid BX; simp [jT]⟩
 case round =>
  obtain ⟨j, rfl, hj, rfl, HV⟩ := hrel
  by_cases au : j < m
  ·obtain ⟨a, ha, Z6, Wi⟩ := ZZ.out j (by have := HM.out; omega)
   have ME : ∀ o : Obj, (w.alloc o).cell? ⟨g, off + k + j, none⟩ = some (.int .u8 (a.toNat : Int)) := fun o => by rw [cD _ _ _ hg]; exact Wi
   have jX : jT (ds.take (j + 1)) = jT (ds.take j) * 10 + (a.toNat - 48) := by
    obtain ⟨hl, rfl⟩ := List.getElem?_eq_some_iff.1 ha
    rw [List.take_succ_eq_append_getElem hl, Ih]
   have hb := of_decide_eq_true Z6
   obtain ⟨d, hd⟩ : ∃ d, a.toNat = 48 + d := ⟨a.toNat - 48, by omega⟩
   have hd9 : d ≤ 9 := by omega
   have Uk : (a.toNat : Int) = 48 + d := by omega
   have F6 : Hid (jT (ds.take (j + 1)) = jT (ds.take j) * 10 + d) := by unfold Hid; rw [jX, hd]; omega
   rw [Uk] at ME
   generalize jT (ds.take j) = n at HV F6 ⊢
   clear Wi ha Z6 jX hb hd Uk
   have hjm : (j : Int) < m := by omega
   by_cases hov : (18446744073709551615 - (48 + (d : Int) - 48)) / 10 < (n : Int)
   ·have zB : cF bs k = false := by
     refine zT ?_
     rw [XP.out]
     have h1 := zS ds (j + 1)
     rw [F6.out] at h1
     have h2 : BX = 18446744073709551615 := rfl
     omega
    go_wp2_with fail
    refine bodyPost_ret (v := .tuple #[.agg #[.int .i64 0, .string ⟨#[]⟩, .int .u64 0, .int .i64 0, .int .i64 0], .bool false]) (by simp [results, Tryz.results159, go_sem]) rfl (iw.no zB ?_)
    exact (Below.refl _ _).alloc (Nat.le_refl _) _
   ·have Jy : jT (ds.take (j + 1)) ≤ BX := by
     rw [F6.out]
     unfold BX
     omega
    have HV2 := Lib.hid Jy
    clear Jy
    have hnn : (n : Int) * 10 + d ≤ 18446744073709551615 := by omega
    go_wp2_with fail
    exact ⟨⟨j + 1, by go_num, by omega, by rw [F6.out]; congr 1; omega, HV2⟩, by simp [intOf]; omega⟩
  ·obtain rfl : j = m := by omega
   have KV : ds.take j = ds := List.take_of_length_le (by have := XO.out; have := HM.out; omega)
   rw [KV] at HV
   rw [KV]
   have PZ : bs[k]? = some (bs.getD k 0) := by rw [List.getD_eq_getElem?_getD, List.getElem?_eq_getElem hk]; rfl
   have hcK : ∀ o : Obj, (w.alloc o).cell? ⟨g, off + k, none⟩ = some (.int .u8 ((bs.getD k 0).toNat : Int)) := fun o => by rw [cD _ _ _ hg]; exact HC.out k _ (kX PZ)
   have Z7 : e < bs.length → ∀ o : Obj, (w.alloc o).cell? ⟨g, off + e, none⟩ = some (.int .u8 ((bs.getD e 0).toNat : Int)) := fun h o => by
    have Ul : bs[e]? = some (bs.getD e 0) := by rw [List.getD_eq_getElem?_getD, List.getElem?_eq_getElem h]; rfl
    rw [cD _ _ _ hg]
    exact HC.out e _ (kX Ul)
   have XQ : cF bs k = (!(decide (e < bs.length) && cY (bs.getD e 0)) && !(decide (k + 1 < e) && decide (bs.getD k 0 = 48))) := by
    unfold cF
    rw [XP.out, Uj.out, decide_eq_true HV.out]
    rfl
   have hW : jU bs k = ⟨2, ds, jT ds, k, e⟩ := by
    unfold jU
    rw [XP.out, Uj.out]
   have Um : (decide (bs.getD k 0 = 48)) = decide (((bs.getD k 0).toNat : Int) = 48) := by
    apply decide_eq_decide.2
    constructor
    ·intro h; rw [h]; rfl
    ·intro h
     apply UInt8.toNat.inj
     show _ = 48
     omega
   rw [Um] at XQ
   have P0 : ∀ o : Obj, (convert 57 9 (.slice (some ⟨g, off + k, none⟩) (e - k) (cap - k))).run Tryz.prog (w.alloc o) = .ok (.string ⟨ds.toArray⟩) (w.alloc o) := by
    intro o
    refine mO g (off + k) (cap - k) (e - k) ds _ (by have := XO.out; have := HM.out; omega) ?_
    intro i u hu
    have hi : i < j := by
     have := (List.getElem?_eq_some_iff.1 hu).1
     have h2 : (bv ds).length = ds.length := by simp [bv]
     have := XO.out
     have := HM.out
     omega
    obtain ⟨a, ha, _, Wi⟩ := ZZ.out i (by have := HM.out; omega)
    rw [cD _ _ _ hg, Wi]
    rw [kX ha] at hu
    exact hu
   have XR := Lib.hid XQ
   have HW := Lib.hid hW
   have XS := Lib.hid Z7
   have HCV := Lib.hid P0
   have ab8 : ((bs.getD k 0).toNat : Int) < 256 := by have := (bs.getD k 0).toNat_lt; omega
   clear KV PZ Z7 XQ hW Um P0
   generalize bs.getD k 0 = cK at *
   generalize bs.getD e 0 = cE at *
   generalize jT ds = vd at *
   by_cases xj : e < bs.length ∧ cY cE = true
   ·obtain ⟨he, hle⟩ := xj
    have XT := XS.out he
    have zB : cF bs k = false := by
     rw [XR.out, decide_eq_true he, hle]
     rfl
    have AM : (e : Int) < bs.length := by omega
    have Wj : e < cap := by omega
    clear he
    go_wp2_with fail
    refine (j6 cE _ rfl _).mono ?_
    rintro e' w1 ⟨rfl, rfl⟩
    rw [hle]
    go_wp2_with fail
    refine bodyPost_ret (v := .tuple #[.agg #[.int .i64 0, .string ⟨#[]⟩, .int .u64 0, .int .i64 0, .int .i64 0], .bool false]) (by simp [results, Tryz.results159, go_sem]) rfl (iw.no zB ?_)
    exact (Below.refl _ _).alloc (Nat.le_refl _) _
   ·have hE : (¬ (e : Int) < bs.length) ∨ ((e : Int) < bs.length ∧ cY cE = false ∧ e < cap ∧ ∀ o : Obj, (w.alloc o).cell? ⟨g, off + e, none⟩ = some (.int .u8 (cE.toNat : Int))) := by
     by_cases h : e < bs.length
     ·refine .inr ⟨by omega, ?_, by omega, XS.out h⟩
      cases hx : cY cE
      ·rfl
      ·exact absurd ⟨h, hx⟩ xj
     ·exact .inl (by omega)
    have NV : cF bs k = !(decide (k + 1 < e) && decide ((cK.toNat : Int) = 48)) := by
     rw [XR.out]
     have : (decide (e < bs.length) && cY cE) = false := by
      rw [Bool.and_eq_false_iff]
      by_cases h : e < bs.length
      ·right
       cases hx : cY cE
       ·rfl
       ·exact absurd ⟨h, hx⟩ xj
      ·left
       exact decide_eq_false h
     rw [this]
     rfl
    have hT : ((e : Int) > k + 1 ∧ ((cK.toNat : Int) == 48) = true ∧ Hid (cF bs k = false)) ∨ ((e : Int) > k + 1 ∧ ((cK.toNat : Int) == 48) = false ∧ Hid (cF bs k = true)) ∨ (¬ (e : Int) > k + 1 ∧ Hid (cF bs k = true)) := by
     by_cases h : k + 1 < e
     ·by_cases h2 : (cK.toNat : Int) = 48
      ·exact .inl ⟨by omega, beq_iff_eq.2 h2, by unfold Hid; rw [NV, decide_eq_true h, decide_eq_true h2]; rfl⟩
      ·exact .inr (.inl ⟨by omega, beq_eq_false_iff_ne.2 h2, by unfold Hid; rw [NV, decide_eq_false h2]; simp⟩)
     ·exact .inr (.inr ⟨by omega, by unfold Hid; rw [NV, decide_eq_false h]; rfl⟩)
    have HT := Lib.hid hT
    have Z8 := Lib.hid hE
    have MY := HCV.out
    clear hT hE NV xj XS XR
    rcases HT.out with ⟨t1, t2, HN⟩ | ⟨t1, t2, HN⟩ | ⟨t1, HN⟩
    all_goals
     clear HT
     rcases Z8.out with he | ⟨he, hle, Wj, XT⟩
     all_goals
      clear Z8
      go_wp2_with fail
      try (refine (j6 cE _ rfl _).mono ?_; rintro e' w1 ⟨rfl, rfl⟩; rw [hle]; go_wp2_with fail)
      first
       | exact bodyPost_ret (v := .tuple #[.agg #[.int .i64 0, .string ⟨#[]⟩, .int .u64 0, .int .i64 0, .int .i64 0], .bool false]) (by simp [results, Tryz.results159, go_sem]) rfl (iw.no HN.out ((Below.refl _ _).alloc (Nat.le_refl _) _))
       | (refine bodyPost_ret (v := .tuple #[.agg (jU bs k).cells, .bool true]) ?_ rfl (iw.yes HN.out ?_); (· rw [HW.out]; simp [results, Tryz.results159, bC.cells, go_sem]); exact (Below.refl _ _).alloc (Nat.le_refl _) _)
def EH (l : List UInt8) : Option (List UInt8) := eg.find? fun s => iZ l s
def sH (bs : List UInt8) (p e : Nat) : List UInt8 := (bs.drop p).take (e - p)
def gp (bs : List UInt8) (p : Nat) : bC × Nat :=
 if p = bs.length then (⟨0, [], 0, p, p⟩, 0)
 else if cY (bs.getD p 0) = true then (⟨if j7 (sH bs p (eT og bs p)) = true then 4 else 1, sH bs p (eT og bs p), 0, p, eT og bs p⟩, 0)
 else if bT (bs.getD p 0) = true then (if cF bs p = true then (jU bs p, 0) else (bC.zero, 50))
 else match EH (bs.drop p) with
  | some s => (⟨3, s, 0, p, p + s.length⟩, 0)
  | none => (bC.zero, 50)
def eU (bs : List UInt8) (i : Int) : bC × Nat := if i < 0 ∨ i > bs.length then (bC.zero, 2) else gp bs (fA bs i.toNat)
def BY (r : bC × Nat) (w : World) (e : Ending) (w' : World) : Prop := e = .returned (.tuple #[.agg r.1.cells, .int .i64 (r.2 : Int)]) ∧ Below w.heap.size w w'
def xz (W : World) (b : Nat) (v0 v1 v2 v3 v4 : Value) : World := ((((W.setCell ⟨b, 0, none⟩ v0).setCell ⟨b, 1, none⟩ v1).setCell ⟨b, 2, none⟩ v2).setCell ⟨b, 3, none⟩ v3).setCell ⟨b, 4, none⟩ v4
def dH (w : World) : World := w.alloc (.cells #[.int .i64 0, .string ⟨#[]⟩, .int .u64 0, .int .i64 0, .int .i64 0] 112)
theorem cL (w : World) : (dH w).heap.size = w.heap.size + 1 := by simp [dH]
theorem iy (w : World) : Below w.heap.size w (dH w) := (Below.refl _ _).alloc (Nat.le_refl _) _
theorem ja (w W : World) (hb : Below (dH w).heap.size (dH w) W) (v0 v1 v2 v3 v4 : Value) :
 (xz W w.heap.size v0 v1 v2 v3 v4).cell? ⟨w.heap.size, 0, none⟩ = some v0 ∧ (xz W w.heap.size v0 v1 v2 v3 v4).cell? ⟨w.heap.size, 1, none⟩ = some v1 ∧ (xz W w.heap.size v0 v1 v2 v3 v4).cell? ⟨w.heap.size, 2, none⟩ = some v2 ∧
 (xz W w.heap.size v0 v1 v2 v3 v4).cell? ⟨w.heap.size, 3, none⟩ = some v3 ∧ (xz W w.heap.size v0 v1 v2 v3 v4).cell? ⟨w.heap.size, 4, none⟩ = some v4 ∧ Below w.heap.size w (xz W w.heap.size v0 v1 v2 v3 v4) := by
 have BZ : ∀ k : Nat, k < 5 → ∃ v, W.cell? ⟨w.heap.size, k, none⟩ = some v := by
  intro k hk
  rw [hb.cell (p := ⟨w.heap.size, k, none⟩) (by rw [cL]; exact Nat.lt_succ_self _)]
  simp only [dH, World.cell?, World.alloc, Array.getElem?_push_size]
  have : k = 0 ∨ k = 1 ∨ k = 2 ∨ k = 3 ∨ k = 4 := by omega
  rcases this with rfl | rfl | rfl | rfl | rfl <;> exact ⟨_, rfl⟩
 obtain ⟨u0, h0⟩ := BZ 0 (by omega)
 obtain ⟨u1, h1⟩ := BZ 1 (by omega)
 obtain ⟨u2, h2⟩ := BZ 2 (by omega)
 obtain ⟨u3, h3⟩ := BZ 3 (by omega)
 obtain ⟨u4, h4⟩ := BZ 4 (by omega)
 have iM : Below w.heap.size w W := (iy w).trans (hb.mono (by rw [cL]; omega))
 unfold xz
 refine ⟨?_, ?_, ?_, ?_, ?_, ?_⟩
 ·exact (cu _ _ 4 0 _ (by decide)).trans ((cu _ _ 3 0 _ (by decide)).trans ((cu _ _ 2 0 _ (by decide)).trans ((cu _ _ 1 0 _ (by decide)).trans (World.cell?_setCell_same _ _ _ (u := u0) (h0)))))
 ·exact (cu _ _ 4 1 _ (by decide)).trans ((cu _ _ 3 1 _ (by decide)).trans ((cu _ _ 2 1 _ (by decide)).trans (World.cell?_setCell_same _ _ _ (u := u1) ((cu _ _ 0 1 _ (by decide)).trans (h1)))))
 ·exact (cu _ _ 4 2 _ (by decide)).trans ((cu _ _ 3 2 _ (by decide)).trans (World.cell?_setCell_same _ _ _ (u := u2) ((cu _ _ 1 2 _ (by decide)).trans ((cu _ _ 0 2 _ (by decide)).trans (h2)))))
 ·exact (cu _ _ 4 3 _ (by decide)).trans (World.cell?_setCell_same _ _ _ (u := u3) ((cu _ _ 2 3 _ (by decide)).trans ((cu _ _ 1 3 _ (by decide)).trans ((cu _ _ 0 3 _ (by decide)).trans (h3)))))
 ·exact World.cell?_setCell_same _ _ _ (u := u4) ((cu _ _ 3 4 _ (by decide)).trans ((cu _ _ 2 4 _ (by decide)).trans ((cu _ _ 1 4 _ (by decide)).trans ((cu _ _ 0 4 _ (by decide)).trans h4))))
 ·exact ((((iM.setCell (Nat.le_refl _) _).setCell (Nat.le_refl _) _).setCell (Nat.le_refl _) _).setCell (Nat.le_refl _) _).setCell (Nat.le_refl _) _
theorem jx (w W : World) (hb : Below (dH w).heap.size (dH w) W) (k : Nat) : W.cell? ⟨w.heap.size, k, none⟩ = (w.alloc (.cells #[.int .i64 0, .string ⟨#[]⟩, .int .u64 0, .int .i64 0, .int .i64 0] 112)).cell? ⟨w.heap.size, k, none⟩ :=
 hb.cell (p := ⟨w.heap.size, k, none⟩) (by rw [cL]; exact Nat.lt_succ_self _)
theorem gH (w W : World) (hb : Below (dH w).heap.size (dH w) W) (k : Nat) : W.frozen? ⟨w.heap.size, k, none⟩ = (w.alloc (.cells #[.int .i64 0, .string ⟨#[]⟩, .int .u64 0, .int .i64 0, .int .i64 0] 112)).frozen? ⟨w.heap.size, k, none⟩ :=
 hb.frozen (p := ⟨w.heap.size, k, none⟩) (by rw [cL]; exact Nat.lt_succ_self _)
set_option maxRecDepth 100000 in
set_option maxHeartbeats 1000000 in
theorem KW (v : Value) (n : Nat) (i : Int) (w : World) (hv : ∃ a cap, v = .slice a n cap) (hi : i < 0 ∨ (¬ i < 0 ∧ i > n)) : Calls Tryz.prog 128 #[v, .int .i64 i] w (BY (bC.zero, 2) w) := by
 obtain ⟨a, cap, rfl⟩ := hv
 rcases hi with h | ⟨h, h'⟩
 all_goals
  go_enter Tryz.func128, Tryz.ntmps128
  go_wp2_with fail
  exact bodyPost_ret (v := .tuple #[.agg bC.zero.cells, .int .i64 2]) (by simp [results, Tryz.results128, bC.cells, bC.zero, go_sem]) rfl ⟨rfl, (Below.refl _ _).alloc (Nat.le_refl _) _⟩
set_option maxRecDepth 100000 in
set_option maxHeartbeats 1000000 in
theorem take_nil (w : World) : Calls Tryz.prog 128 #[.slice none 0 0, .int .i64 0] w (BY (eU [] 0) w) := by
 go_enter Tryz.func128, Tryz.ntmps128
 go_wp2_with fail
 refine (Ig _).mono ?_
 rintro e w1 ⟨rfl, rfl⟩
 go_wp2_with fail
 exact bodyPost_ret (v := .tuple #[.agg (eU [] 0).1.cells, .int .i64 0]) (by simp [results, Tryz.results128, bC.cells, eU, gp, fA, H6, go_sem]) rfl ⟨rfl, (Below.refl _ _).alloc (Nat.le_refl _) _⟩
set_option maxRecDepth 100000 in
set_option maxHeartbeats 1000000 in
theorem KX (g off cap : Nat) (bs : List UInt8) (k p : Nat) (w : World) (hg : g < w.heap.size) (ek : bs.length ≤ cap) (qb : cap ≤ 9223372036854775807) (hk : k ≤ bs.length)
 (zU : fA bs k = p) (hc : ∀ j u, (bv bs)[j]? = some u → w.cell? ⟨g, off + j, none⟩ = some u) (hp : p = bs.length) :
 Calls Tryz.prog 128 #[.slice (some ⟨g, off, none⟩) bs.length cap, .int .i64 (k : Int)] w (BY (gp bs p) w) := by
 have hr : gp bs p = (⟨0, [], 0, p, p⟩, 0) := by unfold gp; rw [if_pos hp]
 rw [hr]
 have Rm : p ≤ bs.length := by rw [← zU]; exact kB bs k
 have gL := fun W hg hc => kZ g off cap bs k W hg ek (by omega) hk hc
 rw [zU] at gL
 have qn := Lib.hid gL
 have HC := Lib.hid hc
 clear gL hc zU
 have lU : (k : Int) ≤ bs.length := by omega
 have XU : ((p : Int) == (bs.length : Int)) = true := beq_iff_eq.2 (by omega)
 clear hr hp
 go_enter Tryz.func128, Tryz.ntmps128
 go_wp2_with fail
 refine (qn.out _ (by simp; omega) (fun j u hu => by rw [cD _ _ _ hg]; exact HC.out j u hu)).mono ?_
 rintro e w2 ⟨rfl, pe⟩
 have mP : Below (dH w).heap.size (dH w) w2 := pe
 clear pe
 have NW : Below w.heap.size w w2 := (iy w).trans (mP.mono (by rw [cL]; omega))
 have zH := mP.size
 rw [cL] at zH
 have eO : ∀ j u, (bv bs)[j]? = some u → w2.cell? ⟨g, off + j, none⟩ = some u := fun j u hu => by rw [NW.cell (p := ⟨g, off + j, none⟩) hg]; exact HC.out j u hu
 have MF := Lib.hid eO
 have F7 := Lib.hid mP
 clear eO
 have jY := jx w w2 F7.out
 have qo := gH w w2 F7.out
 clear mP
 go_wp2_with fail
 obtain ⟨c0, c1, c2, c3, c4, vA⟩ := ja w w2 F7.out (.int .i64 0) (.string ⟨#[]⟩) (.int .u64 0) (.int .i64 (p : Int)) (.int .i64 (p : Int))
 change bodyPost _ _ _ _ _ (xz w2 w.heap.size (.int .i64 0) (.string ⟨#[]⟩) (.int .u64 0) (.int .i64 (p : Int)) (.int .i64 (p : Int)))
 generalize xz w2 w.heap.size (.int .i64 0) (.string ⟨#[]⟩) (.int .u64 0) (.int .i64 (p : Int)) (.int .i64 (p : Int)) = W5 at *
 clear jY qo
 refine bodyPost_ret (v := .tuple #[.agg (bC.mk 0 [] 0 p p).cells, .int .i64 0]) ?_ rfl ⟨rfl, vA⟩
 simp [results, Tryz.results128, bC.cells, c0, c1, c2, c3, c4, go_sem]
set_option maxRecDepth 100000 in
set_option maxHeartbeats 1000000 in
theorem B7 (g off cap : Nat) (bs : List UInt8) (k p : Nat) (w : World) (ht : pq w) (hg : g < w.heap.size) (ek : bs.length ≤ cap) (qb : cap ≤ 9223372036854775807) (hk : k ≤ bs.length)
 (zU : fA bs k = p) (hc : ∀ j u, (bv bs)[j]? = some u → w.cell? ⟨g, off + j, none⟩ = some u) (hp : p < bs.length) (hl : cY (bs.getD p 0) = true) :
 Calls Tryz.prog 128 #[.slice (some ⟨g, off, none⟩) bs.length cap, .int .i64 (k : Int)] w (BY (gp bs p) w) := by
 obtain ⟨e, he⟩ : ∃ e, eT og bs p = e := ⟨_, rfl⟩
 have Z0 := BS og bs p (by omega)
 rw [he] at Z0
 obtain ⟨tx, Wk⟩ : ∃ tx, sH bs p e = tx := ⟨_, rfl⟩
 have XV : tx.length = e - p := by
  rw [← Wk]
  unfold sH
  rw [List.length_take, List.length_drop]
  omega
 have tF : bs[p]? = some (bs.getD p 0) := by rw [List.getD_eq_getElem?_getD, List.getElem?_eq_getElem hp]; rfl
 have P1 := kX tF
 have ue : ∀ j u, (bv tx)[j]? = some u → (bv bs)[p + j]? = some u := by
  intro j u hu
  rw [← Wk] at hu
  unfold sH bv at hu
  rw [List.map_take, List.map_drop, List.getElem?_take] at hu
  split at hu
  ·rw [List.getElem?_drop] at hu
   exact hu
  ·cases hu
 have KU : ∀ (args : Array Value) (w : World), (callFunc 156 args).run Tryz.prog w = .ok (.enter 156 args) w := by
  intro args w
  simp [go_sem]
 have KY := fun W hv => yj 156 og KU (fun c w => NU c _ rfl w) W.heap.size (.slice (some ⟨g, off, none⟩) bs.length cap) bs p W hv (by omega) (by omega)
 rw [he] at KY
 have hr : ∀ b : Bool, j7 tx = b → gp bs p = (⟨if b = true then 4 else 1, tx, 0, p, e⟩, 0) := by
  intro b hb
  unfold gp
  rw [if_neg (by omega), if_pos hl, he, Wk, hb]
 have Z9 : (p : Int) < bs.length := by omega
 have XU : ((p : Int) == (bs.length : Int)) = false := beq_eq_false_iff_ne.2 (by omega)
 have Wf : p < cap := by omega
 have ab9 : (p : Int) ≤ e := by omega
 have acd : (e : Int) ≤ cap := by omega
 have Rm : p ≤ bs.length := by rw [← zU]; exact kB bs k
 have gL := fun W hg hc => kZ g off cap bs k W hg ek (by omega) hk hc
 rw [zU] at gL
 have qn := Lib.hid gL
 have HC := Lib.hid hc
 clear gL hc zU
 have lU : (k : Int) ≤ bs.length := by omega
 have Un := Lib.hid P1
 have Rn := Lib.hid ue
 have Uo := Lib.hid KY
 have HR := Lib.hid hr
 have HL := Lib.hid hl
 have HTL := Lib.hid XV
 clear P1 ue KY hr hl XV Wk he tF KU
 generalize bs.getD p 0 = c at *
 go_enter Tryz.func128, Tryz.ntmps128
 go_wp2_with fail
 refine (qn.out _ (by simp; omega) (fun j u hu => by rw [cD _ _ _ hg]; exact HC.out j u hu)).mono ?_
 rintro e w2 ⟨rfl, pe⟩
 have mP : Below (dH w).heap.size (dH w) w2 := pe
 clear pe
 have NW : Below w.heap.size w w2 := (iy w).trans (mP.mono (by rw [cL]; omega))
 have zH := mP.size
 rw [cL] at zH
 have eO : ∀ j u, (bv bs)[j]? = some u → w2.cell? ⟨g, off + j, none⟩ = some u := fun j u hu => by rw [NW.cell (p := ⟨g, off + j, none⟩) hg]; exact HC.out j u hu
 have MF := Lib.hid eO
 have F7 := Lib.hid mP
 clear eO
 have AK : w2.cell? ⟨g, off + p, none⟩ = some (.int .u8 (c.toNat : Int)) := MF.out p _ Un.out
 have uc := ht.below NW
 clear mP
 go_wp2_with fail
 refine (j6 c _ rfl _).mono ?_
 rintro e' w3 ⟨rfl, rfl⟩
 rw [HL.out]
 go_wp2_with fail
 refine (Uo.out _ ?_).mono ?_
 ·exact .inr ⟨g, off, cap, rfl, by omega, ek, by unfold maxLen; omega, MF.out⟩
 rintro e' w3 ⟨rfl, rfl⟩
 have MY : (convert 57 9 (.slice (some ⟨g, off + p, none⟩) (e - p) (cap - p))).run Tryz.prog w2 = .ok (.string ⟨tx.toArray⟩) w2 := mO g (off + p) (cap - p) (e - p) tx w2 HTL.out (fun j u hu => by rw [show off + p + j = off + (p + j) by omega]; exact MF.out _ _ (Rn.out j u hu))
 go_wp2_with fail
 have Ho := fun W ht => KR ⟨tx.toArray⟩ W ht
 rw [show (ByteArray.mk tx.toArray).data.toList = tx by simp] at Ho
 have XW := Lib.hid Ho
 have ht3 : ∀ o : Obj, pq (w2.alloc o) := fun o => uc.below ((Below.refl _ _).alloc (Nat.le_refl _) o)
 have NX : ∀ o : Obj, Below (dH w).heap.size (dH w) (w2.alloc o) := fun o => F7.out.alloc F7.out.size o
 have jY := fun o => jx w (w2.alloc o) (NX o)
 have qo := fun o => gH w (w2.alloc o) (NX o)
 have Up := Lib.hid NX
 clear Ho NX
 refine (XW.out _ (ht3 _)).mono ?_
 rintro e' w3 ⟨rfl, rfl⟩
 clear ht3 MY
 cases hv : j7 tx
 ·have EI := Lib.hid (HR.out false hv)
  clear HR XW hv
  go_wp2_with fail
  obtain ⟨c0, c1, c2, c3, c4, vA⟩ := ja w (w2.alloc (.cells #[.int .i64 1, .string ⟨tx.toArray⟩, .int .u64 0, .int .i64 (p : Int), .int .i64 (e : Int)] 112)) (Up.out _) (.int .i64 1) (.string ⟨tx.toArray⟩) (.int .u64 0) (.int .i64 (p : Int)) (.int .i64 (e : Int))
  change bodyPost _ _ _ _ _ (xz (w2.alloc (.cells #[.int .i64 1, .string ⟨tx.toArray⟩, .int .u64 0, .int .i64 (p : Int), .int .i64 (e : Int)] 112)) w.heap.size (.int .i64 1) (.string ⟨tx.toArray⟩) (.int .u64 0) (.int .i64 (p : Int)) (.int .i64 (e : Int)))
  generalize xz (w2.alloc (.cells #[.int .i64 1, .string ⟨tx.toArray⟩, .int .u64 0, .int .i64 (p : Int), .int .i64 (e : Int)] 112)) w.heap.size (.int .i64 1) (.string ⟨tx.toArray⟩) (.int .u64 0) (.int .i64 (p : Int)) (.int .i64 (e : Int)) = W5 at *
  clear jY qo
  refine bodyPost_ret (v := .tuple #[.agg (bC.mk 1 tx 0 p e).cells, .int .i64 0]) ?_ rfl ?_
  ·simp [results, Tryz.results128, bC.cells, c0, c1, c2, c3, c4, go_sem]
  ·rw [EI.out]
   exact ⟨rfl, vA⟩
 ·have EI := Lib.hid (HR.out true hv)
  clear HR XW hv
  go_wp2_with fail
  obtain ⟨c0, c1, c2, c3, c4, vA⟩ := ja w (w2.alloc (.cells #[.int .i64 4, .string ⟨tx.toArray⟩, .int .u64 0, .int .i64 (p : Int), .int .i64 (e : Int)] 112)) (Up.out _) (.int .i64 4) (.string ⟨tx.toArray⟩) (.int .u64 0) (.int .i64 (p : Int)) (.int .i64 (e : Int))
  change bodyPost _ _ _ _ _ (xz (w2.alloc (.cells #[.int .i64 4, .string ⟨tx.toArray⟩, .int .u64 0, .int .i64 (p : Int), .int .i64 (e : Int)] 112)) w.heap.size (.int .i64 4) (.string ⟨tx.toArray⟩) (.int .u64 0) (.int .i64 (p : Int)) (.int .i64 (e : Int)))
  generalize xz (w2.alloc (.cells #[.int .i64 4, .string ⟨tx.toArray⟩, .int .u64 0, .int .i64 (p : Int), .int .i64 (e : Int)] 112)) w.heap.size (.int .i64 4) (.string ⟨tx.toArray⟩) (.int .u64 0) (.int .i64 (p : Int)) (.int .i64 (e : Int)) = W5 at *
  clear jY qo
  refine bodyPost_ret (v := .tuple #[.agg (bC.mk 4 tx 0 p e).cells, .int .i64 0]) ?_ rfl ?_
  ·simp [results, Tryz.results128, bC.cells, c0, c1, c2, c3, c4, go_sem]
  ·rw [EI.out]
   exact ⟨rfl, vA⟩
set_option maxRecDepth 100000 in
set_option maxHeartbeats 1000000 in
theorem EJ (g off cap : Nat) (bs : List UInt8) (k p : Nat) (w : World) (hg : g < w.heap.size) (ek : bs.length ≤ cap) (qb : cap ≤ 9223372036854775807) (hk : k ≤ bs.length)
 (zU : fA bs k = p) (hc : ∀ j u, (bv bs)[j]? = some u → w.cell? ⟨g, off + j, none⟩ = some u) (hp : p < bs.length) (hl : cY (bs.getD p 0) = false) (hd : bT (bs.getD p 0) = true) :
 Calls Tryz.prog 128 #[.slice (some ⟨g, off, none⟩) bs.length cap, .int .i64 (k : Int)] w (BY (gp bs p) w) := by
 have tF : bs[p]? = some (bs.getD p 0) := by rw [List.getD_eq_getElem?_getD, List.getElem?_eq_getElem hp]; rfl
 have P1 := kX tF
 have hr : ∀ b : Bool, cF bs p = b → gp bs p = if b = true then (jU bs p, 0) else (bC.zero, 50) := by
  intro b hb
  unfold gp
  rw [if_neg (by omega), if_neg (by rw [hl]; decide), if_pos hd, hb]
 have Z9 : (p : Int) < bs.length := by omega
 have XU : ((p : Int) == (bs.length : Int)) = false := beq_eq_false_iff_ne.2 (by omega)
 have Wf : p < cap := by omega
 have Uq := fun W hg hc => KT g off cap bs p W hg ek qb hp hc
 have Rm : p ≤ bs.length := by rw [← zU]; exact kB bs k
 have gL := fun W hg hc => kZ g off cap bs k W hg ek (by omega) hk hc
 rw [zU] at gL
 have qn := Lib.hid gL
 have HC := Lib.hid hc
 clear gL hc zU
 have lU : (k : Int) ≤ bs.length := by omega
 have Un := Lib.hid P1
 have HR := Lib.hid hr
 have HL := Lib.hid hl
 have HD := Lib.hid hd
 have XX := Lib.hid Uq
 clear P1 hr hl hd tF Uq
 generalize bs.getD p 0 = c at *
 go_enter Tryz.func128, Tryz.ntmps128
 go_wp2_with fail
 refine (qn.out _ (by simp; omega) (fun j u hu => by rw [cD _ _ _ hg]; exact HC.out j u hu)).mono ?_
 rintro e w2 ⟨rfl, pe⟩
 have mP : Below (dH w).heap.size (dH w) w2 := pe
 clear pe
 have NW : Below w.heap.size w w2 := (iy w).trans (mP.mono (by rw [cL]; omega))
 have zH := mP.size
 rw [cL] at zH
 have eO : ∀ j u, (bv bs)[j]? = some u → w2.cell? ⟨g, off + j, none⟩ = some u := fun j u hu => by rw [NW.cell (p := ⟨g, off + j, none⟩) hg]; exact HC.out j u hu
 have MF := Lib.hid eO
 have F7 := Lib.hid mP
 clear eO
 have AK : w2.cell? ⟨g, off + p, none⟩ = some (.int .u8 (c.toNat : Int)) := MF.out p _ Un.out
 clear mP
 go_wp2_with fail
 refine (j6 c _ rfl _).mono ?_
 rintro e' w3 ⟨rfl, rfl⟩
 rw [HL.out]
 go_wp2_with fail
 refine (rj c _ rfl _).mono ?_
 rintro e' w3 ⟨rfl, rfl⟩
 rw [HD.out]
 go_wp2_with fail
 refine (XX.out _ (by omega) MF.out).mono ?_
 rintro e' w3 ⟨rfl, SH⟩
 have vA : Below (dH w).heap.size (dH w) w3 := F7.out.trans (SH.mono F7.out.size)
 have NX : ∀ o : Obj, Below (dH w).heap.size (dH w) (w3.alloc o) := fun o => vA.alloc vA.size o
 have jY := fun o => jx w (w3.alloc o) (NX o)
 have qo := fun o => gH w (w3.alloc o) (NX o)
 have Up := Lib.hid NX
 have acf := SH.size
 clear NX vA SH
 cases hv : cF bs p
 ·have EI := Lib.hid (HR.out false hv)
  rw [if_neg (by decide)] at EI
  rw [if_neg (by decide)]
  simp only [bC.zero, bC.cells]
  clear HR hv
  go_wp2_with fail
  obtain ⟨c0, c1, c2, c3, c4, vA⟩ := ja w (w3.alloc (.cells #[.int .i64 0, .string ⟨#[]⟩, .int .u64 0, .int .i64 0, .int .i64 0] 112)) (Up.out _) (.int .i64 0) (.string ⟨#[]⟩) (.int .u64 0) (.int .i64 0) (.int .i64 0)
  change bodyPost _ _ _ _ _ (xz (w3.alloc (.cells #[.int .i64 0, .string ⟨#[]⟩, .int .u64 0, .int .i64 0, .int .i64 0] 112)) w.heap.size (.int .i64 0) (.string ⟨#[]⟩) (.int .u64 0) (.int .i64 0) (.int .i64 0))
  generalize xz (w3.alloc (.cells #[.int .i64 0, .string ⟨#[]⟩, .int .u64 0, .int .i64 0, .int .i64 0] 112)) w.heap.size (.int .i64 0) (.string ⟨#[]⟩) (.int .u64 0) (.int .i64 0) (.int .i64 0) = W5 at *
  clear jY qo
  refine bodyPost_ret (v := .tuple #[.agg bC.zero.cells, .int .i64 50]) ?_ rfl ?_
  ·simp [results, Tryz.results128, bC.cells, bC.zero, c0, c1, c2, c3, c4, go_sem]
  ·rw [EI.out]
   exact ⟨rfl, vA⟩
 ·have EI := Lib.hid (HR.out true hv)
  rw [if_pos rfl] at EI
  rw [if_pos rfl]
  generalize jU bs p = nw at *
  obtain ⟨k1, t1, n1, a1, x1⟩ := nw
  simp only [bC.cells]
  clear HR hv
  go_wp2_with fail
  obtain ⟨c0, c1, c2, c3, c4, vA⟩ := ja w (w3.alloc (.cells #[.int .i64 (k1 : Int), .string ⟨t1.toArray⟩, .int .u64 (n1 : Int), .int .i64 (a1 : Int), .int .i64 (x1 : Int)] 112)) (Up.out _) (.int .i64 (k1 : Int)) (.string ⟨t1.toArray⟩) (.int .u64 (n1 : Int)) (.int .i64 (a1 : Int)) (.int .i64 (x1 : Int))
  change bodyPost _ _ _ _ _ (xz (w3.alloc (.cells #[.int .i64 (k1 : Int), .string ⟨t1.toArray⟩, .int .u64 (n1 : Int), .int .i64 (a1 : Int), .int .i64 (x1 : Int)] 112)) w.heap.size (.int .i64 (k1 : Int)) (.string ⟨t1.toArray⟩) (.int .u64 (n1 : Int)) (.int .i64 (a1 : Int)) (.int .i64 (x1 : Int)))
  generalize xz (w3.alloc (.cells #[.int .i64 (k1 : Int), .string ⟨t1.toArray⟩, .int .u64 (n1 : Int), .int .i64 (a1 : Int), .int .i64 (x1 : Int)] 112)) w.heap.size (.int .i64 (k1 : Int)) (.string ⟨t1.toArray⟩) (.int .u64 (n1 : Int)) (.int .i64 (a1 : Int)) (.int .i64 (x1 : Int)) = W5 at *
  clear jY qo
  refine bodyPost_ret (v := .tuple #[.agg (bC.mk k1 t1 n1 a1 x1).cells, .int .i64 0]) ?_ rfl ?_
  ·simp [results, Tryz.results128, bC.cells, c0, c1, c2, c3, c4, go_sem]
  ·rw [EI.out]
   exact ⟨rfl, vA⟩
def jy (l : List UInt8) (m : Nat) : Option (List UInt8) := (eg.drop m).find? fun s => iZ l s
theorem xA (l : List UInt8) (m : Nat) (hm : m < 29) : jy l m = if iZ l (eg.getD m []) = true then some (eg.getD m []) else jy l (m + 1) := by
 unfold jy
 have : eg.drop m = eg.getD m [] :: eg.drop (m + 1) := by
  have h : m < eg.length := hm
  rw [List.drop_eq_getElem_cons h]
  simp [List.getD, h]
 rw [this, List.find?_cons]
 split <;> simp_all
theorem Ii (m : Nat) (hm : m < 29) : 1 ≤ (eg.getD m []).length ∧ (eg.getD m []).length ≤ 2 := by
 have h : ∀ s ∈ eg, 1 ≤ s.length ∧ s.length ≤ 2 := by decide
 refine h _ ?_
 have hl : m < eg.length := hm
 have : eg.getD m [] = eg[m] := by simp [List.getD, hl]
 rw [this]
 exact List.getElem_mem hl
set_option maxRecDepth 100000 in
set_option maxHeartbeats 1000000 in
theorem Ij (g off cap : Nat) (bs : List UInt8) (k p : Nat) (w : World) (ht : pq w) (hg : g < w.heap.size) (ek : bs.length ≤ cap) (qb : cap ≤ 9223372036854775807) (hk : k ≤ bs.length)
 (zU : fA bs k = p) (hc : ∀ j u, (bv bs)[j]? = some u → w.cell? ⟨g, off + j, none⟩ = some u) (hp : p < bs.length) (hl : cY (bs.getD p 0) = false) (hd : bT (bs.getD p 0) = false) :
 Calls Tryz.prog 128 #[.slice (some ⟨g, off, none⟩) bs.length cap, .int .i64 (k : Int)] w (BY (gp bs p) w) := by
 have tF : bs[p]? = some (bs.getD p 0) := by rw [List.getD_eq_getElem?_getD, List.getElem?_eq_getElem hp]; rfl
 have P1 := kX tF
 have hr : ∀ b, jy (bs.drop p) 0 = b → gp bs p = match b with | some s => (⟨3, s, 0, p, p + s.length⟩, 0) | none => (bC.zero, 50) := by
  intro b hb
  unfold gp
  rw [if_neg (by omega), if_neg (by rw [hl]; decide), if_neg (by rw [hd]; decide)]
  have : EH (bs.drop p) = b := hb
  rw [this]
  all_goals (cases b <;> rfl)
 have SB : (bs.drop p).length = bs.length - p := List.length_drop
 have ue : ∀ j u, (bv (bs.drop p))[j]? = some u → (bv bs)[p + j]? = some u := by
  intro j u hu
  unfold bv at hu
  rw [List.map_drop, List.getElem?_drop] at hu
  exact hu
 have Z9 : (p : Int) < bs.length := by omega
 have XU : ((p : Int) == (bs.length : Int)) = false := beq_eq_false_iff_ne.2 (by omega)
 have Wf : p < cap := by omega
 have Rm : p ≤ bs.length := by rw [← zU]; exact kB bs k
 have gL := fun W hg hc => kZ g off cap bs k W hg ek (by omega) hk hc
 rw [zU] at gL
 have qn := Lib.hid gL
 have HC := Lib.hid hc
 clear gL hc zU
 have lU : (k : Int) ≤ bs.length := by omega
 have Un := Lib.hid P1
 have HR := Lib.hid hr
 have HL := Lib.hid hl
 have HD := Lib.hid hd
 have Rn := Lib.hid ue
 have HDL := Lib.hid SB
 clear P1 hr hl hd tF ue SB
 generalize bs.getD p 0 = c at *
 generalize bs.drop p = l at *
 have hi := Ia
 obtain ⟨sv, Ro⟩ : ∃ sv, BT eg = sv := ⟨_, rfl⟩
 rw [Ro] at hi
 have dG : (Tryz.prog.info? 189).map (·.size) = some sv.size := by rw [← Ro]; kernel_rfl
 have HS := Lib.hid dG
 have HI := Lib.hid hi
 have HSV := Lib.hid Ro
 clear dG hi Ro
 go_enter Tryz.func128, Tryz.ntmps128
 go_wp2_with fail
 refine (qn.out _ (by simp; omega) (fun j u hu => by rw [cD _ _ _ hg]; exact HC.out j u hu)).mono ?_
 rintro e w2 ⟨rfl, pe⟩
 have mP : Below (dH w).heap.size (dH w) w2 := pe
 clear pe
 have NW : Below w.heap.size w w2 := (iy w).trans (mP.mono (by rw [cL]; omega))
 have zH := mP.size
 rw [cL] at zH
 have eO : ∀ j u, (bv bs)[j]? = some u → w2.cell? ⟨g, off + j, none⟩ = some u := fun j u hu => by rw [NW.cell (p := ⟨g, off + j, none⟩) hg]; exact HC.out j u hu
 have MF := Lib.hid eO
 have F7 := Lib.hid mP
 clear eO
 have AK : w2.cell? ⟨g, off + p, none⟩ = some (.int .u8 (c.toNat : Int)) := MF.out p _ Un.out
 obtain ⟨tt, fr, aA⟩ := (ht.below NW).BU
 rw [HSV.out] at aA
 have HK := Lib.hid aA
 clear mP aA
 go_wp2_with fail
 refine (j6 c _ rfl _).mono ?_
 rintro e' w3 ⟨rfl, rfl⟩
 rw [HL.out]
 go_wp2_with fail
 refine (rj c _ rfl _).mono ?_
 rintro e' w3 ⟨rfl, rfl⟩
 rw [HD.out]
 clear AK
 go_wp2_with (refine wpList_load_row rfl 189 _ rfl 0 rfl _ sv _ _ HK.out Tryz.underlying189 rfl HS.out ?_)
 go_loopw [71] (fun i wr => ∃ m : Nat, i = .int .i64 m ∧ m ≤ 29 ∧ Hid (jy l 0 = jy l m) ∧ Below w2.heap.size w2 wr) (fun i _ => (29 - intOf i).toNat)
 case atStart => exact ⟨0, rfl, by omega, Lib.hid rfl, Below.refl _ _⟩
 case round =>
  obtain ⟨m, rfl, hm, HM, Rp⟩ := hrel
  have XY := Lib.hid (F7.out.trans (Rp.mono F7.out.size))
  have ach := Rp.size
  by_cases au : m < 29
  ·have Wa := HI.out m au
   have jX := xA l m au
   have hql := Ii m au
   generalize eg.getD m [] = q at *
   have F6 := Lib.hid jX
   clear jX
   have NY : (ByteArray.mk q.toArray).size = q.length := by simp [ByteArray.size]
   have hqd : (ByteArray.mk q.toArray).data.toList = q := by simp
   have kc := Lib.run_convert_string_bytes (P := Tryz.prog) wr 9 57 5 ⟨q.toArray⟩ Tryz.underlying9 Tryz.underlying57 Tryz.underlying5
   rw [NY] at kc
   have ho := nH wr wr.heap.size 5 ⟨q.toArray⟩ (Nat.le_refl _) (by rw [NY]; unfold maxLen; omega)
   rw [NY, hqd] at ho
   have hbq := iS wr wr.heap.size 5 ⟨q.toArray⟩ (Nat.le_refl _)
   have hcq := ho.cells rfl
   generalize grownCap wr q.length 0 5 = XZ at *
   generalize Lib.bytesWorld wr 5 ⟨q.toArray⟩ = wb at *
   have DJ := Rp.trans (hbq.mono Rp.size)
   have Wl := F7.out.trans (DJ.mono F7.out.size)
   have sG := m8 g (off + p) (bs.length - p) (cap - p) wr.heap.size 0 XZ l q wb HDL.out (by omega) (by omega) (by omega) (by omega)
    (fun j u hu => by
     have h1 := MF.out _ _ (Rn.out j u hu)
     rw [← DJ.cell (p := ⟨g, off + (p + j), none⟩) (by show g < _; omega)] at h1
     rw [show off + p + j = off + (p + j) by omega]
     exact h1) hcq
   have NZ := Lib.hid sG
   have jY := jx w wb Wl
   have qo := gH w wb Wl
   have HBB := Lib.hid Wl
   have X0 := Lib.hid DJ
   clear ho hcq NY hqd sG DJ Wl hbq
   cases hv : iZ l q
   ·rw [hv] at NZ F6
    have HN : Hid (jy l 0 = jy l (m + 1)) := by
     unfold Hid
     rw [HM.out, F6.out]
     rfl
    clear hv F6 jY qo
    go_wp2_with fail
    refine NZ.out.mono ?_
    rintro e' w3 ⟨rfl, rfl⟩
    go_wp2_with fail
    go_roundw
    case rel => exact ⟨m + 1, by go_num, by omega, HN, X0.out⟩
    case measure => simp [intOf]; omega
   ·rw [hv] at NZ F6
    have EI := Lib.hid (HR.out (some q) (by rw [HM.out, F6.out]; rfl))
    simp only at EI
    have hqn := (List.isPrefixOf_iff_prefix.1 hv).length_le
    rw [HDL.out] at hqn
    clear hv F6 HR
    have hpq : (p : Int) + (q.length : Int) ≤ 9223372036854775807 := by omega
    go_wp2_with fail
    refine NZ.out.mono ?_
    rintro e' w3 ⟨rfl, rfl⟩
    go_wp2_with fail
    obtain ⟨c0, c1, c2, c3, c4, vA⟩ := ja w wb HBB.out (.int .i64 3) (.string ⟨q.toArray⟩) (.int .u64 0) (.int .i64 (p : Int)) (.int .i64 ((p : Int) + (q.length : Int)))
    change bodyPost _ _ _ _ _ (xz wb w.heap.size (.int .i64 3) (.string ⟨q.toArray⟩) (.int .u64 0) (.int .i64 (p : Int)) (.int .i64 ((p : Int) + (q.length : Int))))
    generalize xz wb w.heap.size (.int .i64 3) (.string ⟨q.toArray⟩) (.int .u64 0) (.int .i64 (p : Int)) (.int .i64 ((p : Int) + (q.length : Int))) = W5 at *
    clear jY qo
    refine bodyPost_ret (v := .tuple #[.agg (bC.mk 3 q 0 p (p + q.length)).cells, .int .i64 0]) ?_ rfl ?_
    ·simp [results, Tryz.results128, bC.cells, c0, c1, c2, c3, c4, go_sem]
    ·rw [EI.out]
     exact ⟨rfl, vA⟩
  ·obtain rfl : m = 29 := by omega
   have EI := Lib.hid (HR.out none (by rw [HM.out]; rfl))
   simp only at EI
   clear HR
   have jY := jx w wr XY.out
   have qo := gH w wr XY.out
   go_wp2_with fail
   obtain ⟨c0, c1, c2, c3, c4, vA⟩ := ja w wr XY.out (.int .i64 0) (.string ⟨#[]⟩) (.int .u64 0) (.int .i64 0) (.int .i64 0)
   change bodyPost _ _ _ _ _ (xz wr w.heap.size (.int .i64 0) (.string ⟨#[]⟩) (.int .u64 0) (.int .i64 0) (.int .i64 0))
   generalize xz wr w.heap.size (.int .i64 0) (.string ⟨#[]⟩) (.int .u64 0) (.int .i64 0) (.int .i64 0) = W5 at *
   clear jY qo
   refine bodyPost_ret (v := .tuple #[.agg bC.zero.cells, .int .i64 50]) ?_ rfl ?_
   ·simp [results, Tryz.results128, bC.cells, bC.zero, c0, c1, c2, c3, c4, go_sem]
   ·rw [EI.out]
    exact ⟨rfl, vA⟩
theorem P2 (B : Nat) (v : Value) (bs : List UInt8) (i : Int) (w : World) (ht : pq w) (hv : PW B w v bs) (hB : B ≤ w.heap.size) : Calls Tryz.prog 128 #[v, .int .i64 i] w (BY (eU bs i) w) := by
 by_cases hi : i < 0 ∨ i > bs.length
 ·have hr : eU bs i = (bC.zero, 2) := by unfold eU; rw [if_pos hi]
  rw [hr]
  refine KW v bs.length i w ?_ (by omega)
  rcases hv with ⟨rfl, rfl⟩ | ⟨g, off, cap, rfl, _⟩
  ·exact ⟨_, _, rfl⟩
  ·exact ⟨_, _, rfl⟩
 ·obtain ⟨k, rfl⟩ : ∃ k : Nat, i = k := ⟨i.toNat, by omega⟩
  have hr : eU bs k = gp bs (fA bs k) := by
   unfold eU
   rw [if_neg hi]
   rfl
  rcases hv with ⟨rfl, rfl⟩ | ⟨g, off, cap, rfl, hg, ek, qb, hc⟩
  ·have : k = 0 := by simp at hi; omega
   subst this
   exact take_nil w
  ·rw [hr]
   have hk : k ≤ bs.length := by omega
   have hle := kB bs k
   have hm : cap ≤ 9223372036854775807 := qb
   by_cases hp : fA bs k = bs.length
   ·exact KX g off cap bs k _ w (by omega) ek hm hk rfl hc hp
   ·cases hl : cY (bs.getD (fA bs k) 0)
    ·cases hd : bT (bs.getD (fA bs k) 0)
     ·exact Ij g off cap bs k _ w ht (by omega) ek hm hk rfl hc (by omega) hl hd
     ·exact EJ g off cap bs k _ w (by omega) ek hm hk rfl hc (by omega) hl hd
    ·exact B7 g off cap bs k _ w ht (by omega) ek hm hk rfl hc (by omega) hl
end Go.Proofs.YtnfnbjjnjjdjdaaGreatDoor
