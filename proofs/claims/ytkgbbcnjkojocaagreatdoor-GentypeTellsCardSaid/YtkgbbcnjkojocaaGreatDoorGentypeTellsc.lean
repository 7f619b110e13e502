/- GentypeTells: whatever the schema and the place, the program and the document tell the same types and structs. Part 3 of 5 of the proof. -/
import Derived.Test.YtkgbbcnjkojocaaGreatDoorGentypeTellsb
import Derived.Laws.MakeOwn
import Derived.ProofKit
import Derived.Shelf.Sort.Plain
import Derived.Shelf.Slices.CompactS
import Derived.Shelf.Slices.In.SortNone
import Derived.Test.YtkgbbcnjkojocaaGreatDoorRows
import Derived.RangeFuncBox
import Derived.RangeFuncLeaves
import Derived.Shelf.Abstract
import Derived.WalkKit
import Derived.OwnWalkIn
import Derived.TacticsInMore
import Derived.LoopNIn
import Derived.LoopIn
import Derived.Maps.AppendAt
namespace Go.Ab
open Go.RowKit Go.Av
set_option linter.unusedVariables false
def isWr : Op → Bool
 | .store _ _ _ | .alloc _ | .box _ _ | .makeMap _ _ | .mapUpdate _ _ _ _ => true
 | .call c => match c.callee with
  | .value _ => true
  | .builtin .append => true
  | .builtin .delete => true
  | _ => false
 | _ => false
def isLd : Op → Bool
 | .load _ _ | .lookup _ _ _ _ => true
 | _ => false
def inA : List Nat → Nat → Bool
 | [], _ => false
 | a :: l, k => (a == k) || inA l k
theorem inA_iff : ∀ {l : List Nat} {k : Nat}, inA l k = true ↔ k ∈ l
 | [], k => by simp [inA]
 | a :: l, k => by rw [inA, Bool.or_eq_true, beq_iff_eq, inA_iff, List.mem_cons, eq_comm]
def wrs (A : List Nat) (ops : Array Oper) : List Nat := (List.range ops.size).filter fun k => isWr (opAt ops k).op && !inA A k
def zap (S : Mem) (Z : List (List V)) : Mem := ⟨S.boxes ++ Z, S.toks⟩
theorem zap_nil (S : Mem) : zap S [] = S := by simp [zap]
def zA (P : Program) (ops : Array Oper) (a : Nat) : List V :=
 match (opAt ops a).op with
 | .alloc t => (match tyOf P t with
  | some i => i.zero
  | none => [])
 | _ => [.kvs [] []]
def ptrA (ops : Array Oper) (a N : Nat) : V :=
 match (opAt ops a).op with
 | .alloc _ => .ptr N 0
 | _ => .mp N
def puts (ops : Array Oper) : Nat → List Nat → List V → List V
 | _, [], env => env
 | N, a :: l, env => puts ops (N + 1) l (setV env (opAt ops a).dst (ptrA ops a N))
def isAl (P : Program) : Op → Bool
 | .alloc t => (tyOf P t).isSome
 | .makeMap _ none => true
 | _ => false
def nodupB : List Nat → Bool
 | [] => true
 | a :: l => !inA l a && nodupB l
def okA (P : Program) (ops : Array Oper) (A : List Nat) (p : Nat) : Bool := nodupB A && A.all fun a => Nat.ble (a + 1) p && (match ops[a]? with
 | some o => o.guard.isNone && isAl P o.op && (o.after.all fun e => !Region.binds .any e) && (List.range p).all fun j => (j == a) || (match ops[j]? with
  | some oj => (oj.after.all fun e => !(Region.binds .any e && (e.on == a))) && (match o.dst with
   | some t => !(oj.dst == some t) && !(oj.looksAt ops).contains t
   | none => true)
  | none => true)
 | none => false)
def stab : List Nat → Nat → Prop
 | [], _ => False
 | x :: l, i => x = i ∨ stab l i
def Kept (L : List Nat) (S S' : Mem) : Prop := ∀ i, stab L i → ∀ vs, S.boxes[i]? = some vs → S'.boxes[i]? = some vs
def KeptL : List Nat → Mem → Mem → Prop
 | [], _, _ => True
 | x :: l, S, S' => S'.boxes[x]? = S.boxes[x]? ∧ KeptL l S S'
theorem KeptL.kept {S S' : Mem} : ∀ {L : List Nat}, KeptL L S S' → Kept L S S'
 | [], _, _, h => h.elim
 | _ :: _, h, i, .inl e => fun vs hv => by subst e; rw [h.1]; exact hv
 | _ :: _, h, i, .inr e => h.2.kept i e
theorem keptL_refl (S : Mem) : ∀ (L : List Nat), KeptL L S S
 | [] => trivial
 | _ :: l => ⟨rfl, keptL_refl S l⟩
def SomeL : List Nat → Mem → Prop
 | [], _ => True
 | x :: l, S => (S.boxes[x]?).isSome = true ∧ SomeL l S
theorem SomeL.get {S : Mem} : ∀ {L : List Nat}, SomeL L S → ∀ i, stab L i → ∃ vs, S.boxes[i]? = some vs
 | [], _, _, h => h.elim
 | _ :: _, h, i, .inl e => by subst e; exact Option.isSome_iff_exists.1 h.1
 | _ :: _, h, i, .inr e => h.2.get i e
theorem Kept.zap {L : List Nat} {S S' : Mem} (h : Kept L S S') (Z : List (List V)) : Kept L S (zap S' Z) := fun i hi vs hv => by
 have := h i hi vs hv
 show (S'.boxes ++ Z)[i]? = some vs
 rw [List.getElem?_append_left (List.getElem?_eq_some_iff.1 this).1]; exact this
section machine
variable {P : Program} {I : Inv} {ops : Array Oper} {A W : List Nat} {MM : Mem → Prop} {p : Nat}
def WX (P : Program) (I : Inv) (ops : Array Oper) (A : List Nat) (o : Oper) (env : List V) (S : Mem) (Q : V → Mem → Prop) : Prop := (Wants env ops o ∧ ∀ Z, (A = [] → Z = []) → WO P I o env (zap S Z) fun v T => ∃ S', T = zap S' Z ∧ Q v S') ∨ (Skips env ops o ∧ Q (.tup []) S)
theorem WX.congr {o : Oper} {env : List V} {d : Option Tmp} {x : V} {S : Mem} {Q : V → Mem → Prop} (h : ∀ t, d = some t → t ∉ o.looksAt ops) : WX P I ops A o (setV env d x) S Q ↔ WX P I ops A o env S Q := by
 cases d with
 | none => rfl
 | some t => exact or_congr (and_congr (wants_congr (h t rfl)) (forall_congr' fun Z => imp_congr Iff.rfl (WO.congr h))) (and_congr (skips_congr (h t rfl)) Iff.rfl)
def WCx (P : Program) (I : Inv) (ops : Array Oper) (A : List Nat) (o : Oper) (env : List V) (S : Mem) (K : V → Mem → Prop) : Prop := ∃ Q : V → Mem → Prop, (∃ v S', Q v S') ∧ (∀ v S', Q v S' → S'.boxes.length = S.boxes.length ∨ A = []) ∧ WX P I ops A o env S Q ∧ ∀ v S', Q v S' → K v S'
def anyX (P : Program) (I : Inv) (ops : Array Oper) (A W : List Nat) (p : Nat) (MM : Mem → Prop) (K : Array Bool → List V → Mem → Prop) : Nat → Array Bool → List V → Mem → Prop
 | 0, la, env, S => MM S ∧ (∀ j, j < p → la.getD j true = true) ∧ K la env S
 | n + 1, la, env, S => MM S ∧ ((∀ j, j < p → la.getD j true = true) → K la env S) ∧ ∀ i ∈ Region.ready .any ops la, i < p → ∃ o, ops[i]? = some o ∧
  ((W.contains i = true ∧ WCx P I ops A o env S fun v S' => anyX P I ops A W p MM K n (la.setIfInBounds i true) (setV env o.dst v) S') ∨
   (W.contains i = false ∧ ∃ v, QC P I ops MM o env v ∧ anyX P I ops A W p MM K n (la.setIfInBounds i true) (setV env o.dst v) S))
variable {K : Array Bool → List V → Mem → Prop}
theorem anyX.in : ∀ {n : Nat} {la : Array Bool} {env : List V} {S : Mem}, anyX P I ops A W p MM K n la env S → MM S
 | 0, _, _, _, h => h.1
 | _ + 1, _, _, _, h => h.1
theorem anyX_quiet {i : Nat} {oi : Oper} (hi : ops[i]? = some oi) (hip : i < p) (hq : W.contains i = false) {v : V} : ∀ (n : Nat) (listed : Array Bool) (env : List V) (S : Mem), Free ops listed i oi → i ∈ Region.ready .any ops listed → QC P I ops MM oi env v → anyX P I ops A W p MM K n (listed.setIfInBounds i true) (setV env oi.dst v) S → anyX P I ops A W p MM K (n + 1) listed env S := by
 intro n
 induction n with
 | zero =>
  intro listed env S _ hr hy H
  refine ⟨H.in, fun h => (by have := h i hip; rw [(mem_ready.1 hr).1] at this; cases this), fun j hj hjp => ?_⟩
  by_cases hji : j = i
  ·subst hji; exact ⟨oi, hi, .inr ⟨hq, v, hy, H⟩⟩
  ·have h1 := H.2.1 j hjp
   rw [(mem_ready.1 (ready_mono hj hji)).1] at h1
   cases h1
 | succ n ih =>
  intro listed env S hfree hr hy H
  refine ⟨H.in, fun h => (by have := h i hip; rw [(mem_ready.1 hr).1] at this; cases this), fun j hj hjp => ?_⟩
  by_cases hji : j = i
  ·subst hji; exact ⟨oi, hi, .inr ⟨hq, v, hy, H⟩⟩
  obtain ⟨oj, hoj, hH⟩ := H.2.2 j (ready_mono hj hji) hjp
  have hjun := (mem_ready.1 hj).1
  obtain ⟨a1, a2, a3⟩ := hfree.apart hr hj hji hoj
  have hready := ready_mono hr (Ne.symm hji)
  rcases hH with ⟨hwj, Q, hne, hln, hwo, hk⟩ | ⟨hwj, u, hqj, h1⟩
  ·refine ⟨oj, hoj, .inl ⟨hwj, Q, hne, hln, (WX.congr a1).1 hwo, fun u S' hQ => ?_⟩⟩
   refine ih (listed.setIfInBounds j true) (setV env oj.dst u) S' (hfree.next hjun) hready ((QC.congr a3).2 hy) ?_
   rw [Array.setIfInBounds_comm _ _ hji, ← setV_comm env v u a2]
   exact hk u S' hQ
  ·refine ⟨oj, hoj, .inr ⟨hwj, u, (QC.congr a1).1 hqj, ih (listed.setIfInBounds j true) (setV env oj.dst u) S (hfree.next hjun) hready ((QC.congr a3).2 hy) ?_⟩⟩
   rw [Array.setIfInBounds_comm _ _ hji, ← setV_comm env v u a2]
   exact h1
theorem anyX_write {U : List Nat} {i : Nat} {oi : Oper} (hi : ops[i]? = some oi) (hip : i < p) (hq : W.contains i = true) : ∀ (n : Nat) (listed : Array Bool) (env : List V) (S : Mem), MM S → Free ops listed i oi → Waits ops U listed i → (∀ j oj, ops[j]? = some oj → W.contains j = true → listed.getD j true = false → j = i ∨ U.contains j = true) → i ∈ Region.ready .any ops listed → WCx P I ops A oi env S (fun v S' => anyX P I ops A W p MM K n (listed.setIfInBounds i true) (setV env oi.dst v) S') → anyX P I ops A W p MM K (n + 1) listed env S := by
 intro n
 induction n with
 | zero =>
  intro listed env S hS _ _ _ hr hy
  refine ⟨hS, fun h => (by have := h i hip; rw [(mem_ready.1 hr).1] at this; cases this), fun j hj hjp => ?_⟩
  by_cases hji : j = i
  ·subst hji; exact ⟨oi, hi, .inl ⟨hq, hy⟩⟩
  ·obtain ⟨Q, ⟨v0, S0, h0⟩, _, _, hk⟩ := hy
   have h1 := (hk v0 S0 h0).2.1 j hjp
   rw [(mem_ready.1 (ready_mono hj hji)).1] at h1
   cases h1
 | succ n ih =>
  intro listed env S hS hfree hwait hWU hr hy
  refine ⟨hS, fun h => (by have := h i hip; rw [(mem_ready.1 hr).1] at this; cases this), fun j hj hjp => ?_⟩
  by_cases hji : j = i
  ·subst hji; exact ⟨oi, hi, .inl ⟨hq, hy⟩⟩
  obtain ⟨Q, ⟨v0, S0, h0⟩, hln, hwo, hk⟩ := hy
  obtain ⟨oj, hoj, hH⟩ := (hk v0 S0 h0).2.2 j (ready_mono hj hji) hjp
  obtain ⟨hjun, oj', hoj', hall⟩ := mem_ready.1 hj
  rw [hoj] at hoj'
  obtain rfl := Option.some.inj hoj'
  obtain ⟨a1, a2, a3⟩ := hfree.apart hr hj hji hoj
  have hready := ready_mono hr (Ne.symm hji)
  rcases hH with ⟨hwj, _⟩ | ⟨hwj, u, hqj, _⟩
  ·obtain ⟨e, he, hb, _, hun⟩ := hwait j oj hoj ((hWU j oj hoj hwj hjun).resolve_left hji) hji hjun
   have h1 := hall e he hb
   rcases Nat.lt_or_ge e.on listed.size with h' | h'
   ·simp [h'] at hun h1; rw [hun] at h1; cases h1
   ·simp [Array.getElem?_eq_none h'] at h1
  ·have hqj' := (QC.congr a1).1 hqj
   refine ⟨oj, hoj, .inr ⟨hwj, u, hqj', ih (listed.setIfInBounds j true) (setV env oj.dst u) S hS (hfree.next hjun) (hwait.next hall hoj hji hjun) (fun k ok hk hwk hun => ?_) hready ⟨Q, ⟨v0, S0, h0⟩, hln, (WX.congr a3).2 hwo, fun v S' hQ => ?_⟩⟩⟩
   ·by_cases hjk : j = k
    ·subst hjk
     rw [hwj] at hwk; cases hwk
    ·rw [getD_set_ne true hjk] at hun
     exact hWU k ok hk hwk hun
   ·obtain ⟨oj', hoj', hH'⟩ := (hk v S' hQ).2.2 j (ready_mono hj hji) hjp
    rw [hoj] at hoj'
    obtain rfl := Option.some.inj hoj'
    rcases hH' with ⟨hwj', _⟩ | ⟨_, u', hqj', h1⟩
    ·rw [hwj] at hwj'; cases hwj'
    ·have e2 : QC P I ops MM oj env u' := (QC.congr a1).1 hqj'
     have e3 := QC.one hS e2 ((QC.congr a1).1 hqj)
     subst e3
     rw [Array.setIfInBounds_comm _ _ hji, ← setV_comm env v u' a2]
     exact h1
def cntN (A : List Nat) : Nat → Nat → Nat
 | _, 0 => 0
 | k, q + 1 => cond (inA A k) (cntN A (k + 1) q) (cntN A (k + 1) q + 1)
def lexD (P : Program) (I : Inv) (ops : Array Oper) (A W : List Nat) (MM : Mem → Prop) (K : List V → Mem → Prop) : List Oper → Nat → List V → Mem → Prop
 | [], _, env, S => MM S ∧ K env S
 | o :: l, k, env, S => (inA A k = true → lexD P I ops A W MM K l (k + 1) env S) ∧ (inA A k = false → (W.contains k = true → MM S ∧ WCx P I ops A o env S fun v S' => lexD P I ops A W MM K l (k + 1) (setV env o.dst v) S') ∧
  (W.contains k = false → ∃ v, QC P I ops MM o env v ∧ lexD P I ops A W MM K l (k + 1) (setV env o.dst v) S))
theorem ready_sub {listed la : Array Bool} {i : Nat} (hsz : la.size = ops.size) (hsub : ∀ j, j < ops.size → listed.getD j true = true → la.getD j true = true) (hsz2 : listed.size = ops.size) (hi : i ∈ Region.ready .any ops listed) (hu : la.getD i true = false) : i ∈ Region.ready .any ops la := by
 obtain ⟨_, oi, hoi, hall⟩ := mem_ready.1 hi
 refine mem_ready.2 ⟨hu, oi, hoi, fun e he hb => ?_⟩
 have h1 := hall e he hb
 rcases Nat.lt_or_ge e.on ops.size with h' | h'
 ·have h2 := hsub e.on h' (by simp [hsz2, h'] at h1 ⊢; exact h1)
  simp [hsz, h'] at h2 ⊢
  exact h2
 ·simp [Array.getElem?_eq_none (show listed.size ≤ e.on by omega)] at h1
theorem desc_waitsA {k : Nat} {la : Array Bool} (hA0 : ∀ a o, inA A a = true → ops[a]? = some o → ∀ e ∈ o.after, Region.binds .any e = false) (hk : k < ops.size) (ha : inA A k = false) (hls : ∀ j, j < ops.size → la.getD j true = (decide (j < k) || inA A j)) : Waits ops (desc ops k) la k := by
 intro j oj hoj hj hjk _
 rcases desc_ok (List.contains_iff_mem.1 hj) with rfl | ⟨_, oj', hoj', e, he, hb, hon⟩
 ·exact absurd rfl hjk
 rw [hoj] at hoj'
 obtain rfl := Option.some.inj hoj'
 refine ⟨e, he, hb, List.contains_iff_mem.2 hon, ?_⟩
 rcases desc_ok hon with h | ⟨h, oe, hoe, e2, he2, hb2, _⟩
 ·rw [h, hls k hk, ha, Bool.or_false]; exact decide_eq_false (Nat.lt_irrefl k)
 ·rw [hls _ (Array.getElem?_eq_some_iff.1 hoe).1]
  have h1 : inA A e.on = false := by
   cases hx : inA A e.on with
   | false => rfl
   | true => rw [hA0 _ _ hx hoe e2 he2] at hb2; cases hb2
  rw [h1, Bool.or_false]
  exact decide_eq_false (by omega)
theorem anyX_lex (hA0 : ∀ a o, inA A a = true → ops[a]? = some o → ∀ e ∈ o.after, Region.binds .any e = false) (hps : p ≤ ops.size) (hW0 : (W.all fun k => Nat.ble (k + 1) ops.size) = true) (hWB : (W.all fun k => W.all fun j => Nat.ble j k || (desc ops k).contains j) = true) {KK : List V → Mem → Prop} (m : Nat)
 (hKK : ∀ la env S, la.size = ops.size → (∀ j, j < ops.size → la.getD j true = (decide (j < p) || inA A j)) → (∀ listed : Array Bool, listed.size = ops.size → (∀ j, j < ops.size → listed.getD j true = decide (j < p)) → Region.lexFrom .any ops m p listed = true) → KK env S → K la env S) : ∀ (l : List Oper) (k : Nat) (listed la : Array Bool) (env : List V) (S : Mem), (∀ j, j < l.length → l[j]? = ops[k + j]?) → k + l.length = p → listed.size = ops.size → la.size = ops.size → (∀ j, j < ops.size → listed.getD j true = decide (j < k)) → (∀ j, j < ops.size → la.getD j true = (decide (j < k) || inA A j)) →
 Region.lexFrom .any ops (l.length + m) k listed = true → lexD P I ops A W MM KK l k env S → anyX P I ops A W p MM K (cntN A k l.length) la env S
 | [], k, listed, la, env, S, _, hkp, hsl, hsz, hll, hls, hB, h => by
  have hkp : k = p := by simpa using hkp
  subst hkp
  refine ⟨h.1, fun j hj => ?_, hKK la env S hsz hls (fun li hli hlj => ?_) h.2⟩
  ·rw [hls j (by omega), decide_eq_true hj, Bool.true_or]
  ·have e : li = listed := by
    apply Array.ext
    ·omega
    ·intro j hj hj'
     have h1 := hlj j (by omega)
     have h2 := hll j (by omega)
     simp [hj, hj'] at h1 h2
     rw [h1, h2]
   rw [e]
   simpa using hB
 | o :: l, k, listed, la, env, S, hl, hkp, hsl, hsz, hll, hls, hB, h => by
  have h0 : ops[k]? = some o := by simpa using (hl 0 (by simp)).symm
  have hk := (Array.getElem?_eq_some_iff.1 h0).1
  have hkp2 : k < p := by simp at hkp; omega
  rw [show (o :: l).length + m = (l.length + m) + 1 by simp; omega] at hB
  simp only [Region.lexFrom, Bool.and_eq_true] at hB
  obtain ⟨⟨hr, hf⟩, hB'⟩ := hB
  have hl' : ∀ j, j < l.length → l[j]? = ops[k + 1 + j]? := fun j hj => by
   have := hl (j + 1) (by simp; omega)
   simpa [Nat.add_assoc, Nat.add_comm 1 j] using this
  have hnl : ∀ j, j < ops.size → (listed.setIfInBounds k true).getD j true = decide (j < k + 1) := by
   intro j hj
   by_cases hjk : k = j
   ·subst hjk
    have : decide (k < k + 1) = true := decide_eq_true (by omega)
    rw [this]
    by_cases hs : k < listed.size <;> simp [hs]
   ·rw [getD_set_ne true hjk, hll j hj]
    exact decide_eq_decide.2 (by omega)
  have hlen : (o :: l).length = l.length + 1 := rfl
  cases ha : inA A k with
  | true =>
   rw [hlen, cntN, ha, cond_true]
   refine anyX_lex hA0 hps hW0 hWB m hKK l (k + 1) _ la env S hl' (by simp at hkp; omega) (by simpa using hsl) hsz hnl (fun j hj => ?_) hB' (h.1 ha)
   rw [hls j hj]
   by_cases hjk : j = k
   ·subst hjk
    simp [ha]
   ·congr 1
    exact decide_eq_decide.2 (by omega)
  | false =>
   rw [hlen, cntN, ha, cond_false]
   have hnext : ∀ j, j < ops.size → (la.setIfInBounds k true).getD j true = (decide (j < k + 1) || inA A j) := by
    intro j hj
    by_cases hjk : k = j
    ·subst hjk
     have : decide (k < k + 1) = true := decide_eq_true (by omega)
     rw [this, Bool.true_or]
     by_cases hs : k < la.size <;> simp [hs]
    ·rw [getD_set_ne true hjk, hls j hj]
     congr 1
     exact decide_eq_decide.2 (by omega)
   have hlu : la.getD k true = false := by rw [hls k hk, ha, Bool.or_false]; exact decide_eq_false (Nat.lt_irrefl k)
   have hsub : ∀ j, j < ops.size → listed.getD j true = true → la.getD j true = true := fun j hj h1 => by rw [hls j hj, ← hll j hj, h1, Bool.true_or]
   have hra : k ∈ Region.ready .any ops la := ready_sub hsz hsub hsl (by simpa using hr) hlu
   have hfree0 : Free ops listed k o := Region.free_spec h0 hf
   have hfree : Free ops la k o := fun j oj hoj hjk hun hno => hfree0 j oj hoj hjk (by
    have hjs := (Array.getElem?_eq_some_iff.1 hoj).1
    rw [hls j hjs, Bool.or_eq_false_iff] at hun
    rw [hll j hjs]; exact hun.1) hno
   cases hw : W.contains k with
   | true =>
    obtain ⟨hS, Q, hne, hln, hwo, hK⟩ := (h.2 ha).1 hw
    refine anyX_write (U := desc ops k) h0 hkp2 hw _ la env S hS hfree (desc_waitsA hA0 hk ha hls) (fun j oj hoj hwj hun => ?_) hra ⟨Q, hne, hln, hwo, fun v S' hQ => anyX_lex hA0 hps hW0 hWB m hKK l (k + 1) _ _ _ _ hl' (by simp at hkp; omega) (by simpa using hsl) (by simpa using hsz) hnl hnext hB' (hK v S' hQ)⟩
    rw [hls j (Array.getElem?_eq_some_iff.1 hoj).1, Bool.or_eq_false_iff] at hun
    have hkj := of_decide_eq_false hun.1
    have h1 := List.all_eq_true.1 (List.all_eq_true.1 hWB k (List.contains_iff_mem.1 hw)) j (List.contains_iff_mem.1 hwj)
    rw [Bool.or_eq_true] at h1
    rcases h1 with h | h
    ·exact .inl (by have := Nat.le_of_ble_eq_true h; omega)
    ·exact .inr h
   | false =>
    obtain ⟨v, hv, hK⟩ := (h.2 ha).2 hw
    exact anyX_quiet h0 hkp2 hw _ la env S hfree hra hv (anyX_lex hA0 hps hW0 hWB m hKK l (k + 1) _ _ _ _ hl' (by simp at hkp; omega) (by simpa using hsl) (by simpa using hsz) hnl hnext hB' hK)
theorem puts_snoc (a : Nat) : ∀ (l : List Nat) (N : Nat) (env : List V), puts ops N (l ++ [a]) env = setV (puts ops N l env) (opAt ops a).dst (ptrA ops a (N + l.length))
 | [], N, env => rfl
 | b :: l, N, env => by
  rw [List.cons_append, puts, puts_snoc a l, puts, List.length_cons, Nat.add_assoc, Nat.add_comm 1]
theorem puts_set {d : Option Tmp} (v : V) : ∀ (l : List Nat) (N : Nat) (env : List V), (∀ a ∈ l, ∀ t, d = some t → (opAt ops a).dst ≠ some t) → puts ops N l (setV env d v) = setV (puts ops N l env) d v
 | [], _, _, _ => rfl
 | a :: l, N, env, h => by
  rw [puts, puts, ← puts_set v l (N + 1) _ fun b hb => h b (List.mem_cons_of_mem _ hb), setV_comm env v _ fun t ht => h a List.mem_cons_self t ht]
theorem QC_puts {o : Oper} {v : V} : ∀ (l : List Nat) (N : Nat) (env : List V), (∀ a ∈ l, ∀ t, (opAt ops a).dst = some t → t ∉ o.looksAt ops) → (QC P I ops MM o (puts ops N l env) v ↔ QC P I ops MM o env v)
 | [], _, _, _ => Iff.rfl
 | a :: l, N, env, h => by
  rw [puts, QC_puts l (N + 1) _ fun b hb => h b (List.mem_cons_of_mem _ hb)]
  exact QC.congr fun t ht => h a List.mem_cons_self t ht
theorem WX_puts {o : Oper} {S : Mem} {Q : V → Mem → Prop} : ∀ (l : List Nat) (N : Nat) (env : List V), (∀ a ∈ l, ∀ t, (opAt ops a).dst = some t → t ∉ o.looksAt ops) → (WX P I ops A o (puts ops N l env) S Q ↔ WX P I ops A o env S Q)
 | [], _, _, _ => Iff.rfl
 | a :: l, N, env, h => by
  rw [puts, WX_puts l (N + 1) _ fun b hb => h b (List.mem_cons_of_mem _ hb)]
  exact WX.congr fun t ht => h a List.mem_cons_self t ht
structure OkA (P : Program) (ops : Array Oper) (A : List Nat) (p : Nat) : Prop where
 lt : ∀ a ∈ A, a < p
 op : ∀ a ∈ A, ∃ o, ops[a]? = some o ∧ o.guard = none ∧ isAl P o.op = true ∧ (∀ e ∈ o.after, Region.binds .any e = false)
 el : ∀ a ∈ A, ∀ j oj, j < p → j ≠ a → ops[j]? = some oj → (∀ e ∈ oj.after, Region.binds .any e = true → e.on ≠ a) ∧ (∀ t, (opAt ops a).dst = some t → oj.dst ≠ some t ∧ t ∉ oj.looksAt ops)
 nd : A.Nodup
theorem nodupB_ok : ∀ {l : List Nat}, nodupB l = true → l.Nodup
 | [], _ => List.nodup_nil
 | a :: l, h => by
  rw [nodupB, Bool.and_eq_true] at h
  refine List.nodup_cons.2 ⟨fun hm => ?_, nodupB_ok h.2⟩
  rw [inA_iff.2 hm] at h
  cases h.1
theorem okA_ok (h : okA P ops A p = true) : OkA P ops A p := by
 rw [okA, Bool.and_eq_true, List.all_eq_true] at h
 obtain ⟨hn, h⟩ := h
 refine ⟨fun a ha => ?_, fun a ha => ?_, fun a ha j oj hj hja hoj => ?_, nodupB_ok hn⟩
 ·have := h a ha
  rw [Bool.and_eq_true] at this
  have := Nat.le_of_ble_eq_true this.1
  omega
 ·have h1 := h a ha
  rw [Bool.and_eq_true] at h1
  have h2 := h1.2
  split at h2
  ·rename_i o ho
   simp only [Bool.and_eq_true] at h2
   refine ⟨o, ho, by simpa using h2.1.1.1, h2.1.1.2, fun e he => ?_⟩
   have h3 := h2.1.2
   rw [Array.all_eq_true'] at h3
   simpa using h3 e he
  ·cases h2
 ·have h1 := h a ha
  rw [Bool.and_eq_true] at h1
  have h2 := h1.2
  split at h2
  ·rename_i o ho
   simp only [Bool.and_eq_true] at h2
   have h4 := List.all_eq_true.1 h2.2 j (List.mem_range.2 hj)
   rw [show (j == a) = false from beq_eq_false_iff_ne.2 hja, Bool.false_or, hoj] at h4
   simp only [Bool.and_eq_true] at h4
   have e : opAt ops a = o := by unfold opAt; rw [ho]
   refine ⟨fun e he hb hon => ?_, fun t ht => ?_⟩
   ·have h5 := h4.1
    rw [Array.all_eq_true'] at h5
    have h6 := h5 e he
    rw [hb, hon] at h6
    simp at h6
   ·rw [e] at ht
    have h5 := h4.2
    rw [ht] at h5
    simp only [Bool.and_eq_true, Bool.not_eq_true', beq_eq_false_iff_ne, List.contains_eq_mem] at h5
    exact ⟨h5.1, by simpa using h5.2⟩
  ·cases h2
theorem pure_op {P : Program} {ev : Operand → V} {op : Op} {S : Mem} {v : V} {S' : Mem} (hw : isWr op = false) (hl : isLd op = false) (h : op1 P ev S op = some (v, S')) : ∀ S2 : Mem, op1 P ev S2 op = some (v, S2) := by
 intro S2
 have st : ∀ {r : Option V}, still S r = some (v, S') → still S2 r = some (v, S2) := by
  intro r hr
  obtain ⟨u, hu, e⟩ := Option.map_eq_some_iff.1 hr
  obtain ⟨rfl, rfl⟩ := Prod.mk.inj e
  rw [hu]; rfl
 cases op <;> simp only [op1] at h ⊢ <;> try (cases h; done)
 all_goals try (cases hw; done)
 all_goals try (cases hl; done)
 case move x => cases h; rfl
 case assign x => cases h; rfl
 case pick c a b =>
  split at h
  ·cases h; rfl
  ·cases h
 case build t ps => exact st h
 case buildSlice t n ps => exact st h
 case nilCheck x =>
  split at h
  ·cases h; rfl
  ·cases h; rfl
  ·cases h
 case binOp o t x y u => exact st h
 case unOp o t x => exact st h
 case convert s d x => exact st h
 case makeFunc fn first caps =>
  cases fn <;> simp only at h ⊢ <;> cases h
  rfl
 case slice t x lo hi mx =>
  cases mx <;> simp only at h ⊢
  ·exact st h
  ·cases h
 case fieldAddr s x f => exact st h
 case field s x f => exact st h
 case indexAddr t x i => exact st h
 case index t x i => exact st h
 case extract x i =>
  split at h
  ·exact st h
  ·cases h
 case call c =>
  unfold opCall at h ⊢
  split at h
  ·exact st h
  ·rename_i hc _ _; simp [isWr, hc] at hw
  ·exact st h
  ·exact st h
  ·rename_i hc _ _; simp [isWr, hc] at hw
  ·cases h
def LexAt (ops : Array Oper) : Prop := ∀ k, k < ops.size → ∃ o, ops[k]? = some o ∧ ∀ la : Array Bool, la.size = ops.size → (∀ j, j < k → la.getD j true = true) → la.getD k true = false → k ∈ Region.ready .any ops la ∧ Free ops la k o
theorem lexFrom_at : ∀ (n k : Nat) (listed : Array Bool), listed.size = ops.size → (∀ j, j < ops.size → listed.getD j true = decide (j < k)) → Region.lexFrom .any ops n k listed = true → ∀ i, k ≤ i → i < k + n → i < ops.size →
 ∃ o, ops[i]? = some o ∧ ∀ la : Array Bool, la.size = ops.size → (∀ j, j < i → la.getD j true = true) → la.getD i true = false → i ∈ Region.ready .any ops la ∧ Free ops la i o
 | 0, k, _, _, _, _, i, h1, h2, _ => by omega
 | n + 1, k, listed, hsz, hl, hB, i, h1, h2, h3 => by
  simp only [Region.lexFrom, Bool.and_eq_true] at hB
  obtain ⟨⟨hr, hf⟩, hB'⟩ := hB
  by_cases hik : i = k
  ·subst hik
   have h0 : ops[i]? = some ops[i] := Array.getElem?_eq_getElem h3
   refine ⟨_, h0, fun la hla hlj hu => ⟨ready_sub hla (fun j hj h => hlj j (by rw [hl j hj] at h; exact of_decide_eq_true h)) hsz (by simpa using hr) hu, fun j oj hoj hji hun hno => ?_⟩⟩
   refine Region.free_spec h0 hf j oj hoj hji ?_ hno
   have hjs := (Array.getElem?_eq_some_iff.1 hoj).1
   rw [hl j hjs]
   refine decide_eq_false fun hlt => ?_
   rw [hlj j hlt] at hun
   cases hun
  ·refine lexFrom_at n (k + 1) _ (by simpa using hsz) (fun j hj => ?_) hB' i (by omega) (by omega) h3
   by_cases hjk : k = j
   ·subst hjk
    have : decide (k < k + 1) = true := decide_eq_true (by omega)
    rw [this]
    by_cases hs : k < listed.size <;> simp [hs]
   ·rw [getD_set_ne true hjk, hl j hj]
    exact decide_eq_decide.2 (by omega)
def strU (ops : Array Oper) (p i : Nat) : Bool := (List.range ops.size).any fun j => !Nat.ble (j + 1) p && !(desc ops i).contains j
def splitU (ops : Array Oper) (A : List Nat) (p : Nat) : Bool := (List.range p).all fun i => !strU ops p i || (!inA A i && (match ops[i]? with
 | some o => !isWr o.op && !isLd o.op
 | none => false))
def SplU (ops : Array Oper) (A : List Nat) (p : Nat) : Prop := ∀ i, i < p → (∀ j oj, p ≤ j → ops[j]? = some oj → j ∈ desc ops i) ∨ (inA A i = false ∧ ∃ o, ops[i]? = some o ∧ isWr o.op = false ∧ isLd o.op = false)
theorem splitU_ok (h : splitU ops A p = true) : SplU ops A p := by
 intro i hi
 have h1 := List.all_eq_true.1 h i (List.mem_range.2 hi)
 rw [Bool.or_eq_true] at h1
 rcases h1 with h1 | h1
 ·left
  intro j oj hj hoj
  have h2 : strU ops p i = false := by simpa using h1
  unfold strU at h2
  rw [List.any_eq_false] at h2
  have h3 := h2 j (List.mem_range.2 (Array.getElem?_eq_some_iff.1 hoj).1)
  have hb : Nat.ble (j + 1) p = false := by
   cases hb : Nat.ble (j + 1) p with
   | false => rfl
   | true => have := Nat.le_of_ble_eq_true hb; omega
  rw [hb] at h3
  simpa using h3
 ·right
  rw [Bool.and_eq_true] at h1
  refine ⟨by simpa using h1.1, ?_⟩
  have h2 := h1.2
  split at h2
  ·rename_i o ho
   rw [Bool.and_eq_true] at h2
   exact ⟨o, ho, by simpa using h2.1, by simpa using h2.2⟩
  ·cases h2
def Clos (ops : Array Oper) (listed : Array Bool) : Prop := ∀ (j : Nat) (o : Oper), ops[j]? = some o → listed.getD j true = true → ∀ e ∈ o.after, Region.binds .any e = true → listed.getD e.on true = true
theorem Clos.desc {listed : Array Bool} (h : Clos ops listed) {k : Nat} (hk : listed.getD k true = false) : ∀ j ∈ desc ops k, listed.getD j true = false := by
 have key : ∀ (l acc : List Nat), (∀ x ∈ acc, listed.getD x true = false) → ∀ x ∈ l.foldl (descS ops k) acc, listed.getD x true = false := by
  intro l
  induction l with
  | nil => exact fun _ h => h
  | cons q l ih =>
   intro acc ha
   refine ih _ fun x hx => ?_
   unfold descS at hx
   cases hb : Nat.ble q k with
   | true => rw [hb] at hx; exact ha x hx
   | false =>
    rw [hb] at hx
    simp only [cond_false] at hx
    split at hx
    ·rename_i o ho
     cases hany : (o.after.any fun e => Region.binds .any e && acc.contains e.on) with
     | false => rw [hany] at hx; exact ha x hx
     | true =>
      rw [hany] at hx
      rcases List.mem_cons.1 hx with rfl | hx
      ·rw [Array.any_eq_true] at hany
       obtain ⟨e, hes, h3⟩ := hany
       rw [Bool.and_eq_true] at h3
       have h4 := ha _ (List.contains_iff_mem.1 h3.2)
       cases hl : listed.getD x true with
       | false => rfl
       | true => rw [h x o ho hl _ (Array.getElem_mem hes) h3.1] at h4; cases h4
      ·exact ha x hx
    ·exact ha x hx
 exact key _ _ fun x hx => by rw [List.mem_singleton.1 hx]; exact hk
theorem Clos.set {listed : Array Bool} (h : Clos ops listed) {i : Nat} {oi : Oper} (hoi : ops[i]? = some oi) (hall : ∀ e ∈ oi.after, Region.binds .any e = true → listed.getD e.on true = true) : Clos ops (listed.setIfInBounds i true) := by
 have up : ∀ x, listed.getD x true = true → (listed.setIfInBounds i true).getD x true = true := fun x hx => by
  by_cases hix : i = x
  ·subst hix
   by_cases hs : i < listed.size <;> simp [hs]
  ·rw [getD_set_ne true hix]; exact hx
 intro j o ho hl e he hb
 by_cases hij : i = j
 ·subst hij
  rw [hoi] at ho
  obtain rfl := Option.some.inj ho
  exact up _ (hall e he hb)
 ·rw [getD_set_ne true hij] at hl
  exact up _ (h j o ho hl e he hb)
theorem anyC_mono {KK : List V → Mem → Prop} : ∀ (n : Nat) (la : Array Bool) (env : List V) (S : Mem), anyC P I ops W MM KK n la env S → anyC P I ops W MM KK (n + 1) la env S
 | 0, la, env, S, h => ⟨h.1, fun _ => h.2.2, fun i hi => by rw [h.2.1] at hi; cases hi⟩
 | n + 1, la, env, S, h => by
  refine ⟨h.1, h.2.1, fun i hi => ?_⟩
  obtain ⟨o, ho, ⟨hw, Q, hne, hq, hk⟩ | ⟨hw, v, hq, hk⟩⟩ := h.2.2 i hi
  ·exact ⟨o, ho, .inl ⟨hw, Q, hne, hq, fun v S' h' => anyC_mono n _ _ _ (hk v S' h')⟩⟩
  ·exact ⟨o, ho, .inr ⟨hw, v, hq, anyC_mono n _ _ _ hk⟩⟩
theorem anyC_le {KK : List V → Mem → Prop} {n m : Nat} (hnm : n ≤ m) {la : Array Bool} {env : List V} {S : Mem} (h : anyC P I ops W MM KK n la env S) : anyC P I ops W MM KK m la env S := by
 induction hnm with
 | refl => exact h
 | step _ ih => exact anyC_mono _ _ _ _ ih
theorem least_no (f : Nat → Bool) : ∀ q, (∀ j, j < q → f j = true) ∨ ∃ i, i < q ∧ f i = false ∧ ∀ j, j < i → f j = true
 | 0 => .inl fun j hj => absurd hj (Nat.not_lt_zero j)
 | q + 1 => by
  rcases least_no f q with h1 | ⟨i, h1, h2⟩
  ·cases hx : f q with
   | true =>
    refine .inl fun j hj => ?_
    rcases Nat.lt_succ_iff_lt_or_eq.1 hj with h3 | rfl
    ·exact h1 j h3
    ·exact hx
   | false => exact .inr ⟨q, by omega, hx, h1⟩
  ·exact .inr ⟨i, by omega, h2⟩
theorem anyX_pull {KK : List V → Mem → Prop} {rest : Nat} (hL : LexAt ops) (hA : OkA P ops A p) (hWw : ∀ i o, ops[i]? = some o → W.contains i = true → isWr o.op = true) (hps : p ≤ ops.size) {done : List Nat} (hd : ∀ a ∈ done, a ∈ A)
 (hK : ∀ la env S, la.size = ops.size → K la env S → ∃ M2, anyC P I ops W M2 KK rest la (puts ops S.boxes.length done env) (zap S (done.map (zA P ops)))) :
 ∀ (n : Nat) (la : Array Bool) (env : List V) (S : Mem), la.size = ops.size → anyX P I ops A W p MM K n la env S → (∀ i, i < p → la.getD i true = false → inA A i = false ∧ ∃ o, ops[i]? = some o ∧ isWr o.op = false ∧ isLd o.op = false) →
  ∃ M2, anyC P I ops W M2 KK (rest + n) la (puts ops S.boxes.length done env) (zap S (done.map (zA P ops)))
 | 0, la, env, S, hsz, h, _ => hK la env S hsz h.2.2
 | n + 1, la, env, S, hsz, h, hu => by
  by_cases hall : ∀ j, j < p → la.getD j true = true
  ·obtain ⟨M2, hM2⟩ := hK la env S hsz (h.2.1 hall)
   exact ⟨M2, anyC_le (by omega) hM2⟩
  ·obtain ⟨i, hip, hiu, hmin⟩ : ∃ i, i < p ∧ la.getD i true = false ∧ ∀ j, j < i → la.getD j true = true := by
    rcases least_no (fun j => la.getD j true) p with h1 | h1
    ·exact absurd h1 hall
    ·exact h1
   obtain ⟨hia, o, ho, hw, hl⟩ := hu i hip hiu
   obtain ⟨o', ho', hlex⟩ := hL i (by omega)
   rw [ho] at ho'
   obtain rfl := Option.some.inj ho'
   obtain ⟨hr, hfree⟩ := hlex la hsz hmin hiu
   obtain ⟨o', ho', hcase⟩ := h.2.2 i hr hip
   rw [ho] at ho'
   obtain rfl := Option.some.inj ho'
   rcases hcase with ⟨hwi, _⟩ | ⟨hwi, v, hq, hn⟩
   ·rw [hWw i o ho hwi] at hw; cases hw
   ·have hia2 : ∀ x ∈ done, i ≠ x := fun x hx e => by
     have := inA_iff.2 (hd x hx)
     rw [← e, hia] at this
     cases this
    have hc1 : ∀ x ∈ done, ∀ t, (opAt ops x).dst = some t → t ∉ o.looksAt ops := fun x hx t ht => ((hA.el x (hd x hx) i o hip (hia2 x hx) ho).2 t ht).2
    have hc2 : ∀ x ∈ done, ∀ t, o.dst = some t → (opAt ops x).dst ≠ some t := fun x hx t ht h2 => ((hA.el x (hd x hx) i o hip (hia2 x hx) ho).2 t h2).1 ht
    obtain ⟨M2, ih⟩ := anyX_pull hL hA hWw hps hd hK n (la.setIfInBounds i true) (setV env o.dst v) S (by simpa using hsz) hn (fun j hj hun => by
     have hji : i ≠ j := fun e => by
      subst e
      have : (la.setIfInBounds i true).getD i true = true := by by_cases hs : i < la.size <;> simp [hs]
      rw [this] at hun; cases hun
     rw [getD_set_ne true hji] at hun
     exact hu j hj hun)
    rw [puts_set v done _ _ hc2] at ih
    have hqt : QC P I ops M2 o env v := by
     rcases hq with ⟨hg, hq⟩ | hq
     ·exact .inl ⟨hg, fun S2 _ => pure_op hw hl (hq S h.1) S2⟩
     ·exact .inr hq
    exact ⟨M2, anyC_quiet ho hwi (rest + n) la _ _ hfree hr ((QC_puts done S.boxes.length env hc1).2 hqt) ih⟩
theorem anyX_run {z : Nat × Nat} {fn : FuncId} {k : List Item} {R : V → Mem → Prop} {rest : Nat} (hs : SplU ops A p) (hL : LexAt ops) (hWw : ∀ i o, ops[i]? = some o → W.contains i = true → isWr o.op = true) (hps : p ≤ ops.size) (hA : OkA P ops A p) (hMM : ∀ S Z, MM S → MM (zap S Z))
 (hK : ∀ la env S, la.size = ops.size → K la env S → ∀ done : List Nat, done.Perm A → ∃ M2, anyC P I ops W M2 (fun env S => ARun P I z fn k env S R) rest la (puts ops S.boxes.length done env) (zap S (done.map (zA P ops)))) :
 ∀ (q n m : Nat), q = n + m → ∀ (t : Nat) (la listed : Array Bool) (env : List V) (S : Mem) (done pend : List Nat), anyX P I ops A W p MM K n la env S → (done ++ pend).Perm A → pend.length = m → listed.size = ops.size → la.size = ops.size → (∀ j, j < ops.size → la.getD j true = (listed.getD j true || inA pend j)) → (∀ j ∈ pend, listed.getD j true = false) → Clos ops listed → (∀ j ∈ done, listed.getD j true = true) →
  ARun P I z fn (.inRegion ops (Region.linearise.go .any ops (q + rest) t listed []) :: k) (puts ops S.boxes.length done env) (zap S (done.map (zA P ops))) R
 | q, n, m, hq, t, la, listed, env, S, done, pend, h, hp, hm, hsl, hsz, hrel, hun, hcl, hdl => by
  have hpA : ∀ a ∈ pend, a ∈ A := fun a ha => hp.mem_iff.1 (List.mem_append_right _ ha)
  have hdA : ∀ a ∈ done, a ∈ A := fun a ha => hp.mem_iff.1 (List.mem_append_left _ ha)
  have hpr : ∀ a ∈ pend, a ∈ Region.ready .any ops listed := fun a ha => by
   obtain ⟨o, ho, _, _, hno⟩ := hA.op a (hpA a ha)
   exact mem_ready.2 ⟨hun a ha, o, ho, fun e he hb => by rw [hno e he] at hb; cases hb⟩
  have heq : pend = [] → la = listed := fun h0 => by
   apply Array.ext
   ·omega
   ·intro j hj hj'
    have h1 := hrel j (by omega)
    rw [h0] at h1
    simp [hj, hj', inA] at h1
    exact h1
  -- is there something ahead of p that the rest waits for?
  by_cases hess : ∃ i, i < p ∧ listed.getD i true = false ∧ ∀ j oj, p ≤ j → ops[j]? = some oj → j ∈ desc ops i
  case neg =>
   have hstr : ∀ i, i < p → listed.getD i true = false → inA A i = false ∧ ∃ o, ops[i]? = some o ∧ isWr o.op = false ∧ isLd o.op = false := fun i hi hu => by
    rcases hs i hi with h1 | h1
    ·exact absurd ⟨i, hi, hu, h1⟩ hess
    ·exact h1
   have h0 : pend = [] := List.eq_nil_iff_forall_not_mem.2 fun a ha => by
    have := (hstr a (hA.lt a (hpA a ha)) (hun a ha)).1
    rw [inA_iff.2 (hpA a ha)] at this
    cases this
   have hla := heq h0
   subst hla
   have hdp : done.Perm A := by rw [h0, List.append_nil] at hp; exact hp
   obtain ⟨M2, hC⟩ := anyX_pull hL hA hWw hps hdA (fun la env S hs hk => hK la env S hs hk done hdp) n la env S hsz h hstr
   exact anyC_run _ t la _ _ (anyC_le (by omega) hC)
  case pos =>
  obtain ⟨i0, hi0, hu0, hw0⟩ := hess
  obtain ⟨q, rfl⟩ : ∃ q', q = q' + 1 := by
   cases q with
   | succ q => exact ⟨q, rfl⟩
   | zero =>
    exfalso
    obtain rfl : n = 0 := by omega
    have hm0 : pend = [] := List.eq_nil_of_length_eq_zero (by omega)
    have := h.2.1 i0 hi0
    rw [heq hm0, hu0] at this
    cases this
  have hne : Region.ready .any ops listed ≠ [] := by
   by_cases hm0 : pend = []
   ·-- the first that is left is ready
    rcases least_no (fun j => listed.getD j true) (i0 + 1) with h1 | ⟨i, hi, h1, h2⟩
    ·rw [h1 i0 (by omega)] at hu0; cases hu0
    ·obtain ⟨o, _, hlex⟩ := hL i (by omega)
     exact List.ne_nil_of_mem (hlex listed hsl h2 h1).1
   ·obtain ⟨a, l, hpc⟩ := List.exists_cons_of_ne_nil hm0
    exact List.ne_nil_of_mem (hpr a (by rw [hpc]; exact List.mem_cons_self))
  rw [show q + 1 + rest = (q + rest) + 1 by omega]
  simp only [Region.linearise.go]
  change ARun P I z fn (.inRegion ops (match (Region.ready .any ops listed)[t % (Region.ready .any ops listed).length]? with
   | some i => Region.linearise.go .any ops (q + rest) (t / (Region.ready .any ops listed).length) (listed.setIfInBounds i true) [i]
   | none => [].reverse) :: k) (puts ops S.boxes.length done env) (zap S (done.map (zA P ops))) R
  cases hi : (Region.ready .any ops listed)[t % (Region.ready .any ops listed).length]? with
  | none =>
   exfalso
   cases hr : Region.ready .any ops listed with
   | nil => exact hne hr
   | cons x xs =>
    rw [hr] at hi
    have hlt : t % (x :: xs).length < (x :: xs).length := Nat.mod_lt _ (by simp)
    simp at hi
    simp at hlt
    omega
  | some i =>
   simp only []
   rw [linearise_go_acc, List.reverse_singleton, List.singleton_append]
   have hir := List.mem_of_getElem? hi
   obtain ⟨hiu, oi, hoi, hall⟩ := mem_ready.1 hir
   have hisz := (Array.getElem?_eq_some_iff.1 hoi).1
   have hlst : ∀ e ∈ oi.after, Region.binds .any e = true → listed.getD e.on true = true := fun e he hb => by
    have h1 := hall e he hb
    rcases Nat.lt_or_ge e.on listed.size with h2 | h2
    ·simp [h2] at h1 ⊢; exact h1
    ·simp [Array.getElem?_eq_none h2] at h1
   have hcl2 := hcl.set hoi hlst
   have hip2 : i < p := by
    rcases Nat.lt_or_ge i p with h' | h'
    ·exact h'
    ·rcases desc_ok (hw0 i oi h' hoi) with h1 | ⟨_, oj, hoj, e, he, hb, hon⟩
     ·omega
     ·rw [hoi] at hoj
      obtain rfl := Option.some.inj hoj
      have h2 := hcl.desc hu0 _ hon
      rw [hlst e he hb] at h2
      cases h2
   by_cases hip : i ∈ pend
   ·-- a new box
    obtain ⟨o, ho, hg, hal, _⟩ := hA.op i (hpA i hip)
    have eo : opAt ops i = o := by unfold opAt; rw [ho]
    have hstep : op1 P (evalV I (puts ops S.boxes.length done env)) (zap S (done.map (zA P ops))) o.op = some (ptrA ops i (S.boxes.length + done.length), zap S ((done ++ [i]).map (zA P ops))) := by
     have e1 : (zap S (done.map (zA P ops))).boxes.length = S.boxes.length + done.length := by simp [zap]
     cases hop : o.op with
     | alloc t =>
      rw [hop] at hal
      obtain ⟨ti, hti⟩ := Option.isSome_iff_exists.1 hal
      simp only [op1, hti, e1]
      simp only [ptrA, zA, eo, hop, hti, List.map_append, List.map_cons, List.map_nil, zap, List.append_assoc]
     | makeMap t r =>
      rw [hop] at hal
      cases r with
      | none =>
       simp only [op1, e1]
       simp only [ptrA, zA, eo, hop, List.map_append, List.map_cons, List.map_nil, zap, List.append_assoc]
      | some r => cases hal
     | _ => rw [hop] at hal; cases hal
    refine ARun.op ho (.inl hg) hstep ?_
    rw [← eo, ← puts_snoc]
    refine anyX_run hs hL hWw hps hA hMM hK q n (m - 1) (by have := List.length_pos_of_mem hip; omega) _ la _ env S (done ++ [i]) (pend.erase i) h ?_ ?_ (by simpa using hsl) hsz (fun j hj => ?_) (fun j hj => ?_) hcl2 (fun j hj => ?_)
    ·rw [List.append_assoc, List.singleton_append]
     exact ((List.perm_cons_erase hip).symm.append_left done).trans hp
    ·rw [List.length_erase_of_mem hip, hm]
    ·rw [hrel j hj]
     by_cases hji : i = j
     ·subst hji
      have h1 : (listed.setIfInBounds i true).getD i true = true := by by_cases hs : i < listed.size <;> simp [hs]
      rw [h1, Bool.true_or, inA_iff.2 hip, Bool.or_true]
     ·rw [getD_set_ne true hji]
      congr 1
      rw [Bool.eq_iff_iff, inA_iff, inA_iff, List.mem_erase_of_ne (fun e => hji e.symm)]
    ·have hnd : pend.Nodup := (List.nodup_append.1 (hp.nodup_iff.2 hA.nd)).2.1
     have hji : i ≠ j := fun e => by subst e; exact (List.Nodup.not_mem_erase hnd) hj
     rw [getD_set_ne true hji]
     exact hun j (List.mem_of_mem_erase hj)
    ·by_cases hji : i = j
     ·subst hji
      by_cases hs : i < listed.size <;> simp [hs]
     ·rw [getD_set_ne true hji]
      rcases List.mem_append.1 hj with hj | hj
      ·exact hdl j hj
      ·exact absurd (List.mem_singleton.1 hj).symm hji
   ·have hlu : la.getD i true = false := by
     rw [hrel i hisz, hiu, Bool.false_or]
     cases hx : inA pend i with
     | false => rfl
     | true => exact absurd (inA_iff.1 hx) hip
    have hra := ready_sub hsz (fun j hj h1 => by rw [hrel j hj, h1, Bool.true_or]) hsl hir hlu
    obtain ⟨n', rfl⟩ : ∃ n', n = n' + 1 := by
     cases n with
     | succ n' => exact ⟨n', rfl⟩
     | zero =>
      have := h.2.1 i hip2
      rw [hlu] at this
      cases this
    obtain ⟨hS, _, hall2⟩ := h
    obtain ⟨o, ho, hcase⟩ := hall2 i hra hip2
    have hia : ∀ x ∈ done, i ≠ x := fun x hx e => by
     have := hdl x hx
     rw [← e, hiu] at this
     cases this
    have hc1 : ∀ x ∈ done, ∀ t, (opAt ops x).dst = some t → t ∉ o.looksAt ops := fun x hx t ht => ((hA.el x (hdA x hx) i o hip2 (hia x hx) ho).2 t ht).2
    have hc2 : ∀ x ∈ done, ∀ t, o.dst = some t → (opAt ops x).dst ≠ some t := fun x hx t ht h2 => ((hA.el x (hdA x hx) i o hip2 (hia x hx) ho).2 t h2).1 ht
    have hd0 : A = [] → done = [] := fun h0 => List.eq_nil_iff_forall_not_mem.2 fun x hx => by have := hdA x hx; rw [h0] at this; cases this
    have next : ∀ v S', (S'.boxes.length = S.boxes.length ∨ A = []) → anyX P I ops A W p MM K n' (la.setIfInBounds i true) (setV env o.dst v) S' → ∀ t, ARun P I z fn (.inRegion ops (Region.linearise.go .any ops (q + rest) t (listed.setIfInBounds i true) []) :: k) (setV (puts ops S.boxes.length done env) o.dst v) (zap S' (done.map (zA P ops))) R := by
     intro v S' hln hn t
     have e : setV (puts ops S.boxes.length done env) o.dst v = puts ops S'.boxes.length done (setV env o.dst v) := by
      rcases hln with hln | h0
      ·rw [hln, puts_set v done _ _ hc2]
      ·rw [hd0 h0]; rfl
     rw [e]
     refine anyX_run hs hL hWw hps hA hMM hK q n' m (by omega) t _ _ _ S' done pend hn hp hm (by simpa using hsl) (by simpa using hsz) (fun j hj => ?_) (fun j hj => ?_) hcl2 (fun j hj => ?_)
     ·by_cases hji : i = j
      ·subst hji
       have h1 : (listed.setIfInBounds i true).getD i true = true := by by_cases hs : i < listed.size <;> simp [hs]
       have h2 : (la.setIfInBounds i true).getD i true = true := by by_cases hs : i < la.size <;> simp [hs]
       rw [h1, h2, Bool.true_or]
      ·rw [getD_set_ne true hji, getD_set_ne true hji]
       exact hrel j hj
     ·rw [getD_set_ne true (fun e => hip (by rw [e]; exact hj))]
      exact hun j hj
     ·rw [getD_set_ne true (hia j hj)]
      exact hdl j hj
    rcases hcase with ⟨_, Q, _, hln, hwx, hk⟩ | ⟨_, v, hy, hn⟩
    ·have hwx' := (WX_puts (A := A) done S.boxes.length env hc1).2 hwx
     refine WG.step (Q := fun v T => ∃ S', T = zap S' (done.map (zA P ops)) ∧ Q v S') ho ?_ ?_
     ·rcases hwx' with ⟨hg, hz⟩ | ⟨hg, hq⟩
      ·exact .inl ⟨hg, hz _ fun h0 => by rw [hd0 h0]; rfl⟩
      ·exact .inr ⟨hg, S, rfl, hq⟩
     ·rintro v T ⟨S', rfl, hQ⟩
      exact next v S' (hln v S' hQ) (hk v S' hQ) _
    ·exact QC.step ho (hMM S _ hS) ((QC_puts done S.boxes.length env hc1).2 hy) (next v S (.inl rfl) hn _)
termination_by q => q
end machine
def ldOk (L : List Nat) : V → Prop
 | .ptr i _ => stab L i
 | .mp i => stab L i
 | _ => True
abbrev XCont := List V → Mem → Prop
def bindX (A L : List Nat) (S0 : Mem) (next : XCont) (r : Option (V × Mem)) (d : Option Tmp) (env : List V) : Prop :=
 match r with
 | some (v, S') => A = [] ∧ KeptL L S0 S' ∧ next (setV env d v) S'
 | none => False
def pureX (next : XCont) (r : Option (V × Mem)) (d : Option Tmp) (env : List V) (S : Mem) : Prop :=
 match r with
 | some (v, _) => next (setV env d v) S
 | none => False
def loadX (L : List Nat) (a : V) (next : XCont) (r : Option (V × Mem)) (d : Option Tmp) (env : List V) (S : Mem) : Prop :=
 match r with
 | some (v, _) => ldOk L a ∧ next (setV env d v) S
 | none => False
def callX (P : Program) (I : Inv) (A L : List Nat) (S0 : Mem) (next : XCont) (f : V) (args : List V) (d : Option Tmp) (env : List V) (S : Mem) : Prop :=
 match f with
 | .func g first caps => ∃ Q : V → Mem → Prop, (∃ v S', Q v S') ∧ (∀ v S', Q v S' → S'.boxes.length = S.boxes.length ∨ A = []) ∧ (∀ Z, (A = [] → Z = []) → AFn P I g (first ++ args ++ caps) (zap S Z) fun v T => ∃ S', T = zap S' Z ∧ Q v S') ∧ ∀ v S', Q v S' → KeptL L S0 S' ∧ next (setV env d v) S'
 | _ => False
def relX (P : Program) (I : Inv) (A L : List Nat) (S0 : Mem) (next : XCont) (op : Op) (d : Option Tmp) (env : List V) (S : Mem) : Prop :=
 ∃ Q : V → Mem → Prop, (∃ v S', Q v S') ∧ A = [] ∧ (∀ o : Oper, o.op = op → OpR P I o env S Q) ∧ ∀ v S', Q v S' → KeptL L S0 S' ∧ next (setV env d v) S'
def doX (P : Program) (I : Inv) (A L : List Nat) (S0 : Mem) (next : XCont) (op : Op) (d : Option Tmp) (env : List V) (S : Mem) : Prop :=
 match op with
 | .load t a => loadX L (evalV I env a) next (op1 P (evalV I env) S (.load t a)) d env S
 | .lookup t m k ok => loadX L (evalV I env m) next (op1 P (evalV I env) S (.lookup t m k ok)) d env S
 | .store t a x => bindX A L S0 next (op1 P (evalV I env) S (.store t a x)) d env
 | .alloc t => bindX A L S0 next (op1 P (evalV I env) S (.alloc t)) d env
 | .box t x => bindX A L S0 next (op1 P (evalV I env) S (.box t x)) d env
 | .makeMap t r => bindX A L S0 next (op1 P (evalV I env) S (.makeMap t r)) d env
 | .mapUpdate t m k x => bindX A L S0 next (op1 P (evalV I env) S (.mapUpdate t m k x)) d env
 | .call c => match c.callee with
  | .value f => callX P I A L S0 next (evalV I env f) (c.args.toList.map (evalV I env)) d env S
  | .builtin .append => relX P I A L S0 next (.call c) d env S ∨ bindX A L S0 next (opCall P (evalV I env) S c) d env
  | .builtin .delete => bindX A L S0 next (opCall P (evalV I env) S c) d env
  | _ => pureX next (opCall P (evalV I env) S c) d env S
 | op => pureX next (op1 P (evalV I env) S op) d env S
def gX (P : Program) (I : Inv) (A L : List Nat) (S0 : Mem) (next : XCont) (g : V) (op : Op) (d : Option Tmp) (env : List V) (S : Mem) : Prop :=
 match g with
 | .d (.bool true) => doX P I A L S0 next op d env S
 | .d (.bool false) => next (setV env d (.tup [])) S
 | _ => False
def orX (b : Bool) (p q : Prop) : Prop :=
 match b with
 | true => p
 | false => q
def lexX (P : Program) (I : Inv) (ops : Array Oper) (A L : List Nat) (S0 : Mem) (K : XCont) : Nat → List Oper → XCont
 | _, [] => fun env S => KeptL L S0 S ∧ K env S
 | k, o :: l => fun env S => orX (inA A k) (lexX P I ops A L S0 K (k + 1) l env S) (gX P I A L S0 (lexX P I ops A L S0 K (k + 1) l) (gdo env ops o) o.op o.dst env S)
def permK : List Nat → (List Nat → Prop) → Prop
 | [], f => f []
 | [a], f => f [a]
 | [a, b], f => f [a, b] ∧ f [b, a]
 | l, f => ∀ d : List Nat, d.Perm l → f d
theorem permK_ok : ∀ {l : List Nat} {f : List Nat → Prop}, permK l f → ∀ d : List Nat, d.Perm l → f d
 | [], _, h, d, hd => by rw [List.perm_nil.1 hd]; exact h
 | [a], _, h, d, hd => by rw [List.perm_singleton.1 hd]; exact h
 | [a, b], _, h, d, hd => by
  match d, hd with
  | [], hd => exact absurd hd.length_eq (by simp)
  | [_], hd => exact absurd hd.length_eq (by simp)
  | _ :: _ :: _ :: _, hd => exact absurd hd.length_eq (by simp)
  | [x, y], hd =>
   have hx : x ∈ [a, b] := hd.mem_iff.1 List.mem_cons_self
   rcases List.mem_cons.1 hx with rfl | hx
   ·have := List.perm_singleton.1 ((List.perm_cons _).1 hd)
    rw [this]; exact h.1
   ·obtain rfl := List.mem_singleton.1 hx
    have h2 : [x, y].Perm [x, a] := hd.trans (List.Perm.swap _ _ _)
    have := List.perm_singleton.1 ((List.perm_cons _).1 h2)
    rw [this]; exact h.2
 | _ :: _ :: _ :: _, _, h, d, hd => h d hd
section
variable {P : Program} {I : Inv} {ops : Array Oper} {A L : List Nat} {S0 : Mem} {K : XCont}
theorem gdo_yes {env : List V} {o : Oper} (h : gdo env ops o = .d (.bool true)) : Wants env ops o := by
 unfold gdo at h
 split at h
 ·rename_i hg; exact .inl hg
 ·rename_i j want hg
  unfold gdoV at h
  split at h
  ·rename_i t ht
   simp only [V.d.injEq, D.bool.injEq, beq_iff_eq] at h
   subst h
   exact .inr ⟨j, t, hg, ht⟩
  ·cases h
  ·cases h
theorem gdo_no {env : List V} {o : Oper} (h : gdo env ops o = .d (.bool false)) : Skips env ops o := by
 unfold gdo at h
 split at h
 ·cases h
 ·rename_i j want hg
  unfold gdoV at h
  split at h
  ·rename_i t ht
   simp only [V.d.injEq, D.bool.injEq] at h
   exact ⟨j, want, hg, .inl ⟨t, ht, h⟩⟩
  ·rename_i ht; exact ⟨j, want, hg, .inr ht⟩
  ·cases h
theorem load_op {ev : Operand → V} {t : TypeId} {a : Operand} {S S2 : Mem} {v : V} {S' : Mem} (hl : ldOk L (ev a)) (hk : ∀ i, stab L i → S2.boxes[i]? = S.boxes[i]?) (h : op1 P ev S (.load t a) = some (v, S')) : op1 P ev S2 (.load t a) = some (v, S2) := by
 simp only [op1] at h ⊢
 obtain ⟨u, hu, e⟩ := Option.map_eq_some_iff.1 h
 obtain ⟨rfl, rfl⟩ := Prod.mk.inj e
 have : opLoad P S2 t (ev a) = opLoad P S t (ev a) := by
  unfold opLoad
  split
  ·rename_i i k hp
   rw [hp] at hl
   rw [hk i hl]
  ·rfl
  ·rfl
 rw [this, hu]; rfl
theorem look_op {ev : Operand → V} {t : TypeId} {m k : Operand} {ok : Bool} {S S2 : Mem} {v : V} {S' : Mem} (hl : ldOk L (ev m)) (hk : ∀ i, stab L i → S2.boxes[i]? = S.boxes[i]?) (h : op1 P ev S (.lookup t m k ok) = some (v, S')) : op1 P ev S2 (.lookup t m k ok) = some (v, S2) := by
 simp only [op1] at h ⊢
 obtain ⟨u, hu, e⟩ := Option.map_eq_some_iff.1 h
 obtain ⟨rfl, rfl⟩ := Prod.mk.inj e
 have : opLookup P S2 t (ev m) (ev k) ok = opLookup P S t (ev m) (ev k) ok := by
  unfold opLookup
  split
  ·rename_i z i s hz hp _
   rw [hp] at hl
   rw [hk i hl]
  ·rfl
 rw [this, hu]; rfl
theorem doX_ok {next : XCont} {o : Oper} {env : List V} {S : Mem} (hL : SomeL L S0) (hS : Kept L S0 S) (h : doX P I A L S0 next o.op o.dst env S) :
 (isWr o.op = true ∧ ∃ Q : V → Mem → Prop, (∃ v S', Q v S') ∧ (∀ v S', Q v S' → S'.boxes.length = S.boxes.length ∨ A = []) ∧ (∀ Z, (A = [] → Z = []) → WO P I o env (zap S Z) fun v T => ∃ S', T = zap S' Z ∧ Q v S') ∧ ∀ v S', Q v S' → KeptL L S0 S' ∧ next (setV env o.dst v) S') ∨ (isWr o.op = false ∧ ∃ v, (∀ S', Kept L S0 S' → op1 P (evalV I env) S' o.op = some (v, S')) ∧ next (setV env o.dst v) S) := by
 have bind : ∀ r, op1 P (evalV I env) S o.op = r → isWr o.op = true → bindX A L S0 next r o.dst env → (isWr o.op = true ∧ ∃ Q : V → Mem → Prop, (∃ v S', Q v S') ∧ (∀ v S', Q v S' → S'.boxes.length = S.boxes.length ∨ A = []) ∧ (∀ Z, (A = [] → Z = []) → WO P I o env (zap S Z) fun v T => ∃ S', T = zap S' Z ∧ Q v S') ∧ ∀ v S', Q v S' → KeptL L S0 S' ∧ next (setV env o.dst v) S') := by
  intro r hr hw hb
  cases r with
  | none => exact hb.elim
  | some p =>
   obtain ⟨v, S'⟩ := p
   obtain ⟨h0, h1, h2⟩ := hb
   refine ⟨hw, fun u T => u = v ∧ T = S', ⟨v, S', rfl, rfl⟩, fun _ _ _ => .inr h0, fun Z hZ => ?_, fun u T ⟨e1, e2⟩ => by subst e1 e2; exact ⟨h1, h2⟩⟩
   rw [hZ h0, zap_nil]
   exact .inl ⟨v, S', hr, S', (zap_nil S').symm, rfl, rfl⟩
 have pur : ∀ r, op1 P (evalV I env) S o.op = r → isWr o.op = false → isLd o.op = false → pureX next r o.dst env S → (isWr o.op = false ∧ ∃ v, (∀ S', Kept L S0 S' → op1 P (evalV I env) S' o.op = some (v, S')) ∧ next (setV env o.dst v) S) := by
  intro r hr hw hl hb
  cases r with
  | none => exact hb.elim
  | some p =>
   obtain ⟨v, S'⟩ := p
   exact ⟨hw, v, fun S2 _ => pure_op hw hl hr S2, hb⟩
 have kk : ∀ S', Kept L S0 S' → ∀ i, stab L i → S'.boxes[i]? = S.boxes[i]? := fun S' h' i hi => by
  obtain ⟨vs, hv⟩ := hL.get i hi
  rw [h' i hi vs hv, hS i hi vs hv]
 generalize ho : o.op = op at *
 cases op with
 | load t a =>
  right
  obtain ⟨r, hr⟩ : ∃ r, op1 P (evalV I env) S (.load t a) = r := ⟨_, rfl⟩
  have h : loadX L (evalV I env a) next (op1 P (evalV I env) S (.load t a)) o.dst env S := h
  rw [hr] at h
  cases r with
  | none => exact h.elim
  | some p => exact ⟨rfl, p.1, fun S2 h2 => load_op h.1 (kk S2 h2) hr, h.2⟩
 | lookup t m k ok =>
  right
  obtain ⟨r, hr⟩ : ∃ r, op1 P (evalV I env) S (.lookup t m k ok) = r := ⟨_, rfl⟩
  have h : loadX L (evalV I env m) next (op1 P (evalV I env) S (.lookup t m k ok)) o.dst env S := h
  rw [hr] at h
  cases r with
  | none => exact h.elim
  | some p => exact ⟨rfl, p.1, fun S2 h2 => look_op h.1 (kk S2 h2) hr, h.2⟩
 | store t a x => exact .inl (bind _ rfl rfl h)
 | alloc t => exact .inl (bind _ rfl rfl h)
 | box t x => exact .inl (bind _ rfl rfl h)
 | makeMap t r => exact .inl (bind _ rfl rfl h)
 | mapUpdate t m k x => exact .inl (bind _ rfl rfl h)
 | call c =>
  unfold doX at h
  dsimp only at h
  split at h
  ·rename_i f hf
   left
   unfold callX at h
   split at h
   ·rename_i g first caps hg
    obtain ⟨Q, h1, h0, h2, h3⟩ := h
    exact ⟨by simp [isWr, hf], Q, h1, h0, fun Z hZ => .inr (.inl ⟨c, f, g, first, caps, ho, hf, hg, h2 Z hZ⟩), h3⟩
   ·exact h.elim
  ·rename_i hf
   rcases h with ⟨Q, h1, h2, h3, h4⟩ | h
   ·refine .inl ⟨by simp [isWr, hf], Q, h1, fun _ _ _ => .inr h2, fun Z hZ => ?_, h4⟩
    rw [hZ h2, zap_nil]
    refine .inr (.inr fun c w ev r1 r2 r3 => ?_)
    obtain ⟨x, w', c', v, S', k1, k2, k3⟩ := h3 o ho c w ev r1 r2 r3
    exact ⟨x, w', c', v, S', k1, ⟨S', (zap_nil S').symm, k2⟩, k3⟩
   ·exact .inl (bind _ rfl (by simp [isWr, hf]) h)
  ·rename_i hf; exact .inl (bind _ rfl (by simp [isWr, hf]) h)
  ·rename_i h1 h2 h3
   refine .inr (pur _ rfl ?_ rfl h)
   unfold isWr
   dsimp only
   split
   ·rename_i f hf; exact (h1 f hf).elim
   ·rename_i hf; exact (h2 hf).elim
   ·rename_i hf; exact (h3 hf).elim
   ·rfl
 | _ => exact .inr (pur _ rfl rfl rfl h)
theorem wrs_at {k : Nat} {o : Oper} (h : ops[k]? = some o) (ha : inA A k = false) : (wrs A ops).contains k = isWr o.op := by
 have hk := (Array.getElem?_eq_some_iff.1 h).1
 rw [Bool.eq_iff_iff, List.contains_iff_mem]
 unfold wrs
 rw [List.mem_filter, List.mem_range]
 have : opAt ops k = o := by unfold opAt; rw [h]
 rw [this, ha, Bool.not_false, Bool.and_true]
 exact ⟨fun h => h.2, fun h => ⟨hk, h⟩⟩
theorem lexX_ok (hL : SomeL L S0) {K' : XCont} (hK : ∀ env S, K env S → K' env S) : ∀ (l : List Oper) (k : Nat) (env : List V) (S : Mem), (∀ j o, l[j]? = some o → ops[k + j]? = some o) → Kept L S0 S → lexX P I ops A L S0 K k l env S → lexD P I ops A (wrs A ops) (Kept L S0) K' l k env S
 | [], _, _, _, _, hS, h => ⟨hS, hK _ _ h.2⟩
 | o :: l, k, env, S, hl, hS, h => by
  have h0 : ops[k]? = some o := hl 0 o rfl
  have hl' : ∀ j o, l[j]? = some o → ops[k + 1 + j]? = some o := fun j o h => by
   have := hl (j + 1) o (by simpa using h)
   rwa [Nat.add_assoc, Nat.add_comm 1 j]
  have h : orX (inA A k) (lexX P I ops A L S0 K (k + 1) l env S) (gX P I A L S0 (lexX P I ops A L S0 K (k + 1) l) (gdo env ops o) o.op o.dst env S) := h
  cases ha : inA A k with
  | true =>
   rw [ha] at h
   exact ⟨fun _ => lexX_ok hL hK l (k + 1) _ S hl' hS h, fun hc => by rw [ha] at hc; cases hc⟩
  | false =>
   rw [ha] at h
   refine ⟨fun hc => (by rw [ha] at hc; cases hc), fun _ => ?_⟩
   have hw := wrs_at h0 ha
   have h : gX P I A L S0 (lexX P I ops A L S0 K (k + 1) l) (gdo env ops o) o.op o.dst env S := h
   unfold gX at h
   split at h
   ·rename_i hg
    rcases doX_ok hL hS h with ⟨hw1, Q, h1, h4, h2, h3⟩ | ⟨hw1, v, h2, h3⟩
    ·refine ⟨fun _ => ⟨hS, Q, h1, h4, .inl ⟨gdo_yes hg, h2⟩, fun v S' hQ => ?_⟩, fun hc => absurd (hc.symm.trans (hw.trans hw1)) (by decide)⟩
     obtain ⟨q1, q2⟩ := h3 v S' hQ
     exact lexX_ok hL hK l (k + 1) _ S' hl' q1.kept q2
    ·exact ⟨fun hc => absurd (hc.symm.trans (hw.trans hw1)) (by decide), fun _ => ⟨v, .inl ⟨gdo_yes hg, h2⟩, lexX_ok hL hK l (k + 1) _ S hl' hS h3⟩⟩
   ·rename_i hg
    have hn := lexX_ok hL hK l (k + 1) _ S hl' hS h
    exact ⟨fun _ => ⟨hS, fun u T => u = .tup [] ∧ T = S, ⟨_, _, rfl, rfl⟩, (fun u T hq => .inl (by rw [hq.2])), .inr ⟨gdo_no hg, rfl, rfl⟩, fun u T ⟨e1, e2⟩ => by subst e1 e2; exact hn⟩, fun _ => ⟨_, .inr ⟨gdo_no hg, rfl⟩, hn⟩⟩
   ·exact h.elim
theorem lexD_C {W : List Nat} {MM : Mem → Prop} {K : XCont} : ∀ (l : List Oper) (k : Nat) (env : List V) (S : Mem), lexD P I ops [] W MM K l k env S → lexC P I ops W MM K l k env S
 | [], _, _, _, h => h
 | o :: l, k, env, S, h => by
  refine ⟨fun hw => ?_, fun hw => ?_⟩
  ·obtain ⟨hS, Q, h1, _, h2, h3⟩ := (h.2 rfl).1 hw
   refine ⟨hS, Q, h1, ?_, fun v S' hQ => lexD_C l _ _ _ (h3 v S' hQ)⟩
   rcases h2 with ⟨a, b⟩ | h2
   ·refine .inl ⟨a, ?_⟩
    have := b [] fun _ => rfl
    rw [zap_nil] at this
    rcases this with ⟨v, T, h5, S', rfl, h6⟩ | ⟨q, f, g, first, caps, h5, h6, h7, h8⟩ | h5
    ·rw [zap_nil] at h5
     exact .inl ⟨v, S', h5, h6⟩
    ·exact .inr (.inl ⟨q, f, g, first, caps, h5, h6, h7, h8.mono fun v T ⟨S', e, hq⟩ => by rw [zap_nil] at e; subst e; exact hq⟩)
    ·refine .inr (.inr fun c w ev q1 q2 q3 => ?_)
     obtain ⟨x, w', c', v, T, r1, ⟨S', e, hq⟩, r2⟩ := h5 c w ev q1 q2 q3
     rw [zap_nil] at e
     subst e
     exact ⟨x, w', c', v, T, r1, hq, r2⟩
   ·exact .inr h2
  ·obtain ⟨v, h2, h3⟩ := (h.2 rfl).2 hw
   exact ⟨v, h2, lexD_C l _ _ _ h3⟩
theorem lexC_W {W W' : List Nat} {MM : Mem → Prop} {K : XCont} : ∀ (l : List Oper) (k : Nat) (env : List V) (S : Mem), (∀ j, k ≤ j → W.contains j = W'.contains j) → lexC P I ops W MM K l k env S → lexC P I ops W' MM K l k env S
 | [], _, _, _, _, h => h
 | o :: l, k, env, S, hW, h => by
  refine ⟨fun hw => ?_, fun hw => ?_⟩
  ·obtain ⟨hS, Q, h1, h2, h3⟩ := h.1 ((hW k (Nat.le_refl _)).trans hw)
   exact ⟨hS, Q, h1, h2, fun v S' hQ => lexC_W l _ _ _ (fun j hj => hW j (by omega)) (h3 v S' hQ)⟩
  ·obtain ⟨v, h2, h3⟩ := h.2 ((hW k (Nat.le_refl _)).trans hw)
   exact ⟨v, h2, lexC_W l _ _ _ (fun j hj => hW j (by omega)) h3⟩
end
theorem ARun.drawX {P : Program} {I : Inv} {z : Nat × Nat} {fn : FuncId} {k : List Item} {R : V → Mem → Prop} {ops : Array Oper} {id : Nat} {env : List V} {S : Mem} (p : Nat) (A L : List Nat) (hm : P.follows .mixedOrders = true) (hB : Region.lexB .any ops = true) (hW : waitsD ops (wrs A ops) = true) (hs : splitU ops A p = true) (hp : Nat.ble p ops.size = true) (hA : okA P ops A p = true) (hc : Nat.beq (cntN A 0 p + A.length) p = true)
 (h : SomeL L S ∧ lexX P I ops A L S (fun env S1 => permK A fun done => lexX P I ops [] [] (zap S1 (done.map (zA P ops))) (fun env S => ARun P I z fn k env S R) p (ops.toList.drop p) (puts ops S1.boxes.length done env) (zap S1 (done.map (zA P ops)))) 0 (ops.toList.take p) env S) : ARun P I z fn (.code (.region id ops true) :: k) env S R := by
 obtain ⟨hL, h⟩ := h
 intro b a c w c0 w0 h1 h2 h3 h4 h5 h6 hI cs
 have hp := Nat.le_of_ble_eq_true hp
 have hOk := okA_ok hA
 have hc := Nat.eq_of_beq_eq_true hc
 have hd : Below w.heap.size w { w with drawn := w.drawn + 1 } := ⟨rfl, rfl, rfl, Nat.le_refl _, fun _ _ => rfl⟩
 obtain ⟨r1, r2⟩ := h5.under hd
 simp only [Region.lexB, Bool.and_eq_true] at hB
 simp only [waitsD, Bool.and_eq_true] at hW
 have hlt : (ops.toList.take p).length = p := by simp; omega
 have hld : (ops.toList.drop p).length = ops.size - p := by simp
 have hB2 : Region.lexFrom .any ops ((ops.toList.take p).length + (ops.size - p)) 0 (Array.replicate ops.size false) = true := by
  rw [hlt, Nat.add_sub_cancel' hp]
  simpa using hB.2
 have hge : ∀ j, p ≤ j → inA A j = false := fun j hj => by
  cases hx : inA A j with
  | false => rfl
  | true => have := hOk.lt j (inA_iff.1 hx); omega
 let la : Array Bool := ((List.range ops.size).map (inA A)).toArray
 have hla : la.size = ops.size := by simp [la]
 have hlj : ∀ j, j < ops.size → la.getD j true = inA A j := fun j hj => by simp [la, hj]
 have hD := lexX_ok (ops := ops) hL (K' := fun env S1 => permK A fun done => lexC P I ops (wrs A ops) (fun _ => True) (fun env S => ARun P I z fn k env S R) (ops.toList.drop p) p (puts ops S1.boxes.length done env) (zap S1 (done.map (zA P ops)))) (fun env S1 hq => by
  have step : ∀ done : List Nat, lexX P I ops [] [] (zap S1 (done.map (zA P ops))) (fun env S => ARun P I z fn k env S R) p (ops.toList.drop p) (puts ops S1.boxes.length done env) (zap S1 (done.map (zA P ops))) → lexC P I ops (wrs A ops) (fun _ => True) (fun env S => ARun P I z fn k env S R) (ops.toList.drop p) p (puts ops S1.boxes.length done env) (zap S1 (done.map (zA P ops))) := by
   intro done hq
   have e : (fun _ : Mem => True) = Kept [] (zap S1 (done.map (zA P ops))) := by
    funext S'
    exact propext ⟨fun _ _ h => h.elim, fun _ => trivial⟩
   rw [e]
   have := lexD_C _ p _ _ (lexX_ok (A := []) (L := []) trivial (fun _ _ h => h) _ p _ _ (fun j o hj => by simpa using hj) (fun _ h => h.elim) hq)
   refine lexC_W _ p _ _ (fun j hj => ?_) this
   rw [Bool.eq_iff_iff, List.contains_iff_mem, List.contains_iff_mem]
   unfold wrs
   rw [List.mem_filter, List.mem_filter, hge j hj]
   rfl
  revert hq
  unfold permK
  split
  ·exact step _
  ·exact step _
  ·exact fun hq => ⟨step _ hq.1, step _ hq.2⟩
  ·exact fun hq d hd => step d (hq d hd)) _ 0 env S (fun j o hj => by
   rw [List.getElem?_take] at hj
   split at hj
   ·simpa using hj
   ·cases hj) (fun _ _ _ hv => hv) h
 have hany := anyX_lex (P := P) (I := I) (MM := Kept L S) (W := wrs A ops) (A := A)
  (K := fun la env S1 => (∀ j, j < ops.size → la.getD j true = decide (j < p)) ∧ Region.lexFrom .any ops (ops.size - p) p la = true ∧ permK A fun done => lexC P I ops (wrs A ops) (fun _ => True) (fun env S => ARun P I z fn k env S R) (ops.toList.drop p) p (puts ops S1.boxes.length done env) (zap S1 (done.map (zA P ops))))
  (fun x o hx ho => by
   obtain ⟨o', ho', _, _, hno⟩ := hOk.op x (inA_iff.1 hx)
   rw [ho] at ho'
   obtain rfl := Option.some.inj ho'
   exact hno) hp hW.1 hW.2 (ops.size - p) (fun la env S1 hsz hlj hlx hq => by
   have hj : ∀ j, j < ops.size → la.getD j true = decide (j < p) := fun j hj => by
    rw [hlj j hj]
    by_cases hjp : j < p
    ·rw [decide_eq_true hjp, Bool.true_or]
    ·rw [hge j (by omega), Bool.or_false]
   exact ⟨hj, hlx la hsz hj, hq⟩) (ops.toList.take p) 0 (Array.replicate ops.size false) la env S (fun j hj => by rw [hlt] at hj; simp [hj]) (by rw [hlt, Nat.zero_add]) (by simp) hla (fun j hj => by simp [hj]) (fun j hj => by rw [hlj j hj]; simp) hB2 hD
 have hun : ∀ j ∈ A, (Array.replicate ops.size false).getD j true = false := fun j hj => by
  have h8 : j < ops.size := by have := hOk.lt j hj; omega
  simp [h8]
 have hlex : LexAt ops := fun q hq => lexFrom_at ops.size 0 (Array.replicate ops.size false) (by simp) (fun j hj => by simp [hj]) (by simpa using hB.2) q (Nat.zero_le _) (by omega) hq
 have hWw : ∀ i o, ops[i]? = some o → (wrs A ops).contains i = true → isWr o.op = true := fun i o ho hw => by
  have hw := List.contains_iff_mem.1 hw
  unfold wrs at hw
  rw [List.mem_filter] at hw
  have e : opAt ops i = o := by unfold opAt; rw [ho]
  rw [e, Bool.and_eq_true] at hw
  exact hw.2.1
 have hrun := anyX_run (fn := fn) (k := k) (R := R) (z := z) (MM := Kept L S) (rest := ops.size - p) (splitU_ok hs) hlex hWw hp hOk (fun S' Z h => Kept.zap h Z) (fun la env S1 hsz hq done hdp => by
  have hC := permK_ok hq.2.2 done hdp
  have h7 := anyC_lex hW.1 hW.2 (ops.toList.drop p) p la _ _ (fun j => by simp) hq.1 (by rw [hld]; exact hq.2.1) hC
  rw [hld] at h7
  exact ⟨_, h7⟩) _ _ _ rfl (w.tape w.drawn (.order b.fn id)) la (Array.replicate ops.size false) env S [] A hany (List.Perm.refl _) rfl (by simp) hla (fun j hj => by rw [hlj j hj]; simp [hj]) hun (fun j o ho hl => by
  have h8 := (Array.getElem?_eq_some_iff.1 ho).1
  simp [h8] at hl) (fun j hj => absurd hj List.not_mem_nil)
 rw [hlt, hc, Nat.add_sub_cancel' hp] at hrun
 rw [show (List.map (zA P ops) ([] : List Nat)) = [] from rfl, zap_nil] at hrun
 obtain ⟨e, w', fr, g1, g2, g3⟩ := hrun b a c _ c0 w0 h1 h2 h3 (h4.ext r2) r1 (h6.trans r2) ⟨r2.I.trans hI.1, hI.2⟩ cs
 refine ⟨e, w', fr, g1, .of_steps (.one ?_) g2, g3⟩
 have := step_region_draw (P := P) (b := b) (a := a) (k := k) (cs := cs) (w := w) (ops := ops) (id := id)
 rw [this]
 simp only [Region.schedule, hm, Bool.true_or, if_true, Region.linearise]
theorem drXA {P : Program} {I : Inv} {z : Nat × Nat} {fn : FuncId} {k : List Item} {R : V → Mem → Prop} {ops : Array Oper} {id : Nat} {env : List V} {S : Mem} (p : Nat) (A L : List Nat) (h : SomeL L S ∧ lexX P I ops A L S (fun env S1 => permK A fun done => lexX P I ops [] [] (zap S1 (done.map (zA P ops))) (fun env S => ARun P I z fn k env S R) p (ops.toList.drop p) (puts ops S1.boxes.length done env) (zap S1 (done.map (zA P ops)))) 0 (ops.toList.take p) env S) (hm : P.follows .mixedOrders = true := by kernel_rfl) (hB : Region.lexB .any ops = true := by kernel_rfl) (hW : waitsD ops (wrs A ops) = true := by kernel_rfl) (hs : splitU ops A p = true := by kernel_rfl) (hp : Nat.ble p ops.size = true := by kernel_rfl) (hA : okA P ops A p = true := by kernel_rfl) (hc : Nat.beq (cntN A 0 p + A.length) p = true := by kernel_rfl) : ARun P I z fn (.code (.region id ops true) :: k) env S R := ARun.drawX p A L hm hB hW hs hp hA hc h
section
variable {P : Program} {I : Inv} {ops : Array Oper} {A L : List Nat} {S0 : Mem} {next : XCont} {d : Option Tmp} {env : List V} {S : Mem}
theorem lexX_nil (K : XCont) (k : Nat) : lexX P I ops A L S0 K k [] env S = (KeptL L S0 S ∧ K env S) := by cases k <;> rfl
theorem lexX_cons (K : XCont) (k : Nat) (o : Oper) (l : List Oper) : lexX P I ops A L S0 K k (o :: l) env S = orX (inA A k) (lexX P I ops A L S0 K (k + 1) l env S) (gX P I A L S0 (lexX P I ops A L S0 K (k + 1) l) (gdo env ops o) o.op o.dst env S) := rfl
theorem lexX_in (K : XCont) (k : Nat) (o : Oper) (l : List Oper) (h : inA A k = true) : lexX P I ops A L S0 K k (o :: l) env S = lexX P I ops A L S0 K (k + 1) l env S := by rw [lexX_cons, h]; rfl
theorem lexX_go (K : XCont) (k : Nat) (o : Oper) (l : List Oper) (h : inA A k = false) : lexX P I ops A L S0 K k (o :: l) env S = gX P I A L S0 (lexX P I ops A L S0 K (k + 1) l) (gdo env ops o) o.op o.dst env S := by rw [lexX_cons, h]; rfl
theorem orX_t (p q : Prop) : orX true p q = p := rfl
theorem inA_nil (k : Nat) : inA [] k = false := rfl
theorem inA_cons (a k : Nat) (l : List Nat) : inA (a :: l) k = ((a == k) || inA l k) := rfl
theorem puts_nil (N : Nat) : puts ops N [] env = env := rfl
theorem puts_cons (N a : Nat) (l : List Nat) : puts ops N (a :: l) env = puts ops (N + 1) l (setV env (opAt ops a).dst (ptrA ops a N)) := rfl
theorem zap_mk (B Z : List (List V)) (T : List (Nat × Nat)) : zap ⟨B, T⟩ Z = ⟨B ++ Z, T⟩ := rfl
theorem permK_0 (f : List Nat → Prop) : permK [] f = f [] := rfl
theorem permK_1 (a : Nat) (f : List Nat → Prop) : permK [a] f = f [a] := rfl
theorem permK_2 (a b : Nat) (f : List Nat → Prop) : permK [a, b] f = (f [a, b] ∧ f [b, a]) := rfl
theorem someL_nil (S : Mem) : SomeL [] S = True := rfl
theorem someL_cons (x : Nat) (l : List Nat) (S : Mem) : SomeL (x :: l) S = ((S.boxes[x]?).isSome = true ∧ SomeL l S) := rfl
theorem gX_yes (op : Op) : gX P I A L S0 next (.d (.bool true)) op d env S = doX P I A L S0 next op d env S := rfl
theorem gX_no (op : Op) : gX P I A L S0 next (.d (.bool false)) op d env S = next (setV env d (.tup [])) S := rfl
theorem gdoV_b (t : Bool) : gdoV (.d (.bool t)) true = .d (.bool t) := by cases t <;> rfl
theorem gdoV_n (t : Bool) : gdoV (.d (.bool t)) false = .d (.bool (!t)) := by cases t <;> rfl
theorem gdoV_g (w : Bool) : gdoV (.tup []) w = .d (.bool false) := rfl
theorem bindX_some (v : V) (S' : Mem) : bindX A L S0 next (some (v, S')) d env = (A = [] ∧ KeptL L S0 S' ∧ next (setV env d v) S') := rfl
theorem pureX_some (v : V) (S' : Mem) : pureX next (some (v, S')) d env S = next (setV env d v) S := rfl
theorem loadX_some (a v : V) (S' : Mem) : loadX L a next (some (v, S')) d env S = (ldOk L a ∧ next (setV env d v) S) := rfl
theorem doX_move (x : Operand) : doX P I A L S0 next (.move x) d env S = next (setV env d (evalV I env x)) S := rfl
theorem doX_assign (x : Operand) : doX P I A L S0 next (.assign x) d env S = next (setV env d (evalV I env x)) S := rfl
theorem doX_pick (a b c : Operand) : doX P I A L S0 next (.pick a b c) d env S = pureX next (op1 P (evalV I env) S (.pick a b c)) d env S := rfl
theorem doX_nilCheck (a : Operand) : doX P I A L S0 next (.nilCheck a) d env S = pureX next (op1 P (evalV I env) S (.nilCheck a)) d env S := rfl
theorem doX_fieldAddr (t : TypeId) (a : Operand) (f : Nat) : doX P I A L S0 next (.fieldAddr t a f) d env S = pureX next (op1 P (evalV I env) S (.fieldAddr t a f)) d env S := rfl
theorem doX_field (t : TypeId) (a : Operand) (f : Nat) : doX P I A L S0 next (.field t a f) d env S = pureX next (op1 P (evalV I env) S (.field t a f)) d env S := rfl
theorem doX_indexAddr (t : TypeId) (a b : Operand) : doX P I A L S0 next (.indexAddr t a b) d env S = pureX next (op1 P (evalV I env) S (.indexAddr t a b)) d env S := rfl
theorem doX_index (t : TypeId) (a b : Operand) : doX P I A L S0 next (.index t a b) d env S = pureX next (op1 P (evalV I env) S (.index t a b)) d env S := rfl
theorem doX_extract (a : Operand) (i : Nat) : doX P I A L S0 next (.extract a i) d env S = pureX next (op1 P (evalV I env) S (.extract a i)) d env S := rfl
theorem doX_binOp (o : BinOp) (t : TypeId) (a b : Operand) (u : TypeId) : doX P I A L S0 next (.binOp o t a b u) d env S = pureX next (op1 P (evalV I env) S (.binOp o t a b u)) d env S := rfl
theorem doX_unOp (o : UnOp) (t : TypeId) (a : Operand) : doX P I A L S0 next (.unOp o t a) d env S = pureX next (op1 P (evalV I env) S (.unOp o t a)) d env S := rfl
theorem doX_convert (t u : TypeId) (a : Operand) : doX P I A L S0 next (.convert t u a) d env S = pureX next (op1 P (evalV I env) S (.convert t u a)) d env S := rfl
theorem doX_build (t : TypeId) (ps : Array (Nat × Operand)) : doX P I A L S0 next (.build t ps) d env S = pureX next (op1 P (evalV I env) S (.build t ps)) d env S := rfl
theorem doX_buildSlice (t : TypeId) (n : Nat) (ps : Array (Nat × Operand)) : doX P I A L S0 next (.buildSlice t n ps) d env S = pureX next (op1 P (evalV I env) S (.buildSlice t n ps)) d env S := rfl
theorem doX_slice (t : TypeId) (a : Operand) (l h m : Option Operand) : doX P I A L S0 next (.slice t a l h m) d env S = pureX next (op1 P (evalV I env) S (.slice t a l h m)) d env S := rfl
theorem doX_makeFunc (f : Fn) (a b : Array Operand) : doX P I A L S0 next (.makeFunc f a b) d env S = pureX next (op1 P (evalV I env) S (.makeFunc f a b)) d env S := rfl
theorem doX_load (t : TypeId) (a : Operand) : doX P I A L S0 next (.load t a) d env S = loadX L (evalV I env a) next (op1 P (evalV I env) S (.load t a)) d env S := rfl
theorem doX_lookup (t : TypeId) (m k : Operand) (ok : Bool) : doX P I A L S0 next (.lookup t m k ok) d env S = loadX L (evalV I env m) next (op1 P (evalV I env) S (.lookup t m k ok)) d env S := rfl
theorem doX_store (t : TypeId) (a x : Operand) : doX P I A L S0 next (.store t a x) d env S = bindX A L S0 next (op1 P (evalV I env) S (.store t a x)) d env := rfl
theorem doX_alloc (t : TypeId) : doX P I A L S0 next (.alloc t) d env S = bindX A L S0 next (op1 P (evalV I env) S (.alloc t)) d env := rfl
theorem doX_box (t : TypeId) (x : Operand) : doX P I A L S0 next (.box t x) d env S = bindX A L S0 next (op1 P (evalV I env) S (.box t x)) d env := rfl
theorem doX_makeMap (t : TypeId) (r : Option Operand) : doX P I A L S0 next (.makeMap t r) d env S = bindX A L S0 next (op1 P (evalV I env) S (.makeMap t r)) d env := rfl
theorem doX_mapUpdate (t : TypeId) (m k x : Operand) : doX P I A L S0 next (.mapUpdate t m k x) d env S = bindX A L S0 next (op1 P (evalV I env) S (.mapUpdate t m k x)) d env := rfl
theorem doX_call (f : Operand) (aa : Array Operand) (ts : Array TypeId) : doX P I A L S0 next (.call ⟨.value f, aa, ts⟩) d env S = callX P I A L S0 next (evalV I env f) (aa.toList.map (evalV I env)) d env S := rfl
theorem doX_append (aa : Array Operand) (ts : Array TypeId) : doX P I A L S0 next (.call ⟨.builtin .append, aa, ts⟩) d env S = (relX P I A L S0 next (.call ⟨.builtin .append, aa, ts⟩) d env S ∨ bindX A L S0 next (opCall P (evalV I env) S ⟨.builtin .append, aa, ts⟩) d env) := rfl
theorem doX_delete (aa : Array Operand) (ts : Array TypeId) : doX P I A L S0 next (.call ⟨.builtin .delete, aa, ts⟩) d env S = bindX A L S0 next (opCall P (evalV I env) S ⟨.builtin .delete, aa, ts⟩) d env := rfl
theorem doX_len (aa : Array Operand) (ts : Array TypeId) : doX P I A L S0 next (.call ⟨.builtin .len, aa, ts⟩) d env S = pureX next (opCall P (evalV I env) S ⟨.builtin .len, aa, ts⟩) d env S := rfl
theorem ldOk_ptr (i k : Nat) : ldOk L (.ptr i k) = stab L i := rfl
theorem ldOk_mp (i : Nat) : ldOk L (.mp i) = stab L i := rfl
theorem ldOk_eptr (r : List D) (k : Nat) : ldOk L (.eptr r k) = True := rfl
theorem stab_nil (i : Nat) : stab [] i = False := rfl
theorem stab_cons (x i : Nat) (l : List Nat) : stab (x :: l) i = (x = i ∨ stab l i) := rfl
theorem keptL_nil (S S' : Mem) : KeptL [] S S' = True := rfl
theorem keptL_cons (x : Nat) (l : List Nat) (S S' : Mem) : KeptL (x :: l) S S' = (S'.boxes[x]? = S.boxes[x]? ∧ KeptL l S S') := rfl
theorem keptL_same (L : List Nat) (S : Mem) : KeptL L S S = True := eq_true (keptL_refl S L)
theorem callX_fn {g : FuncId} {first caps args : List V} {v : V} (h : ∀ Z, AFn P I g (first ++ args ++ caps) (zap S Z) fun r T => r = v ∧ T = zap S Z) (hk : KeptL L S0 S ∧ next (setV env d v) S) : callX P I A L S0 next (.func g first caps) args d env S :=
 ⟨fun u T => u = v ∧ T = S, ⟨v, S, rfl, rfl⟩, fun u T hq => .inl (by rw [hq.2]), fun Z _ => (h Z).mono fun r T hq => ⟨S, hq.2, hq.1, rfl⟩, fun u T ⟨e1, e2⟩ => by subst e1 e2; exact hk⟩
theorem callX_some {g : FuncId} {first caps args : List V} {Q : V → Prop} (hne : ∃ v, Q v) (h : ∀ Z, AFn P I g (first ++ args ++ caps) (zap S Z) fun r T => Q r ∧ T = zap S Z) (hk : ∀ v, Q v → KeptL L S0 S ∧ next (setV env d v) S) : callX P I A L S0 next (.func g first caps) args d env S := by
 obtain ⟨v, hv⟩ := hne
 exact ⟨fun u T => Q u ∧ T = S, ⟨v, S, hv, rfl⟩, fun u T hq => .inl (by rw [hq.2]), fun Z _ => (h Z).mono fun r T hq => ⟨S, hq.2, hq.1, rfl⟩, fun u T ⟨e1, e2⟩ => by subst e2; exact hk u e1⟩
theorem callX_0 {g : FuncId} {first caps args : List V} {Q : V → Mem → Prop} (hne : ∃ v S', Q v S') (h : AFn P I g (first ++ args ++ caps) S Q) (hk : ∀ v S', Q v S' → KeptL L S0 S' ∧ next (setV env d v) S') : callX P I [] L S0 next (.func g first caps) args d env S :=
 ⟨Q, hne, fun v S' hq => .inr rfl, fun Z hZ => by rw [hZ rfl, zap_nil]; exact h.mono fun v S' hq => ⟨S', (zap_nil S').symm, hq⟩, hk⟩
end
set_option linter.defProp false in
def xw := And.intro @lexX_nil (And.intro @lexX_in (And.intro @lexX_go (And.intro @orX_t (And.intro @inA_nil (And.intro @inA_cons (And.intro @puts_nil (And.intro @puts_cons (And.intro @zap_mk (And.intro @permK_0 (And.intro @permK_1 (And.intro @permK_2 (And.intro @someL_nil (And.intro @someL_cons (And.intro @gX_yes (And.intro @gX_no (And.intro @gdoV_b (And.intro @gdoV_n (And.intro @Bool.not_true (And.intro @Bool.not_false (And.intro @gdoV_g (And.intro @bindX_some (And.intro @pureX_some (And.intro @loadX_some (And.intro @doX_move (And.intro @doX_assign (And.intro @doX_pick (And.intro @doX_nilCheck (And.intro @doX_fieldAddr (And.intro @doX_field (And.intro @doX_indexAddr (And.intro @doX_index (And.intro @doX_extract (And.intro @doX_binOp (And.intro @doX_unOp (And.intro @doX_convert (And.intro @doX_build (And.intro @doX_buildSlice (And.intro @doX_slice (And.intro @doX_makeFunc (And.intro @doX_load (And.intro @doX_lookup (And.intro @doX_store (And.intro @doX_alloc (And.intro @doX_box (And.intro @doX_makeMap (And.intro @doX_mapUpdate (And.intro @doX_call (And.intro @doX_append (And.intro @doX_delete (And.intro @doX_len (And.intro @ldOk_ptr (And.intro @ldOk_mp (And.intro @ldOk_eptr (And.intro @stab_nil (And.intro @stab_cons (And.intro @keptL_nil (And.intro @keptL_same (And.intro @keptL_cons (And.intro @ptrA.eq_1 (And.intro @zA.eq_1 (And.intro @or_true (And.intro @true_or (And.intro @true_and (And.intro @and_true (And.intro @and_self (And.intro @Option.isSome_some.{0} (And.intro @Bool.or_false (And.intro @Bool.false_or (And.intro @Bool.true_or (And.intro @Bool.or_true (And.intro @List.length_append.{0} (And.intro @List.length_cons.{0} (And.intro @List.length_nil.{0} (And.intro @List.append_assoc.{0} (And.intro @List.cons_append.{0} (And.intro @List.nil_append.{0} (And.intro @List.drop_succ_cons.{0} (And.intro @List.drop_zero.{0} (And.intro @List.take_succ_cons.{0} (And.intro @List.take_zero.{0} (And.intro @List.map_cons.{0,0} @List.map_nil.{0,0})))))))))))))))))))))))))))))))))))))))))))))))))))))))))))))))))))))))))))))))))
set_option linter.unusedSimpArgs false
theorem ARun.thenW {P : Program} {I : Inv} {z : Nat × Nat} {fn : FuncId} {R : V → Mem → Prop} {α : Type} (pre K : List Item) (st : α → List V × Mem) (ok : α → Prop) {env : List V} {S : Mem} (h1 : ∀ a, ok a → ARun P I z fn K (st a).1 (st a).2 R)
 (h2 : ∀ K', (∀ a, ok a → ∀ env' S', EnvW (st a).1 env' → (st a).2 = S' → ARun P I z fn K' env' S' R) → ARun P I z fn (pre ++ K') env S R) : ARun P I z fn (pre ++ K) env S R :=
 h2 K fun a ha _ _ he hS => ARun.weak he (hS ▸ h1 a ha)
mutual
def pl : V → V
 | .sl rows _ => .d (.sl rows)
 | .agg vs => .agg (plL vs)
 | v => v
def plL : List V → List V
 | [] => []
 | v :: vs => pl v :: plL vs
end
theorem plL_map : ∀ vs : List V, plL vs = vs.map pl
 | [] => rfl
 | v :: vs => by rw [plL, plL_map vs]; rfl
theorem VR.pl {c : Cx} {w : World} {v : V} {x : Value} (h : VR c w v x) : VR c w (Ab.pl v) x := by
 induction h with
 | full rows a h ha => exact .d _ _ h
 | own rows t a cap i h ht hr hn hl => exact .d _ _ h
 | agg vs cs h1 h2 h3 ih =>
  show VR c w (.agg (plL vs)) _
  rw [plL_map]
  exact .agg _ _ (by rw [List.length_map]; exact h1) (fun j hj => by rw [List.getElem_map]; exact ih j (by simpa using hj)) (fun j hj => h3 j (by simpa using hj))
 | _ => (first | (constructor; done) | (constructor <;> assumption))
theorem AFn.pl {P : Program} {I : Inv} {f : FuncId} {vs us : List V} {S : Mem} {R : V → Mem → Prop} (h : AFn P I f us S R) (he : plL vs = us := by exact rfl) : AFn P I f vs S R := by
 subst he
 rw [plL_map] at h
 refine ⟨h.1, fun c w xs h1 h2 h3 hI => h.2 c w xs (by rw [h1, List.length_map]) (fun j hj => ?_) h3 hI⟩
 rw [List.getElem_map]
 exact (h2 j (by simpa using hj)).pl
theorem mapX_nil : List.mapM toD [] = some [] := rfl
theorem mapX_cons (x : D) (l : List V) : List.mapM toD (.d x :: l) = (List.mapM toD l).map (x :: ·) := by
 rw [List.mapM_cons]
 show (some x).bind _ = _
 rw [Option.bind_some]
 cases List.mapM toD l <;> rfl
theorem mapX_sl (rows : List (List D)) (tk : Tok) (l : List V) : List.mapM toD (.sl rows tk :: l) = (List.mapM toD l).map (.sl rows :: ·) := by
 rw [List.mapM_cons]
 show (some (D.sl rows)).bind _ = _
 rw [Option.bind_some]
 cases List.mapM toD l <;> rfl
theorem ARun.drawY {P : Program} {I : Inv} {z : Nat × Nat} {fn : FuncId} {k : List Item} {R : V → Mem → Prop} {ops : Array Oper} {id : Nat} {env : List V} {S : Mem} (p : Nat) (L L2 : List Nat)
 (h : SomeL L S ∧ lexX P I ops [] L S (fun env S1 => SomeL L2 S1 ∧ lexX P I ops [] L2 S1 (fun env S => ARun P I z fn k env S R) p (ops.toList.drop p) env S1) 0 (ops.toList.take p) env S)
 (hm : P.follows .mixedOrders = true := by kernel_rfl) (hB : Region.lexB .any ops = true := by kernel_rfl) (hW : waitsD ops (wrs [] ops) = true := by kernel_rfl) (hs : splitU ops [] p = true := by kernel_rfl) (hp : Nat.ble p ops.size = true := by kernel_rfl) (hA : okA P ops [] p = true := by kernel_rfl) (hc : Nat.beq (cntN [] 0 p) p = true := by kernel_rfl) : ARun P I z fn (.code (.region id ops true) :: k) env S R := by
 obtain ⟨hL, h⟩ := h
 intro b a c w c0 w0 h1 h2 h3 h4 h5 h6 hI cs
 have hp := Nat.le_of_ble_eq_true hp
 have hOk := okA_ok hA
 have hd : Below w.heap.size w { w with drawn := w.drawn + 1 } := ⟨rfl, rfl, rfl, Nat.le_refl _, fun _ _ => rfl⟩
 obtain ⟨r1, r2⟩ := h5.under hd
 simp only [Region.lexB, Bool.and_eq_true] at hB
 simp only [waitsD, Bool.and_eq_true] at hW
 have hlt : (ops.toList.take p).length = p := by simp; omega
 have hld : (ops.toList.drop p).length = ops.size - p := by simp
 have hB2 : Region.lexFrom .any ops ((ops.toList.take p).length + (ops.size - p)) 0 (Array.replicate ops.size false) = true := by
  rw [hlt, Nat.add_sub_cancel' hp]
  simpa using hB.2
 have hD := lexX_ok (ops := ops) hL (K' := fun env S1 => lexC P I ops (wrs [] ops) (Kept L2 S1) (fun env S => ARun P I z fn k env S R) (ops.toList.drop p) p env S1) (fun env S1 hq =>
  lexD_C _ p _ _ (lexX_ok (A := []) (L := L2) hq.1 (fun _ _ h => h) _ p _ _ (fun j o hj => by simpa using hj) (fun _ _ _ hv => hv) hq.2)) _ 0 env S (fun j o hj => by
   rw [List.getElem?_take] at hj
   split at hj
   ·simpa using hj
   ·cases hj) (fun _ _ _ hv => hv) h
 let la : Array Bool := Array.replicate ops.size false
 have hla : la.size = ops.size := by simp [la]
 have hlj : ∀ j, j < ops.size → la.getD j true = inA [] j := fun j hj => by simp [la, hj, inA]
 have hge : ∀ j, p ≤ j → inA [] j = false := fun _ _ => rfl
 have hany := anyX_lex (P := P) (I := I) (MM := Kept L S) (W := wrs [] ops) (A := [])
  (K := fun la env S1 => (∀ j, j < ops.size → la.getD j true = decide (j < p)) ∧ Region.lexFrom .any ops (ops.size - p) p la = true ∧ lexC P I ops (wrs [] ops) (Kept L2 S1) (fun env S => ARun P I z fn k env S R) (ops.toList.drop p) p env S1)
  (fun x o hx ho => by cases hx) hp hW.1 hW.2 (ops.size - p) (fun la env S1 hsz hlj hlx hq => by
   have hj : ∀ j, j < ops.size → la.getD j true = decide (j < p) := fun j hj => by
    rw [hlj j hj]
    by_cases hjp : j < p
    ·rw [decide_eq_true hjp, Bool.true_or]
    ·rw [hge j (by omega), Bool.or_false]
   exact ⟨hj, hlx la hsz hj, hq⟩) (ops.toList.take p) 0 (Array.replicate ops.size false) la env S (fun j hj => by rw [hlt] at hj; simp [hj]) (by rw [hlt, Nat.zero_add]) (by simp) hla (fun j hj => by simp [hj]) (fun j hj => by rw [hlj j hj]; simp) hB2 hD
 have hlex : LexAt ops := fun q hq => lexFrom_at ops.size 0 (Array.replicate ops.size false) (by simp) (fun j hj => by simp [hj]) (by simpa using hB.2) q (Nat.zero_le _) (by omega) hq
 have hWw : ∀ i o, ops[i]? = some o → (wrs [] ops).contains i = true → isWr o.op = true := fun i o ho hw => by
  have hw := List.contains_iff_mem.1 hw
  unfold wrs at hw
  rw [List.mem_filter] at hw
  have e : opAt ops i = o := by unfold opAt; rw [ho]
  rw [e, Bool.and_eq_true] at hw
  exact hw.2.1
 have hrun := anyX_run (fn := fn) (k := k) (R := R) (z := z) (MM := Kept L S) (rest := ops.size - p) (splitU_ok hs) hlex hWw hp hOk (fun S' Z h => Kept.zap h Z) (fun la env S1 hsz hq done hdp => by
  obtain rfl := List.Perm.eq_nil hdp
  have h7 := anyC_lex hW.1 hW.2 (ops.toList.drop p) p la _ _ (fun j => by simp) hq.1 (by rw [hld]; exact hq.2.1) hq.2.2
  rw [hld] at h7
  exact ⟨_, by simpa [puts, zap] using h7⟩) _ _ _ rfl (w.tape w.drawn (.order b.fn id)) la (Array.replicate ops.size false) env S [] [] hany (List.Perm.refl _) rfl (by simp) hla (fun j hj => by rw [hlj j hj]; simp [hj]) (fun j hj => absurd hj List.not_mem_nil) (fun j o ho hl => by
  have h8 := (Array.getElem?_eq_some_iff.1 ho).1
  simp [h8] at hl) (fun j hj => absurd hj List.not_mem_nil)
 rw [hlt, Nat.eq_of_beq_eq_true hc, List.length_nil, Nat.add_zero, Nat.add_sub_cancel' hp] at hrun
 rw [show (List.map (zA P ops) ([] : List Nat)) = [] from rfl, zap_nil] at hrun
 obtain ⟨e, w', fr, g1, g2, g3⟩ := hrun b a c _ c0 w0 h1 h2 h3 (h4.ext r2) r1 (h6.trans r2) ⟨r2.I.trans hI.1, hI.2⟩ cs
 refine ⟨e, w', fr, g1, .of_steps (.one ?_) g2, g3⟩
 have := step_region_draw (P := P) (b := b) (a := a) (k := k) (cs := cs) (w := w) (ops := ops) (id := id)
 rw [this]
 simp only [Region.schedule, hm, Bool.true_or, if_true, Region.linearise]
theorem int_of {c : Cx} {w : World} {k : IntKind} {n : Int} {x : Value} (h : VR c w (.d (.int k n)) x) : x = .int k n := by
 cases h with
 | d _ _ h => cases h; rfl
theorem OpR.makeI {P : Program} {I : Inv} {env : List V} {o : Oper} {S : Mem} {x y : Operand} {t e : TypeId} {ti i : TyI} (ho : o.op = .makeSlice t x y)
 (hti : tyOf P t = some ti) (he : ti.d = .slice e) (hte : tyOf P e = some i) (hs : i.size = 1) (hb : i.bytes = 8) (hz : i.zero = [.d (.int .i64 0)]) {n : Nat} (hn : n ≤ 1000000) (hx : evalV I env x = .d (.int .i64 n)) (hy : evalV I env y = .d (.int .i64 n)) :
 OpR P I o env S fun v S' => v = .bx S.boxes.length n n ∧ S' = ⟨S.boxes ++ [List.replicate n (.d (.int .i64 0))], S.toks⟩ := by
 intro c w ev h1 h2 h3
 have hA := h3 x (by rw [ho]; simp [Op.operands])
 have hB := h3 y (by rw [ho]; simp [Op.operands])
 rw [hx] at hA
 rw [hy] at hB
 have hA := int_of hA
 have hB := int_of hB
 obtain ⟨fi, d, z, a1, a2, a3, a4, a5, a6, _⟩ := tyOf_info hti
 obtain ⟨gi, d2, z2, g1, g2, g3, g4, g5, g6, g7, g8, g9, g10⟩ := tyOf_info hte
 rw [he] at a6
 obtain rfl := tdOf_slice a6
 have hr := run_make (P := P) w t e gi z2 a2 g1 g3 .i64 .i64 n n (by omega) (Int.le_refl _) (by rw [g5, hb]; omega) (by omega)
 have hsz : gi.size = 1 := by rw [g4, hs]
 rw [hsz, Nat.mul_one, Int.toNat_natCast] at hr
 have hzl : z2.cells.toList.map ofVal1 = [.d (.int .i64 0)] := by rw [← g9, hz]
 obtain ⟨u, hu⟩ : ∃ u, z2.cells = #[u] := by
  have h1 : z2.cells.toList.length = 1 := by have := congrArg List.length hzl; simpa using this
  match hq : z2.cells.toList, h1 with
  | [u], _ => exact ⟨u, by apply Array.toList_inj.1; rw [hq]⟩
 have hcell : ∀ j, j < n → (madeCells z2.cells n).getD j undef = u := fun j hj => by
  rw [hu]
  simp [madeCells, hj, Nat.mod_one]
 have hu0 : ofVal1 u = .d (.int .i64 0) := by
  rw [hu] at hzl
  simpa using hzl
 have hnb := h1.box_new (madeCells z2.cells n) e (List.replicate n (.d (.int .i64 0))) (by simp [madeCells]) (fun j hj => by
  have hj' : j < n := by simpa using hj
  rw [hcell j hj', List.getElem_replicate, ← hu0]
  exact ⟨VR_ofVal1 c w u, g10 u (by rw [hu]; simp)⟩)
 refine ⟨_, _, _, _, _, ?_, ⟨rfl, rfl⟩, hnb.1, hnb.2, .bx _ n n w.heap.size ?_ (Nat.le_refl _) (by omega) ⟨_, OfTy.new _ _⟩⟩
 ·simp [execOp, ho, hA, hB, hr]
 ·show (c.ρ ++ [w.heap.size])[S.boxes.length]? = _
  rw [h1.len]; simp
theorem bxS_toD (i n cap : Nat) : toD (.bx i n cap) = none := rfl
theorem bxS_len (e a b : Nat) (g : Bool) (z : List V) (i n cap : Nat) : opLenB ⟨.slice e, a, b, g, z⟩ (.bx i n cap) = some (.d (.int .i64 (n : Int))) := rfl
theorem bxS_idx (P : Program) (e a b : Nat) (g : Bool) (z : List V) (i n cap : Nat) (k : Int) : opIdxB P ⟨.slice e, a, b, g, z⟩ (.bx i n cap) k = match tyOf P e with
 | some te => if 0 ≤ k ∧ k < (n : Int) then some (.ptr i (k.toNat * te.size)) else none
 | none => none := rfl
set_option linter.defProp false in
def bxS := And.intro bxS_toD (And.intro bxS_len bxS_idx)
end Go.Ab
namespace Go.Proofs.YtkgbbcnjkojocaaGreatDoor
open Go.RowKit Go.Av Go.Ab
set_option linter.unusedSimpArgs false
set_option maxRecDepth 100000
def idxF {α : Type} (p : α → Bool) : List α → Int → Int
 | [], _ => -1
 | x :: l, i => if p x then i else idxF p l (i + 1)
theorem idxF_any {α : Type} (p : α → Bool) : ∀ (l : List α) (i : Int), 0 ≤ i → decide (0 ≤ idxF p l i) = l.any p
 | [], i, _ => by simp [idxF]
 | x :: l, i, hi => by
  unfold idxF
  cases hp : p x
  ·simp [hp, idxF_any p l (i + 1) (by omega)]
  ·simp [hp, hi]
theorem drop_get {α : Type} {l : List α} {i : Nat} (h : i < l.length) : l.drop i = l[i] :: l.drop (i + 1) := List.drop_eq_getElem_cons h
set_option maxHeartbeats 1000000 in
theorem index_str_ab (l : List (List UInt8)) (s : List UInt8) (hl : l.length ≤ 9223372036854775807) (S : Mem) : AFn Tryz.prog TabI 75 [.d (.sl (ssD l)), .d (.str s)] S (Same (.d (.int .i64 (idxF (· == s) l 0))) S) := by
 refine AFn.body Tryz.func75 rfl (by kernel_rfl) ?_
 refine ARun.go 100 ?_
 simp only [Tryz.f75, WO, seval]
 refine ARun.loopW (fun i : Nat => (envOf 19 [(0, .d (.sl (ssD l))), (1, .d (.str s)), (6, .d (.sl (ssD l))), (7, .d (.int .i64 l.length)), (8, .d (.int .i64 i))], S)) (fun i => i ≤ l.length ∧ idxF (· == s) l 0 = idxF (· == s) (l.drop i) i) (fun i => l.length - i) 0 ⟨by omega, rfl⟩ ?_ rfl ?_
 ·simp only [envOf, List.replicate_succ, List.replicate_zero, List.foldl_cons, List.foldl_nil, List.set_cons_zero, List.set_cons_succ, EnvW, eq_self, or_true, true_or, and_self, Int.natCast_add, Int.natCast_one, Int.natCast_zero]
 rintro i ⟨h1, h2⟩ ih
 by_cases hlt : i < l.length
 ·have hw := wrap_in ((i : Int) + 1) (by omega)
  have hg := List.getElem?_eq_getElem hlt
  rw [drop_get hlt] at h2
  have hlt' : decide ((i : Int) < (l.length : Int)) = true := decide_eq_true (by omega)
  refine goN ?_
  simp only [WO, seval, hg, hlt', hw]
  refine condS_of (fun h => ?_) (fun h => ?_)
  ·have hb : (l[i] == s) = true := by rw [beq_iff_eq]; exact (of_decide_eq_true h).symm
   simp only [WO, seval, h]
   refine ARun.ret Tryz.func75 rfl (Left.none ?_)
   have e : idxF (· == s) (l[i] :: l.drop (i + 1)) (i : Int) = i := by simp [idxF, hb]
   rw [h2, e]
   exact ⟨rfl, rfl⟩
  ·have hb : (l[i] == s) = false := by rw [beq_eq_false_iff_ne]; exact fun e => of_decide_eq_false h e.symm
   simp only [WO, seval, h, hw]
   have e : idxF (· == s) (l[i] :: l.drop (i + 1)) (i : Int) = idxF (· == s) (l.drop (i + 1)) ((i + 1 : Nat) : Int) := by simp [idxF, hb]
   refine ih (i + 1) ⟨by omega, by rw [h2, e]⟩ (by omega) _ _ ?_ rfl
   simp only [envOf, List.replicate_succ, List.replicate_zero, List.foldl_cons, List.foldl_nil, List.set_cons_zero, List.set_cons_succ, EnvW, eq_self, or_true, true_or, and_self, Int.natCast_add, Int.natCast_one, Int.natCast_zero]
 ·have hlt' : decide ((i : Int) < (l.length : Int)) = false := decide_eq_false (by omega)
  refine goN ?_
  simp only [WO, seval, hlt']
  refine ARun.ret Tryz.func75 rfl (Left.none ?_)
  rw [h2, List.drop_eq_nil_of_le (by omega)]
  exact ⟨rfl, rfl⟩
theorem contains_eq (l : List (List UInt8)) (s : List UInt8) : decide (0 ≤ idxF (· == s) l 0) = l.contains s := by
 rw [idxF_any _ _ _ (Int.le_refl 0), Bool.eq_iff_iff, List.any_eq_true, List.contains_iff_exists_mem_beq]
 constructor <;> rintro ⟨x, hx, h⟩ <;> exact ⟨x, hx, by rw [beq_iff_eq] at h ⊢; exact h.symm⟩
theorem contains_str_ab (l : List (List UInt8)) (s : List UInt8) (hl : l.length ≤ 9223372036854775807) (S : Mem) : AFn Tryz.prog TabI 54 [.d (.sl (ssD l)), .d (.str s)] S (Same (.d (.bool (l.contains s))) S) := by
 refine AFn.body Tryz.func54 rfl (by kernel_rfl) ?_
 refine ARun.go 100 ?_
 simp only [Tryz.f54, WO, seval]
 refine callN (index_str_ab l s hl _) ?_
 refine goN ?_
 simp only [WO, seval, contains_eq]
 refine ARun.ret Tryz.func54 rfl (Left.none ?_)
 exact ⟨rfl, rfl⟩
def stB (s : StT) : List V := [.d (.int .i64 s.kind), .d (.sl (ssD s.names)), .d (.int .i64 s.type.kind), .d (.str s.type.name), .d (.sl (s.type.elem.map tyD)), .d (.sl (s.lefts.map exD)), .d (.sl (s.exprs.map exD)), .d (.sl (s.body.map stD)), .d (.sl (s.els.map stD)), .d (.sl (s.cases.map caD))]
def Dp : Nat → StT → Prop
 | 0, _ => False
 | n + 1, s => (∀ x ∈ s.body, Dp n x) ∧ (∀ x ∈ s.els, Dp n x) ∧ ∀ k ∈ s.cases, ∀ x ∈ k.body, Dp n x
theorem Dp.of_size : ∀ (n : Nat) (s : StT), SizeOf.sizeOf s ≤ n → Dp n s
 | 0, s, h => by
  cases s with
  | mk k ns ty ls es b e cs => simp at h
 | n + 1, s, h => by
  cases s with
  | mk k ns ty ls es b e cs =>
   have h0 : 1 + SizeOf.sizeOf b + SizeOf.sizeOf e + SizeOf.sizeOf cs ≤ n + 1 := by
    simp only [StT.mk.sizeOf_spec] at h
    omega
   refine ⟨fun x hx => Dp.of_size n x ?_, fun x hx => Dp.of_size n x ?_, fun c hc x hx => Dp.of_size n x ?_⟩
   ·have := List.sizeOf_lt_of_mem (show x ∈ b from hx)
    omega
   ·have := List.sizeOf_lt_of_mem (show x ∈ e from hx)
    omega
   ·have h1 := List.sizeOf_lt_of_mem (show c ∈ cs from hc)
    have h2 := List.sizeOf_lt_of_mem hx
    have h3 : SizeOf.sizeOf c.body ≤ SizeOf.sizeOf c := by
     cases c with
     | mk i b => simp only [CaT.body, CaT.mk.sizeOf_spec]; omega
    omega
end Go.Proofs.YtkgbbcnjkojocaaGreatDoor
namespace Go.Proofs.YtkgbbcnjkojocaaGreatDoor
open Go.RowKit Go.Av
abbrev Wd := Nat × List UInt8 × Nat
def okD (l : List UInt8) : Bool :=
 decide (valD (l.takeWhile digitB) ≤ maxU) && !(decide ((l.takeWhile digitB).length < l.length) && letterB (l.getD (l.takeWhile digitB).length 0)) && !(decide (1 < (l.takeWhile digitB).length) && decide (l.getD 0 0 = 48))
def wl (l : List UInt8) : Option Wd :=
 if l = [] then some (0, [], 0)
 else if letterB (l.getD 0 0) = true then some (if reservedS (l.takeWhile wordB) = true then 4 else 1, l.takeWhile wordB, 0)
 else if digitB (l.getD 0 0) = true then (if okD l = true then some (2, l.takeWhile digitB, valD (l.takeWhile digitB)) else none)
 else match signAt l with
  | some s => some (3, s, 0)
  | none => none
def strip (x : WordS) : Wd := (x.kind, x.text, x.int)
structure Ps where
 ws : List WordS
 e : Int
 o : Int
 h : Bool
def Ps.w (s : Ps) : WordS := s.ws.headD .zero
def mu (s : Ps) : Nat := if s.e = 0 then s.ws.length else 0
def failP (s : Ps) (e : Int) : Ps := if s.e = 0 then ⟨s.ws, e, s.o, s.h⟩ else s
def nextP (s : Ps) : Ps := if s.e = 0 then (if (s.ws.tail.headD .zero).kind = 9 then ⟨s.ws, 50, s.o, s.h⟩ else ⟨s.ws.tail, 0, s.o, s.h⟩) else s
def isP (s : Ps) (t : List UInt8) : Bool := decide (s.e = 0) && (decide (s.w.kind = 3) || decide (s.w.kind = 4)) && decide (s.w.text = t)
def opnB (t : List UInt8) : Bool := decide (t = [40]) || decide (t = [91]) || decide (t = [123])
def clsB (t : List UInt8) : Bool := decide (t = [41]) || decide (t = [93]) || decide (t = [125])
def bumpP (s : Ps) (t : List UInt8) : Ps :=
 if opnB t = true then (if 100 < IntKind.i64.wrap (s.o + 1) then failP ⟨s.ws, s.e, IntKind.i64.wrap (s.o + 1), s.h⟩ 51 else ⟨s.ws, s.e, IntKind.i64.wrap (s.o + 1), s.h⟩)
 else if clsB t = true then ⟨s.ws, s.e, IntKind.i64.wrap (s.o - 1), s.h⟩ else s
def gotP (s : Ps) (t : List UInt8) : Bool × Ps := if isP s t = true then (true, nextP (bumpP s t)) else (false, s)
def wantP (s : Ps) (t : List UInt8) : Ps := match gotP s t with
 | (true, s1) => s1
 | (false, s1) => failP s1 51
def nameP (s : Ps) : List UInt8 × Ps := if s.e = 0 ∧ s.w.kind = 1 then (s.w.text, nextP s) else ([], failP s 51)
def numP (s : Ps) : Int × Ps := if s.e = 0 ∧ s.w.kind = 2 then ((s.w.int : Int), nextP s) else (0, failP s 51)
def kindT : List (List UInt8 × Int) := [([98, 111, 111, 108], 1), ([98, 121, 116, 101], 2), ([105, 110, 116, 51, 50], 3), ([105, 110, 116], 4), ([117, 105, 110, 116, 51, 50], 5), ([117, 105, 110, 116, 54, 52], 6)]
def kndS (t : List UInt8) : Int := ((kindT.find? fun x => x.1 == t).map (·.2)).getD 0
def noT : TyT := .mk 0 [] []
abbrev EP := Ps → ExT × Ps
def keyB (s : Ps) : Bool := isP s [116, 114, 117, 101] || isP s [102, 97, 108, 115, 101] || isP s [108, 101, 110] || isP s [97, 112, 112, 101, 110, 100] || (decide (s.w.kind = 4) && decide (1 < kndS s.w.text))
def pstL (E : EP) : Nat → ExT → Ps → ExT × Ps
 | 0, x, s => (x, s)
 | m + 1, x, s => if ¬ s.e = 0 then (x, s) else match gotP s [46] with
  | (true, s1) => (match nameP s1 with
   | (t, s2) => pstL E m (.mk 9 t 0 noT [] [x]) s2)
  | (false, _) => match gotP s [91] with
   | (false, _) => (x, s)
   | (true, s1) => match E s1 with
    | (y, s2) => match gotP s2 [58] with
     | (false, s3) => pstL E m (.mk 10 [] 0 noT [] [x, y]) (wantP s3 [93])
     | (true, s3) => match E s3 with
      | (z, s4) => pstL E m (.mk 11 [] 0 noT [] [x, y, z]) (wantP s4 [93])
abbrev SP := Ps → StT × Ps
structure Dn (s s' : Ps) : Prop where
 le : mu s' ≤ mu s
 e : ¬ s.e = 0 → s'.e = s.e
 sub : ∀ w ∈ s'.ws, w ∈ s.ws
theorem Dn.refl (s : Ps) : Dn s s := ⟨Nat.le_refl _, fun _ => rfl, fun _ h => h⟩
theorem Dn.trans {a b c : Ps} (h : Dn a b) (k : Dn b c) : Dn a c := ⟨Nat.le_trans k.le h.le, fun he => by
 have h1 := h.e he
 rw [k.e (by rw [h1]; exact he), h1], fun w hw => h.sub w (k.sub w hw)⟩
theorem mu_dead {s : Ps} (h : ¬ s.e = 0) : mu s = 0 := if_neg h
theorem mu_live {s : Ps} (h : s.e = 0) : mu s = s.ws.length := if_pos h
theorem dn_fail (s : Ps) (e : Int) : Dn s (failP s e) := by
 unfold failP
 split
 ·rename_i h
  refine ⟨?_, fun he => absurd h he, fun _ h => h⟩
  unfold mu
  rw [if_pos h]
  split <;> simp
 ·exact .refl _
theorem dn_next (s : Ps) : Dn s (nextP s) := by
 unfold nextP
 split
 ·rename_i h
  refine ⟨?_, fun he => absurd h he, fun w hw => ?_⟩
  case refine_2 =>
   split at hw
   ·exact hw
   ·exact List.mem_of_mem_tail hw
  unfold mu
  rw [if_pos h]
  split <;> simp
 ·exact .refl _
theorem next_lt (s : Ps) (h : s.e = 0) (hk : ¬ s.w.kind = 0) : mu (nextP s) < mu s := by
 have hn : s.ws ≠ [] := by
  intro hw
  unfold Ps.w at hk
  rw [hw] at hk
  exact hk rfl
 have hl := List.length_pos_iff.2 hn
 rw [mu_live h]
 unfold nextP
 rw [if_pos h]
 split
 ·rw [mu_dead (by show ¬ (50 : Int) = 0; omega)]
  exact hl
 ·rw [mu_live rfl]
  simp
  omega
theorem dn_bump (s : Ps) (t : List UInt8) : Dn s (bumpP s t) := by
 have h1 : ∀ o : Int, Dn s ⟨s.ws, s.e, o, s.h⟩ := fun _ => ⟨Nat.le_refl _, fun _ => rfl, fun _ h => h⟩
 unfold bumpP
 split
 ·split
  ·exact (h1 _).trans (dn_fail _ _)
  ·exact h1 _
 ·split
  ·exact h1 _
  ·exact .refl _
theorem bump_w (s : Ps) (t : List UInt8) : (bumpP s t).ws = s.ws := by
 unfold bumpP failP
 split
 ·split
  ·split <;> rfl
  ·rfl
 ·split <;> rfl
theorem is_live {s : Ps} {t : List UInt8} (h : isP s t = true) : s.e = 0 ∧ (s.w.kind = 3 ∨ s.w.kind = 4) ∧ s.w.text = t := by
 unfold isP at h
 simp only [Bool.and_eq_true, Bool.or_eq_true, decide_eq_true_eq] at h
 exact ⟨h.1.1, h.1.2, h.2⟩
theorem got_all (s : Ps) (t : List UInt8) : Dn s (gotP s t).2 ∧ ((gotP s t).1 = true → mu (gotP s t).2 < mu s) ∧ ((gotP s t).1 = false → (gotP s t).2 = s ∧ isP s t = false) := by
 unfold gotP
 split
 ·rename_i h
  obtain ⟨h1, h2, h3⟩ := is_live h
  refine ⟨(dn_bump s t).trans (dn_next _), fun _ => ?_, fun h => absurd h (by simp)⟩
  by_cases hb : (bumpP s t).e = 0
  ·refine Nat.lt_of_lt_of_le (next_lt _ hb ?_) (dn_bump s t).le
   unfold Ps.w
   rw [bump_w]
   change ¬ s.w.kind = 0
   omega
  ·have h4 := (dn_next (bumpP s t)).le
   rw [mu_dead hb] at h4
   show mu (nextP (bumpP s t)) < mu s
   have hl : 0 < mu s := by
    rw [mu_live h1]
    refine List.length_pos_iff.2 fun hw => ?_
    unfold Ps.w at h2
    rw [hw] at h2
    rcases h2 with h2 | h2 <;> exact absurd h2 (by decide)
   omega
 ·rename_i h
  exact ⟨.refl _, fun h => absurd h (by simp), fun _ => ⟨rfl, by simpa using h⟩⟩
theorem got_no {s s1 : Ps} {t : List UInt8} (h : gotP s t = (false, s1)) : s1 = s := by
 have := (got_all s t).2.2
 rw [h] at this
 exact (this rfl).1
def DnE {α : Type} (E : Ps → α × Ps) : Prop := ∀ s, Dn s (E s).2
theorem DnE.at {α : Type} {E : Ps → α × Ps} (h : DnE E) {s s1 : Ps} {x : α} (e : E s = (x, s1)) : Dn s s1 := by
 have := h s
 rw [e] at this
 exact this
theorem DnE.of {α : Type} {E : Ps → α × Ps} (h : ∀ {s s1 : Ps} {x : α}, E s = (x, s1) → Dn s s1) : DnE E := fun s => h (x := (E s).1) rfl
set_option linter.unusedSimpArgs false
def wordsT : Nat → List UInt8 → List Wd
 | 0, _ => [(9, [], 0)]
 | f + 1, l => match wl (skipM false l) with
  | none => [(9, [], 0)]
  | some x => if x.1 = 0 then [(0, [], 0)] else x :: wordsT f ((skipM false l).drop x.2.1.length)
def stopB : List UInt8 → Bool
 | [] => true
 | c :: _ => !wordB c
set_option linter.unusedVariables false
def Lx (s : List UInt8) (t : List Wd) : Prop := ∀ (f : Nat) (r : List UInt8), stopB r = true → wordsT (f + t.length) (s ++ r) = t ++ wordsT f r
def LxA (s : List UInt8) (t : List Wd) : Prop := ∀ (f : Nat) (r : List UInt8), wordsT (f + t.length) (s ++ r) = t ++ wordsT f r
theorem LxA.app {s1 s2 : List UInt8} {t1 t2 : List Wd} (h1 : LxA s1 t1) (h2 : LxA s2 t2) : LxA (s1 ++ s2) (t1 ++ t2) := fun f r => by
 rw [List.append_assoc, List.length_append, Nat.add_comm t1.length, ← Nat.add_assoc, h1, h2, List.append_assoc]
theorem LxA.then {s1 s2 : List UInt8} {t1 t2 : List Wd} (h1 : LxA s1 t1) (h2 : Lx s2 t2) : Lx (s1 ++ s2) (t1 ++ t2) := fun f r hr => by
 rw [List.append_assoc, List.length_append, Nat.add_comm t1.length, ← Nat.add_assoc, h1, h2 f r hr, List.append_assoc]
theorem Lx.then {s1 s2 : List UInt8} {t1 t2 : List Wd} (h1 : Lx s1 t1) (hs : ∀ r, stopB r = true → stopB (s2 ++ r) = true) (h2 : Lx s2 t2) : Lx (s1 ++ s2) (t1 ++ t2) := fun f r hr => by
 rw [List.append_assoc, List.length_append, Nat.add_comm t1.length, ← Nat.add_assoc, h1 _ _ (hs r hr), h2 f r hr, List.append_assoc]
def bndP {α β : Type} (p : α × Ps) (f : α → Ps → β × Ps) : β × Ps := f p.1 p.2
theorem Dn.zero {a b : Ps} (h : Dn a b) (hb : b.e = 0) : a.e = 0 := by
 by_cases ha : a.e = 0
 ·exact ha
 ·rw [h.e ha] at hb; exact hb
theorem Dn.bad {a b : Ps} (h : Dn a b) (ha : a.e = 51) : b.e = 51 := by
 rw [h.e (by omega), ha]
structure Sim (c : Wd) (tl : List Wd) (s t : Ps) : Prop where
 se : s.e = 0
 te : t.e = 0
 h : t.h = s.h
 ws : ∃ init : List Wd, s.ws.map strip = init ++ [(0, [], 0)] ∧ t.ws.map strip = init ++ c :: tl ∧ ∀ x ∈ init, x.1 ≠ 0 ∧ x.1 ≠ 9
section
variable {c : Wd} {tl : List Wd} {s t : Ps}
def Res (c : Wd) (tl : List Wd) {α : Type} (p q : α × Ps) : Prop := p.2.e = 0 → (q.1 = p.1 ∧ Sim c tl p.2 q.2) ∨ q.2.e = 51
theorem Res.pure {α : Type} {s t : Ps} (h : Sim c tl s t) (x : α) : Res c tl (x, s) (x, t) := fun _ => .inl ⟨rfl, h⟩
theorem Res.dead {α : Type} {p q : α × Ps} (h : ¬ p.2.e = 0) : Res c tl p q := fun h0 => absurd h0 h
theorem Res.bndP {α β : Type} {p q : α × Ps} {f g : α → Ps → β × Ps} (h : Res c tl p q) (hf : ∀ x s, Dn s (f x s).2) (hg : ∀ x s, Dn s (g x s).2) (hk : Sim c tl p.2 q.2 → Res c tl (f p.1 p.2) (g p.1 q.2)) : Res c tl (bndP p f) (bndP q g) := by
 intro h0
 rcases h ((hf p.1 p.2).zero h0) with ⟨e, hs⟩ | h51
 ·have := hk hs h0
  unfold Proofs.YtkgbbcnjkojocaaGreatDoor.bndP
  rw [e]
  exact this
 ·exact .inr ((hg q.1 q.2).bad h51)
theorem next_step {w : WordS} {r : List WordS} {o : Int} {h : Bool} (hr : ¬ (r.headD .zero).kind = 9) : nextP ⟨w :: r, 0, o, h⟩ = ⟨r, 0, o, h⟩ := by
 unfold nextP
 rw [if_pos rfl]
 exact if_neg hr
theorem Sim.split (hs : Sim c tl s t) (hc : c.1 ≠ 9) : (s.w.kind = 0 ∧ strip t.w = c) ∨ (s.w.kind ≠ 0 ∧ strip t.w = strip s.w ∧ ∀ o o' : Int, Sim c tl (nextP ⟨s.ws, 0, o, s.h⟩) (nextP ⟨t.ws, 0, o', t.h⟩)) := by
 obtain ⟨se, te, hh, init, h1, h2, h3⟩ := hs
 cases init with
 | nil =>
  obtain ⟨w, r, e1, e2, e3⟩ := List.map_eq_cons_iff.1 h1
  obtain ⟨w', r', f1, f2, f3⟩ := List.map_eq_cons_iff.1 h2
  refine .inl ⟨?_, ?_⟩
  ·unfold Ps.w
   rw [e1]
   exact congrArg Prod.fst e2
  ·unfold Ps.w
   rw [f1]
   exact f2
 | cons x init =>
  obtain ⟨w, r, e1, e2, e3⟩ := List.map_eq_cons_iff.1 h1
  obtain ⟨w', r', f1, f2, f3⟩ := List.map_eq_cons_iff.1 h2
  have hx := h3 x List.mem_cons_self
  refine .inr ⟨?_, ?_, fun o o' => ?_⟩
  ·unfold Ps.w
   rw [e1]
   intro h0
   exact hx.1 (by rw [← e2]; exact h0)
  ·unfold Ps.w
   rw [e1, f1]
   exact f2.trans e2.symm
  ·have hr : ¬ (r.headD .zero).kind = 9 := by
    cases init with
    | nil =>
     obtain ⟨y, r2, g1, g2, _⟩ := List.map_eq_cons_iff.1 e3
     rw [g1]
     intro h9
     have : (strip y).1 = 9 := h9
     rw [g2] at this
     exact absurd this (by decide)
    | cons y l =>
     obtain ⟨y', r2, g1, g2, _⟩ := List.map_eq_cons_iff.1 e3
     rw [g1]
     intro h9
     have : (strip y').1 = 9 := h9
     rw [g2] at this
     exact (h3 y (by simp)).2 this
   have hr' : ¬ (r'.headD .zero).kind = 9 := by
    cases init with
    | nil =>
     obtain ⟨y, r2, g1, g2, _⟩ := List.map_eq_cons_iff.1 f3
     rw [g1]
     intro h9
     have : (strip y).1 = 9 := h9
     rw [g2] at this
     exact hc this
    | cons y l =>
     obtain ⟨y', r2, g1, g2, _⟩ := List.map_eq_cons_iff.1 f3
     rw [g1]
     intro h9
     have : (strip y').1 = 9 := h9
     rw [g2] at this
     exact (h3 y (by simp)).2 this
   rw [e1, f1, next_step hr, next_step hr']
   exact ⟨rfl, rfl, hh, init, e3, f3, fun y hy => h3 y (List.mem_cons_of_mem _ hy)⟩
theorem Sim.at (hs : Sim c tl s t) (hc : c.1 ≠ 9) (hk : s.w.kind ≠ 0) : t.w.kind = s.w.kind ∧ t.w.text = s.w.text ∧ t.w.int = s.w.int := by
 rcases hs.split hc with ⟨h, _⟩ | ⟨_, h, _⟩
 ·exact absurd h hk
 ·have h1 := congrArg Prod.fst h
  have h2 := congrArg (fun x : Wd => x.2.1) h
  have h3 := congrArg (fun x : Wd => x.2.2) h
  exact ⟨h1, h2, h3⟩
theorem Sim.next (hs : Sim c tl s t) (hc : c.1 ≠ 9) (hk : s.w.kind ≠ 0) : Sim c tl (nextP s) (nextP t) := by
 rcases hs.split hc with ⟨h, _⟩ | ⟨_, _, h⟩
 ·exact absurd h hk
 ·have := h s.o t.o
  obtain ⟨a, e, o, b⟩ := s
  obtain ⟨a', e', o', b'⟩ := t
  obtain rfl : e = 0 := hs.se
  obtain rfl : e' = 0 := hs.te
  exact this
theorem Sim.is (hs : Sim c tl s t) (hc : c.1 ≠ 9) (hk : s.w.kind ≠ 0) (T : List UInt8) : isP t T = isP s T := by
 obtain ⟨h1, h2, _⟩ := hs.at hc hk
 unfold isP
 rw [h1, h2, hs.se, hs.te]
theorem bump_ways {s : Ps} (he : s.e = 0) (T : List UInt8) : (∃ o, bumpP s T = ⟨s.ws, 0, o, s.h⟩) ∨ (bumpP s T).e = 51 := by
 obtain ⟨a, e, o, b⟩ := s
 obtain rfl : e = 0 := he
 unfold bumpP failP
 split
 ·split
  ·exact .inr rfl
  ·exact .inl ⟨_, rfl⟩
 ·split
  ·exact .inl ⟨_, rfl⟩
  ·exact .inl ⟨_, rfl⟩
theorem next_off {s : Ps} (h : ¬ s.e = 0) : nextP s = s := if_neg h
end
structure Cl (c : Wd) : Prop where
 k : c.1 ≠ 9
 t : c.2.1 = [41] ∨ c.2.1 = [125] ∨ c.2.1 = []
section
variable {c : Wd} {tl : List Wd} {s t : Ps}
theorem Res.no {α β : Type} {p : α × Ps} {f : α → Ps → β × Ps} {q : β × Ps} (h : ¬ p.2.e = 0) (hf : ∀ x s, Dn s (f x s).2) : Res c tl (Proofs.YtkgbbcnjkojocaaGreatDoor.bndP p f) q := Res.dead fun h0 => h ((hf p.1 p.2).zero h0)
variable {n : Nat} {E : EP}
end
section
variable {c : Wd} {tl : List Wd} {s t : Ps} {n : Nat} {E : EP}
theorem pst_eq (E : EP) (m : Nat) (x : ExT) (s : Ps) : pstL E (m + 1) x s = if ¬ s.e = 0 then (x, s) else bndP (gotP s [46]) fun b s1 => if b = true then bndP (nameP s1) fun t s2 => pstL E m (.mk 9 t 0 noT [] [x]) s2
 else bndP (gotP s1 [91]) fun b s2 => if b = true then bndP (E s2) fun y s3 => bndP (gotP s3 [58]) fun b s4 => if b = true then bndP (E s4) fun z s5 => bndP ((), wantP s5 [93]) fun _ s6 => pstL E m (.mk 11 [] 0 noT [] [x, y, z]) s6
  else bndP ((), wantP s4 [93]) fun _ s5 => pstL E m (.mk 10 [] 0 noT [] [x, y]) s5 else (x, s2) := by
 conv => lhs; unfold pstL
 split
 ·rfl
 unfold Proofs.YtkgbbcnjkojocaaGreatDoor.bndP
 rcases hg : gotP s [46] with ⟨_ | _, s1⟩
 ·obtain rfl := got_no hg
  simp only [Bool.false_eq_true, if_false]
  rcases hg2 : gotP s1 [91] with ⟨_ | _, s2⟩
  ·obtain rfl := got_no hg2
   rfl
  ·dsimp only
   rcases E s2 with ⟨y, s3⟩
   dsimp only
   rcases gotP s3 [58] with ⟨_ | _, s4⟩ <;> rfl
 ·rfl
end
def Nine (s : Ps) : Prop := ∃ init : List Wd, s.ws.map strip = init ++ [(9, [], 0)] ∧ ∀ x ∈ init, x.1 ≠ 0 ∧ x.1 ≠ 9
def Nn {α : Type} (p : α × Ps) : Prop := p.2.e = 0 → Nine p.2
theorem Nn.pure {α : Type} {s : Ps} (h : Nine s) (x : α) : Nn (x, s) := fun _ => h
theorem Nn.bndP {α β : Type} {p : α × Ps} {f : α → Ps → β × Ps} (h : Nn p) (hf : ∀ x s, Dn s (f x s).2) (hk : ∀ x s, Nine s → Nn (f x s)) : Nn (bndP p f) := fun h0 => hk _ _ (h ((hf _ _).zero h0)) h0
variable {E : EP}
structure At (s : Ps) (l : List Wd) : Prop where
 e : s.e = 0
 ws : s.ws.map strip = l
theorem At.w {s : Ps} {x : Wd} {l : List Wd} (h : At s (x :: l)) : strip s.w = x := by
 obtain ⟨w, r, e1, e2, _⟩ := List.map_eq_cons_iff.1 h.ws
 unfold Ps.w
 rw [e1]
 exact e2
theorem At.kind {s : Ps} {x : Wd} {l : List Wd} (h : At s (x :: l)) : s.w.kind = x.1 ∧ s.w.text = x.2.1 := ⟨congrArg Prod.fst h.w, congrArg (fun x : Wd => x.2.1) h.w⟩
theorem At.next {s : Ps} {x y : Wd} {l : List Wd} (h : At s (x :: y :: l)) (hy : y.1 ≠ 9) : At (nextP s) (y :: l) := by
 obtain ⟨w, r, e1, e2, e3⟩ := List.map_eq_cons_iff.1 h.ws
 obtain ⟨w2, r2, g1, g2, g3⟩ := List.map_eq_cons_iff.1 e3
 obtain ⟨a, e, o, b⟩ := s
 obtain rfl : e = 0 := h.e
 obtain rfl : a = w :: r := e1
 rw [next_step (by rw [g1]; intro h9; exact hy (by rw [← g2]; exact h9))]
 exact ⟨rfl, e3⟩
theorem At.take {s : Ps} {x y : Wd} {l : List Wd} (h : At s (x :: y :: l)) (hy : y.1 ≠ 9) (T : List UInt8) : At (nextP (bumpP s T)) (y :: l) ∨ (nextP (bumpP s T)).e = 51 := by
 rcases bump_ways h.e T with ⟨o, h1⟩ | h1
 ·rw [h1]
  exact .inl (At.next (s := ⟨s.ws, 0, o, s.h⟩) ⟨rfl, h.ws⟩ hy)
 ·exact .inr (by rw [next_off (by omega)]; exact h1)
theorem At.is {s : Ps} {x : Wd} {l : List Wd} (h : At s (x :: l)) (T : List UInt8) : isP s T = ((decide (x.1 = 3) || decide (x.1 = 4)) && decide (x.2.1 = T)) := by
 unfold isP
 rw [h.e, h.kind.1, h.kind.2]
 simp
theorem next_h (s : Ps) : (nextP s).h = s.h := by
 unfold nextP
 split
 ·split <;> rfl
 ·rfl
theorem Cl.rank {c : Wd} (hc : Cl c) : rankS c.2.1 = 0 := by
 rcases hc.t with e | e | e <;> rw [e] <;> decide
structure AtO (s : Ps) (l : List Wd) (o : Int) : Prop where
 at' : At s l
 h : s.h = false
 o : s.o = o
section
variable {s : Ps} {x y : Wd} {l : List Wd} {o : Int}
theorem AtO.next (h : AtO s (x :: y :: l) o) (hy : y.1 ≠ 9) : AtO (nextP s) (y :: l) o := by
 refine ⟨h.at'.next hy, by rw [next_h, h.h], ?_⟩
 rw [← h.o]
 unfold nextP
 split
 ·split <;> rfl
 ·rfl
theorem AtO.no (h : AtO s (x :: l) o) {T : List UInt8} (hT : ((decide (x.1 = 3) || decide (x.1 = 4)) && decide (x.2.1 = T)) = false) : gotP s T = (false, s) := by
 unfold gotP
 rw [h.at'.is, hT]
 rfl
theorem AtO.name {t : List UInt8} {i : Nat} (h : AtO s ((1, t, i) :: y :: l) o) (hy : y.1 ≠ 9) : ∃ s', nameP s = (t, s') ∧ AtO s' (y :: l) o := by
 refine ⟨nextP s, ?_, h.next hy⟩
 unfold nameP
 rw [if_pos ⟨h.at'.e, h.at'.kind.1⟩, h.at'.kind.2]
end
def isW (c : Wd) (T : List UInt8) : Bool := (decide (c.1 = 3) || decide (c.1 = 4)) && decide (c.2.1 = T)
structure Bf (s : Ps) (l : List Wd) (o : Int) (h : Bool) : Prop where
 at' : At s l
 o : s.o = o
 h : s.h = h
section
variable {s : Ps} {x y : Wd} {l : List Wd} {o : Int} {h : Bool}
theorem Bf.mu (b : Bf s l o h) : mu s = l.length := by
 rw [mu_live b.at'.e, ← b.at'.ws, List.length_map]
theorem Bf.next (b : Bf s (x :: y :: l) o h) (hy : y.1 ≠ 9) : Bf (nextP s) (y :: l) o h := by
 refine ⟨b.at'.next hy, ?_, by rw [next_h, b.h]⟩
 rw [← b.o]
 unfold nextP
 split
 ·split <;> rfl
 ·rfl
theorem Bf.is (b : Bf s (x :: l) o h) (T : List UInt8) : isP s T = isW x T := b.at'.is T
theorem Bf.no (b : Bf s (x :: l) o h) {T : List UInt8} (hT : isW x T = false) : gotP s T = (false, s) := by
 unfold gotP
 rw [b.is, hT]
 rfl
theorem Bf.name {t : List UInt8} {i : Nat} (b : Bf s ((1, t, i) :: y :: l) o h) (hy : y.1 ≠ 9) : ∃ s', nameP s = (t, s') ∧ Bf s' (y :: l) o h := by
 refine ⟨nextP s, ?_, b.next hy⟩
 unfold nameP
 rw [if_pos ⟨b.at'.e, b.at'.kind.1⟩, b.at'.kind.2]
end
structure Fol (k : Nat) (h : Bool) (c : Wd) : Prop where
 n9 : c.1 ≠ 9
 dot : isW c [46] = false
 bra : isW c [91] = false
 par : isW c [40] = false
 cur : h = false → isW c [123] = false
 rk : c.1 = 3 → rankS c.2.1 < 6 - (k : Int)
theorem Fol.to {k j : Nat} {h : Bool} {c : Wd} (f : Fol k h c) (hj : j ≤ k) : Fol j h c := ⟨f.n9, f.dot, f.bra, f.par, f.cur, fun h3 => by have := f.rk h3; omega⟩
section
variable {E : EP} {n : Nat}
end
def keyW (x : Wd) : Bool := isW x [116, 114, 117, 101] || isW x [102, 97, 108, 115, 101] || isW x [108, 101, 110] || isW x [97, 112, 112, 101, 110, 100] || (decide (x.1 = 4) && decide (1 < kndS x.2.1))
section
variable {s : Ps} {x : Wd} {l tl : List Wd} {o : Int} {h : Bool} {E : EP} {n : Nat} {c : Wd}
theorem Bf.key (b : Bf s (x :: l) o h) : keyB s = keyW x := by
 unfold keyB keyW
 rw [b.is, b.is, b.is, b.is, b.at'.kind.1, b.at'.kind.2]
end
section
variable {E : EP} {n : Nat} {s : Ps} {c : Wd} {tl : List Wd} {o : Int} {h : Bool}
theorem Bf.pend (b : Bf s (c :: tl) o h) (h1 : isW c [46] = false) (h2 : isW c [91] = false) (m : Nat) (y : ExT) : pstL E m y s = (y, s) := by
 cases m with
 | zero => rfl
 | succ m =>
  rw [pst_eq, if_neg (by rw [b.at'.e]; simp)]
  unfold bndP
  rw [b.no h1]
  dsimp only
  rw [if_neg (by decide), b.no h2]
  rfl
end
section
variable {E : EP} {S : SP} {n : Nat}
theorem Bf.num {s : Ps} {t : List UInt8} {i : Nat} {y : Wd} {l : List Wd} {o : Int} {h : Bool} (b : Bf s ((2, t, i) :: y :: l) o h) (hy : y.1 ≠ 9) : ∃ s', numP s = ((i : Int), s') ∧ Bf s' (y :: l) o h := by
 refine ⟨nextP s, ?_, b.next hy⟩
 unfold numP
 rw [if_pos ⟨b.at'.e, b.at'.kind.1⟩, show s.w.int = i from congrArg (fun x : Wd => x.2.2) b.at'.w]
end
def topS (k : Int) : Int := if k = 2 then 255 else if k = 3 then 2147483647 else if k = 4 then 9223372036854775807 else if k = 5 then 4294967295 else if k = 6 then 18446744073709551615 else 0
def setType : ExT → TyT → ExT
 | .mk k t i _ ns ks, ty => .mk k t i ty ns ks
def setKids : ExT → List ExT → ExT
 | .mk k t i ty ns _, ks => .mk k t i ty ns ks
def plainS (x : ExT) (want : TyT) : Option (ExT × TyT) :=
 if x.kind = 5 then (match x.kids with
  | y :: ks => if (want.kind = 3 ∨ want.kind = 4) ∧ y.int ≤ topS want.kind + 1 then some (setKids x (setType y want :: ks), want) else none
  | [] => none)
 else if topS want.kind = 0 ∨ topS want.kind < x.int then none else some (setType x want, want)
def shift (t : List UInt8) : Bool := t == [60, 60] || t == [62, 62]
def alike (t : List UInt8) : Bool := t == [61, 61] || t == [33, 61]
def order (t : List UInt8) : Bool := t == [60] || t == [60, 61] || t == [62] || t == [62, 61]
end Go.Proofs.YtkgbbcnjkojocaaGreatDoor
namespace Go.Proofs.YtkgbbcnjkojocaaGreatDoor
open Go.RowKit Go.Av Go.Ab
set_option linter.unusedSimpArgs false
set_option maxRecDepth 100000
set_option linter.defProp false
def b10 := KB Tryz.func10 46
theorem ret1 {I : Inv} {z : Nat × Nat} {fn : FuncId} {R : V → Mem → Prop} {k : List Item} {env : List V} {S : Mem} {P : Program} {f : Func} {v : V} {a : Nat} {t : TypeId} (hf : P.funcs[fn]? = some f) (hr : f.results.toList = [.cell a t]) (h1 : opLoad P S t (env.getD a .undef) = some v) (hR : R v S) : ARun P I z fn (.code .ret :: k) env S R :=
 ARun.ret hf (by rw [hr]; exact h1) hR
theorem ret2 {I : Inv} {z : Nat × Nat} {fn : FuncId} {R : V → Mem → Prop} {k : List Item} {env : List V} {S : Mem} {P : Program} {f : Func} {v u : V} {a b : Nat} {t : TypeId} (hf : P.funcs[fn]? = some f) (hr : f.results.toList = [.cell a t, .tmp b]) (h1 : opLoad P S t (env.getD a .undef) = some v) (h2 : env.getD b .undef = u) (hR : R (.tup [v, u]) S) : ARun P I z fn (.code .ret :: k) env S R :=
 ARun.ret hf (by rw [hr]; simp only [resV, resV1, h1, h2]) hR
theorem ret1A {I : Inv} {z : Nat × Nat} {fn : FuncId} {R : V → Mem → Prop} {k : List Item} {env : List V} {S : Mem} {P : Program} {f : Func} {n : Nat} {Q : Prop} {v : V} {a : Nat} {t : TypeId} (b : FnIs P fn f n ∧ Q) (hR : R v S) (hr : f.results.toList = [.cell a t] := by exact rfl) (h1 : opLoad P S t (env.getD a .undef) = some v := by (first | simp only [W, seval, hn] | simp only [W, seval] | skip); exact rfl) : ARun P I z fn (.code .ret :: k) env S R := ret1 b.1.1 hr h1 hR
theorem ret2A {I : Inv} {z : Nat × Nat} {fn : FuncId} {R : V → Mem → Prop} {k : List Item} {env : List V} {S : Mem} {P : Program} {f : Func} {n : Nat} {Q : Prop} {v u : V} {a c : Nat} {t : TypeId} (b : FnIs P fn f n ∧ Q) (hR : R (.tup [v, u]) S) (hr : f.results.toList = [.cell a t, .tmp c] := by exact rfl) (h1 : opLoad P S t (env.getD a .undef) = some v := by (first | simp only [W, seval, hn] | simp only [W, seval] | skip); exact rfl) (h2 : env.getD c .undef = u := by (first | simp only [W, seval, hn] | simp only [W, seval] | skip); exact rfl) : ARun P I z fn (.code .ret :: k) env S R := ret2 b.1.1 hr h1 h2 hR
set_option linter.unusedVariables false
def b68 := KB Tryz.func68 38
def b46 := KB Tryz.func46 7
def b22 := KB Tryz.func22 9
theorem textO {P : Program} {I : Inv} {g : FuncId} {f : Func} {r : List UInt8 → List UInt8} {n : Nat} (hf : P.funcs[g]? = some f) (hb : f.body.isSome = true) (hn : (f.name == "runtime.NumGoroutine") = false)
 (h : ∀ (s : ByteArray) (w : World), s.size ≤ n → Calls P g #[.string s] w (Texts (r s.data.toList) w)) (s : List UInt8) (hs : s.length ≤ n) (hr : (r s).length ≤ 9223372036854775807) (S : Mem) : AFn P I g [.d (.str s)] S (Same (.d (.str (r s))) S) := by
 refine AFn.of_calls hf hb hn fun c w xs h1 h2 h3 hI => ?_
 have hv := h2 0 (by simp)
 obtain ⟨x, rfl⟩ : ∃ x, xs = #[x] := ⟨xs[0]'(by simp at h1; omega), by apply Array.ext <;> simp_all⟩
 simp at hv
 cases hv with
 | d _ _ hv => cases hv with
  | str _ hl =>
   refine (h ⟨s.toArray⟩ w (by simpa [ByteArray.size] using hs)).mono ?_
   rintro e w' ⟨rfl, hb⟩
   exact ⟨_, _, rfl, ⟨rfl, rfl⟩, hb, .d _ _ (.str _ hr)⟩
theorem textN {P : Program} {I : Inv} {g : FuncId} {f : Func} {r : List UInt8 → Int → List UInt8} {n : Nat} (hf : P.funcs[g]? = some f) (hb : f.body.isSome = true) (hn : (f.name == "runtime.NumGoroutine") = false)
 (h : ∀ (s : ByteArray) (i : Int) (w : World), i ≤ 9223372036854775807 → s.size ≤ n → Calls P g #[.string s, .int .i64 i] w (Texts (r s.data.toList i) w)) (s : List UInt8) (i : Int) (hi : i ≤ 9223372036854775807) (hs : s.length ≤ n) (hr : (r s i).length ≤ 9223372036854775807) (S : Mem) : AFn P I g [.d (.str s), .d (.int .i64 i)] S (Same (.d (.str (r s i))) S) := by
 refine AFn.of_calls hf hb hn fun c w xs h1 h2 h3 hI => ?_
 have hv := h2 0 (by simp)
 have hu := h2 1 (by simp)
 obtain ⟨x, y, rfl⟩ : ∃ x y, xs = #[x, y] := ⟨xs[0]'(by simp at h1; omega), xs[1]'(by simp at h1; omega), by
  simp at h1
  apply Array.ext
  ·simp [h1]
  ·intro j hj _
   have : j = 0 ∨ j = 1 := by omega
   rcases this with rfl | rfl <;> simp⟩
 simp at hv hu
 cases hv with
 | d _ _ hv => cases hv with
  | str _ hl => cases hu with
   | d _ _ hu => cases hu with
    | int _ _ =>
     refine (h ⟨s.toArray⟩ i w hi (by simpa [ByteArray.size] using hs)).mono ?_
     rintro e w' ⟨rfl, hb⟩
     exact ⟨_, _, rfl, ⟨rfl, rfl⟩, hb, .d _ _ (.str _ hr)⟩
def numL (p : List UInt8) (i : Nat) : List UInt8 := p ++ decI i
theorem numL_length (p : List UInt8) (i : Nat) : (numL p i).length ≤ p.length + 20 := by
 have := decI_length i
 unfold numL
 rw [List.length_append]
 omega
theorem mname_ab (s : List UInt8) (hs : s.length ≤ 2500) (S : Mem) : AFn Tryz.prog TabI 43 [.d (.str s)] S (Same (.d (.str (nameL s))) S) :=
 textO (n := 1099511627) Tryz.func43 rfl (by kernel_rfl) (fun s w hs => mName s w hs) s (by omega) (by have := nameL_length s; omega) S
theorem rname_ab (s : List UInt8) (hs : s.length ≤ 2500) (S : Mem) : AFn Tryz.prog TabI 20 [.d (.str s)] S (Same (.d (.str (nameL s))) S) :=
 textO (n := 1099511627) Tryz.func20 rfl (by kernel_rfl) (fun s w hs => rName s w hs) s (by omega) (by have := nameL_length s; omega) S
theorem mnum_ab (s : List UInt8) (hs : s.length ≤ 2500) (i : Nat) (hi : i ≤ 2500) (S : Mem) : AFn Tryz.prog TabI 44 [.d (.str s), .d (.int .i64 i)] S (Same (.d (.str (numL s i))) S) :=
 textN (r := fun s i => s ++ decI i) (n := 1099511627776) Tryz.func44 rfl (by kernel_rfl) (fun s i w hi hs => mNumber s i w hi hs) s i (by omega) (by omega) (by have := numL_length s i; unfold numL at this; omega) S
set_option maxHeartbeats 1000000 in
theorem num8_ab (n : Nat) (hn : n ≤ 2500) (S : Mem) : AFn Tryz.prog TabI 68 [.d (.int .i64 n)] S (Same (.d (.str (dec n))) S) := by
 refine AFn.same ?_ (by simp [wkL, wk]) (by simp [wk]) S
 obtain ⟨a, ha⟩ : ∃ a, dec n = a := ⟨_, rfl⟩
 rw [ha]
 have hn10 : ¬ (10 : Int) = 0 := by omega
 have hu : ∀ z : Int, 0 ≤ z → z ≤ 18446744073709551615 → IntKind.u64.wrap z = z := fun z hz1 hz2 => by
  unfold IntKind.wrap
  simp [IntKind.signed, IntKind.bits]
  omega
 have e0 : decide ((n : Int) < 0) = false := decide_eq_false (by omega)
 have w0 := hu (n : Int) (by omega) (by omega)
 refine b68.1.go 40 rfl fun hsm => ?_
 simp only [smw] at hsm
 simp only [W, seval, b68, e0, w0]
 refine ARun.loopW (fun p : Nat × List UInt8 => (envS 38 [(0, .d (.int .i64 (n : Int))), (4, .d (.int .u64 (p.1 : Int))), (3, .d (.str p.2))], ⟨[], []⟩)) (fun p => p.1 ≤ 2500 ∧ ∃ f, p.1 < 10 ^ (f + 1) ∧ p.2.length + f ≤ 20 ∧ (decRev (f + 1) p.1).reverse ++ p.2 = a) (fun p => p.1) (n, []) ⟨by dsimp only; omega, 19, by dsimp only; omega, by simp, by rw [List.append_nil]; exact ha⟩ envA rfl ?_
 rintro ⟨m, s⟩ ⟨g0, f, g1, g2, g3⟩ ih
 dsimp only at g0 g1 g2 g3 ih ⊢
 have k1 : 1 + s.length ≤ 9223372036854775807 := by omega
 have hfb : ∀ r : Nat, r < 10 → IntKind.u8.wrap (48 + (r : Int)) = ((UInt8.ofNat (48 + r)).toNat : Int) := fun r hr => by
  have h2 : (UInt8.ofNat (48 + r)).toNat = 48 + r := by simp; omega
  rw [h2]
  unfold IntKind.wrap
  simp [IntKind.signed, IntKind.bits]
  omega
 have hby : ∀ b : UInt8, fromBytes [[D.int .u8 (b.toNat : Int)]] = some [b] := fun b => fromBytes_map [b]
 by_cases hlt : 10 ≤ m
 case neg =>
  have e1 : decide ((10 : Int) ≤ (m : Int)) = false := decide_eq_false (by omega)
  rw [decRev_last f m (by omega)] at g3
  have w1 := hu (48 + (m : Int)) (by omega) (by omega)
  have w2 := hfb m (by omega)
  generalize UInt8.ofNat (48 + m) = b at g3 w2
  refine goN ?_
  simp only [W, seval, b68, e1, e0, w1, w2, hby, k1, mapX_nil, mapX_cons]
  refine retN b68 (Left.empty ?_)
  rw [← g3]
  exact ⟨rfl, rfl⟩
 have e1 : decide ((10 : Int) ≤ (m : Int)) = true := decide_eq_true (by omega)
 obtain ⟨f, rfl⟩ : ∃ g, f = g + 1 := ⟨f - 1, by
  cases f
  ·simp at g1; omega
  ·rfl⟩
 rw [decRev_step (f + 1) m (by omega), List.reverse_cons, List.append_assoc] at g3
 have w0 : (m : Int).tmod 10 = ((m % 10 : Nat) : Int) := by rw [Int.tmod_eq_emod_of_nonneg (by omega)]; omega
 have w3 : IntKind.u64.wrap ((m : Int).tdiv 10) = ((m / 10 : Nat) : Int) := by rw [Int.tdiv_eq_ediv_of_nonneg (by omega), hu _ (by omega) (by omega)]; omega
 obtain ⟨r, hr⟩ : ∃ r, m % 10 = r := ⟨_, rfl⟩
 obtain ⟨d, hd⟩ : ∃ d, m / 10 = d := ⟨_, rfl⟩
 rw [hr] at g3 w0
 rw [hd] at g3 w3
 have w1 := hu (48 + (r : Int)) (by omega) (by omega)
 have w2 := hfb r (by omega)
 generalize UInt8.ofNat (48 + r) = b at g3 w2
 refine goN ?_
 simp only [W, seval, b68, e1, w0, w1, w2, w3, hby, k1, hn10, mapX_nil, mapX_cons]
 refine ih (d, b :: s) ⟨by dsimp only; omega, f, ?_, by simp; omega, g3⟩ (by dsimp only; omega) _ _ ?_ rfl
 ·dsimp only
  rw [Nat.pow_succ] at g1
  omega
 ·skip
  refine Agree.env _ ?_
  simp only [agw, seval]
theorem rnum_ab (s : List UInt8) (hs : s.length ≤ 2500) (i : Nat) (hi : i ≤ 2500) (S : Mem) : AFn Tryz.prog TabI 22 [.d (.str s), .d (.int .i64 i)] S (Same (.d (.str (numL s i))) S) := by
 refine AFn.same ?_ (by simp [wkL, wk]) (by simp [wk]) S
 have hd : AFn Tryz.prog TabI 46 [.d (.int .i64 i)] ⟨[], []⟩ (Same (.d (.str (dec i))) ⟨[], []⟩) := by
  have e0 : decide ((i : Int) < 0) = false := decide_eq_false (by omega)
  refine enS b46 fun hsm => ?_
  simp only [smw] at hsm
  simp only [W, seval, b46, e0]
  refine callN (num8_ab i hi _) ?_
  refine goN ?_
  simp only [W, seval, b46]
  refine retN b46 (Left.empty ?_)
  exact ⟨rfl, rfl⟩
 have hl := dec_length i
 have hk : s.length + (dec i).length ≤ 9223372036854775807 := by omega
 have e : numL s i = s ++ dec i := by
  unfold numL decI
  rw [if_neg (by omega)]
  rfl
 rw [e]
 refine enS b22 fun hsm => ?_
 simp only [smw] at hsm
 simp only [W, seval, b22]
 refine callN (hd) ?_
 refine goN ?_
 simp only [W, seval, b22, hk]
 refine retN b22 (Left.empty ?_)
 exact ⟨rfl, rfl⟩
def b26 := KB Tryz.func26 43
def b27 := KB Tryz.func27 94
def b12 := KB Tryz.func12 142
def b4 := KB Tryz.func4 6
theorem ssD_at {l : List (List UInt8)} {i : Nat} (h : i < l.length) : (ssD l)[i]? = some [.str l[i]] := by simp [ssD, h]
theorem ssD_len (l : List (List UInt8)) : (ssD l).length = l.length := by simp [ssD]
set_option maxHeartbeats 4000000 in
theorem texts_few (l : List (List UInt8)) (B : List (List V)) (T : List (Nat × Nat)) : AFn Tryz.prog TabI 26 [.d (.sl (ssD l)), .d (.int .i64 2500)] ⟨B, T⟩ fun v S => ∃ r : Int, v = .d (.int .i64 r) ∧ 0 ≤ r ∧ r ≤ 5000 ∧ (r ≤ 2500 → l.length ≤ 2500) ∧ S = ⟨B, T⟩ := by
 have hll := ssD_len l
 by_cases hbig : l.length ≤ 2500
 case neg =>
  have e1 : decide ((2500 : Int) < (l.length : Int)) = true := decide_eq_true (by omega)
  refine enS b26 fun hsm => ?_
  simp only [smw] at hsm
  simp only [W, seval, b26, hll, e1]
  refine retN b26 (Left.none ?_)
  exact ⟨_, rfl, by decide, by decide, fun h => absurd h (by decide), rfl⟩
 have e1 : decide ((2500 : Int) < (l.length : Int)) = false := decide_eq_false (by omega)
 refine enS b26 fun hsm => ?_
 simp only [smw] at hsm
 simp only [W, seval, b26, hll, e1]
 refine ARun.loopW (fun a : Nat × Int => (envS 43 [(0, .d (.sl (ssD l))), (1, .d (.int .i64 2500)), (5, .d (.int .i64 a.2)), (6, .d (.int .i64 (a.1 : Int)))], ⟨B, T⟩)) (fun a => a.1 ≤ l.length ∧ 0 ≤ a.2 ∧ a.2 ≤ 5000) (fun a => l.length - a.1) (0, (l.length : Int)) ⟨by omega, by omega, by dsimp only; omega⟩ ?_ rfl ?_
 ·skip
  refine Agree.env _ ?_
  simp only [agw, seval, hll]
 rintro ⟨i, q⟩ ⟨h1, h2, h3⟩ ih
 dsimp only at h1 h2 h3 ih ⊢
 by_cases hlt : i < l.length
 case neg =>
  have e2 : decide ((i : Int) < (l.length : Int)) = false := decide_eq_false (by omega)
  refine goN ?_
  simp only [W, seval, b26, hll, e2]
  refine retN b26 (Left.none ?_)
  exact ⟨_, rfl, h2, h3, fun _ => hbig, rfl⟩
 have e2 : decide ((i : Int) < (l.length : Int)) = true := decide_eq_true (by omega)
 have hw := wrap_in ((i : Int) + 1) (by omega)
 have hg := ssD_at hlt
 by_cases hq : q ≤ 2500
 case neg =>
  have e3 : decide (q ≤ (2500 : Int)) = false := decide_eq_false hq
  refine goN ?_
  simp only [W, seval, b26, hll, e2, e3]
  refine retN b26 (Left.none ?_)
  exact ⟨_, rfl, h2, h3, fun _ => hbig, rfl⟩
 have e3 : decide (q ≤ (2500 : Int)) = true := decide_eq_true hq
 by_cases hs : l[i].length ≤ 2500
 case neg =>
  have e4 : decide ((2500 : Int) < (l[i].length : Int)) = true := decide_eq_true (by omega)
  refine goN ?_
  simp only [W, seval, b26, hll, e2, e3, hg, e4]
  refine retN b26 (Left.none ?_)
  exact ⟨_, rfl, by decide, by decide, fun h => absurd h (by decide), rfl⟩
 have e4 : decide ((2500 : Int) < (l[i].length : Int)) = false := decide_eq_false (by omega)
 have hw2 := wrap_in (q + (l[i].length : Int)) (by omega)
 refine goN ?_
 simp only [W, seval, b26, hll, e2, e3, hg, e4, hw, hw2]
 exact ih (i + 1, q + (l[i].length : Int)) ⟨by omega, by dsimp only; omega, by dsimp only; omega⟩ (by dsimp only; omega) _ _ envA rfl
mutual
def SmK : JsT → Prop
 | .mk _ _ t l ks => t.length ≤ 2500 ∧ (∀ k ∈ ks, k.length ≤ 2500) ∧ ks.length ≤ 2500 ∧ l.length ≤ 2500 ∧ SmKs l
def SmKs : List JsT → Prop
 | [] => True
 | x :: l => SmK x ∧ SmKs l
end
theorem smKs_iff : ∀ l : List JsT, SmKs l ↔ ∀ x ∈ l, SmK x
 | [] => by simp [SmKs]
 | x :: l => by simp [SmKs, smKs_iff l]
theorem smK_iff (j : JsT) : SmK j ↔ j.text.length ≤ 2500 ∧ (∀ k ∈ j.keys, k.length ≤ 2500) ∧ j.keys.length ≤ 2500 ∧ j.items.length ≤ 2500 ∧ ∀ x ∈ j.items, SmK x := by
 cases j
 rw [SmK, smKs_iff]
 rfl
def SmJ (j : JsT) : Prop := SmK j ∧ deepJ j ≤ 61
theorem deepJs_le {n : Nat} : ∀ l : List JsT, (∀ x ∈ l, deepJ x ≤ n) → deepJs l ≤ n
 | [], _ => Nat.zero_le _
 | x :: l, h => by
  rw [deepJs]
  exact Nat.max_le.2 ⟨h x List.mem_cons_self, deepJs_le l fun y hy => h y (List.mem_cons_of_mem _ hy)⟩
theorem deepJ_le {n : Nat} (j : JsT) (h : ∀ x ∈ j.items, deepJ x ≤ n) : deepJ j ≤ n + 1 := by
 cases j with
 | mk k i t l ks =>
  have := deepJs_le (n := n) l h
  rw [deepJ]
  split <;> omega
def BkJ (j : JsT) : Prop := ∀ (d : Int), 0 ≤ d → d ≤ 61 → ∀ (B : List (List V)) (T : List (Nat × Nat)), AFn Tryz.prog TabI 27 [jsV j, .d (.int .i64 2500), .d (.int .i64 d)] ⟨B, T⟩ fun v S => ∃ r : Int, v = .d (.int .i64 r) ∧ 1 ≤ r ∧ r ≤ (62 - d) * 6000 ∧ (r ≤ 2500 → SmK j ∧ (deepJ j : Int) + d ≤ 61) ∧ S = ⟨B, T⟩
def jsB (j : JsT) : List V := [.d (.int .i64 j.kind), .d (.int .i64 j.int), .d (.str j.text), .d (.sl (j.items.map jsD)), .d (.sl (ssD j.keys))]
set_option maxHeartbeats 8000000 in
theorem bkJ_step (j : JsT) (h : ∀ x ∈ j.items, BkJ x) : BkJ j := by
 intro d hd0 hd1 B T
 obtain ⟨N, hn⟩ : ∃ N, B.length = N := ⟨_, rfl⟩
 have hll := ssD_len j.keys
 unfold jsV
 by_cases hdd : d ≤ 60
 case neg =>
  have e1 : decide ((60 : Int) < d) = true := decide_eq_true (by omega)
  refine enS b27 fun hsm => ?_
  simp only [smw] at hsm
  simp only [W, seval, b27, hn, e1]
  refine retN b27 (Left.box ?_)
  exact ⟨2501, rfl, by decide, by omega, fun h => absurd h (by decide), rfl⟩
 have e1 : decide ((60 : Int) < d) = false := decide_eq_false (by omega)
 have hbig : ∀ r : Int, r = 2501 → 1 ≤ r ∧ r ≤ (62 - d) * 6000 ∧ (r ≤ 2500 → SmK j ∧ (deepJ j : Int) + d ≤ 61) := fun r hr => ⟨by omega, by omega, fun h => by omega⟩
 by_cases h1 : j.text.length ≤ 2500
 case neg =>
  have e2 : decide ((2500 : Int) < (j.text.length : Int)) = true := decide_eq_true (by omega)
  refine enS b27 fun hsm => ?_
  simp only [smw] at hsm
  simp only [W, seval, b27, hn, e1, e2]
  refine retN b27 (Left.box ?_)
  exact ⟨2501, rfl, (hbig _ rfl).1, (hbig _ rfl).2.1, (hbig _ rfl).2.2, rfl⟩
 have e2 : decide ((2500 : Int) < (j.text.length : Int)) = false := decide_eq_false (by omega)
 by_cases h2 : j.keys.length ≤ 2500
 case neg =>
  have e3 : decide ((2500 : Int) < (j.keys.length : Int)) = true := decide_eq_true (by omega)
  refine enS b27 fun hsm => ?_
  simp only [smw] at hsm
  simp only [W, seval, b27, hn, hll, e1, e2, e3]
  refine retN b27 (Left.box ?_)
  exact ⟨2501, rfl, (hbig _ rfl).1, (hbig _ rfl).2.1, (hbig _ rfl).2.2, rfl⟩
 have e3 : decide ((2500 : Int) < (j.keys.length : Int)) = false := decide_eq_false (by omega)
 by_cases h3 : j.items.length ≤ 2500
 case neg =>
  have e4 : decide ((2500 : Int) < (j.items.length : Int)) = true := decide_eq_true (by omega)
  refine enS b27 fun hsm => ?_
  simp only [smw] at hsm
  simp only [W, seval, b27, hn, hll, e1, e2, e3, e4]
  refine retN b27 (Left.box ?_)
  exact ⟨2501, rfl, (hbig _ rfl).1, (hbig _ rfl).2.1, (hbig _ rfl).2.2, rfl⟩
 have e4 : decide ((2500 : Int) < (j.items.length : Int)) = false := decide_eq_false (by omega)
 have hw0 := wrap_in ((1 : Int) + (j.text.length : Int)) (by omega)
 refine enS b27 fun hsm => ?_
 simp only [smw] at hsm
 simp only [W, seval, b27, hn, hll, e1, e2, e3, e4, hw0]
 refine ARun.thenW [_, _] _ (fun q : Int => (envS 94 [(1, .d (.int .i64 2500)), (2, .d (.int .i64 d)), (3, .ptr N 0), (7, .d (.int .i64 q))], ⟨B ++ [jsB j], T⟩)) (fun q => 1 ≤ q ∧ q ≤ 5001 ∧ (q ≤ 2500 → ∀ k ∈ j.keys, k.length ≤ 2500)) ?_ ?_
 ·rintro q ⟨hq1, hq2, hq3⟩
  dsimp only
  refine goN ?_
  simp only [W, seval, b27, hn]
  refine ARun.loopW (fun a : Nat × Int => (envS 94 [(1, .d (.int .i64 2500)), (2, .d (.int .i64 d)), (3, .ptr N 0), (7, .d (.int .i64 a.2)), (9, .d (.int .i64 (a.1 : Int)))], ⟨B ++ [jsB j], T⟩)) (fun a => a.1 ≤ j.items.length ∧ q ≤ a.2 ∧ a.2 ≤ (62 - d) * 6000 ∧ (a.2 ≤ 2500 → ∀ k (hk : k < j.items.length), k < a.1 → SmK j.items[k] ∧ (deepJ j.items[k] : Int) + d ≤ 60)) (fun a => j.items.length - a.1) (0, q) ⟨by omega, Int.le_refl _, by dsimp only; omega, fun _ k _ h => absurd h (by simp)⟩ envA rfl ?_
  rintro ⟨i, p⟩ ⟨g1, g2, g3, g4⟩ ih
  dsimp only at g1 g2 g3 g4 ih ⊢
  have hend : i = j.items.length ∨ ¬ p ≤ 2500 → p ≤ 2500 → SmK j ∧ (deepJ j : Int) + d ≤ 61 := fun hi hp => by
   rw [smK_iff]
   refine ⟨⟨h1, hq3 (by omega), h2, h3, fun x hx => ?_⟩, ?_⟩
   ·obtain ⟨k, hk, rfl⟩ := List.mem_iff_getElem.1 hx
    exact (g4 hp k hk (by omega)).1
   ·have := deepJ_le (n := (60 - d).toNat) j fun x hx => by
     obtain ⟨k, hk, rfl⟩ := List.mem_iff_getElem.1 hx
     have := (g4 hp k hk (by omega)).2
     omega
    omega
  by_cases hlt : i < j.items.length
  case neg =>
   have e5 : decide ((i : Int) < (j.items.length : Int)) = false := decide_eq_false (by omega)
   refine goN ?_
   simp only [W, seval, b27, hn, jsB, e5]
   refine retN b27 (Left.box ?_)
   exact ⟨p, rfl, by omega, g3, hend (.inl (by omega)), rfl⟩
  have e5 : decide ((i : Int) < (j.items.length : Int)) = true := decide_eq_true (by omega)
  by_cases hp : p ≤ 2500
  case neg =>
   have e6 : decide (p ≤ (2500 : Int)) = false := decide_eq_false hp
   refine goN ?_
   simp only [W, seval, b27, hn, jsB, e5, e6]
   refine retN b27 (Left.box ?_)
   exact ⟨p, rfl, by omega, g3, hend (.inr hp), rfl⟩
  have e6 : decide (p ≤ (2500 : Int)) = true := decide_eq_true hp
  have hw := wrap_in ((i : Int) + 1) (by omega)
  have hg := List.getElem?_eq_getElem hlt
  have hx := h j.items[i] (List.getElem_mem hlt) (d + 1) (by omega) (by omega)
  have g4' := g4 hp
  obtain ⟨x, hxx⟩ : ∃ x, j.items[i] = x := ⟨_, rfl⟩
  rw [hxx] at hg hx
  unfold jsV at hx
  have hwd := wrap_in (d + 1) (by omega)
  refine goN ?_
  simp only [W, seval, b27, hn, jsB, e5, e6, hg, List.getElem?_map, jsD_eq, hwd]
  refine callS_fn (hx _ _) ?_
  rintro _ _ ⟨r, rfl, r1, r2, r3, rfl⟩
  have hwr := wrap_in (p + r) (by omega)
  refine goN ?_
  simp only [W, seval, b27, hn, hwr, hw]
  refine ih (i + 1, p + r) ⟨by omega, by dsimp only; omega, by dsimp only; omega, fun hs k hk hki => ?_⟩ (by dsimp only; omega) _ _ ?_ rfl
  ·by_cases e : k = i
   ·subst e
    rw [hxx]
    have := r3 (by dsimp only at hs; omega)
    exact ⟨this.1, by omega⟩
   ·exact g4' k hk (by dsimp only at hki; omega)
  ·skip
   refine Agree.env _ ?_
   simp only [agw, seval, hn]
 ·intro K' hK
  refine ARun.loopW (fun a : Nat × Int => (envS 94 [(1, .d (.int .i64 2500)), (2, .d (.int .i64 d)), (3, .ptr N 0), (7, .d (.int .i64 a.2)), (8, .d (.int .i64 (a.1 : Int)))], ⟨B ++ [jsB j], T⟩)) (fun a => a.1 ≤ j.keys.length ∧ 1 ≤ a.2 ∧ a.2 ≤ 5001 ∧ (a.2 ≤ 2500 → ∀ k (hk : k < j.keys.length), k < a.1 → j.keys[k].length ≤ 2500)) (fun a => j.keys.length - a.1) (0, 1 + (j.text.length : Int)) ⟨by omega, by dsimp only; omega, by dsimp only; omega, fun _ k _ h => absurd h (by simp)⟩ envA rfl ?_
  rintro ⟨i, p⟩ ⟨g1, g2, g3, g4⟩ ih
  dsimp only at g1 g2 g3 g4 ih ⊢
  have hend : i = j.keys.length ∨ ¬ p ≤ 2500 → p ≤ 2500 → ∀ k ∈ j.keys, k.length ≤ 2500 := fun hi hp x hx => by
   obtain ⟨k, hk, rfl⟩ := List.mem_iff_getElem.1 hx
   exact g4 hp k hk (by omega)
  by_cases hlt : i < j.keys.length
  case neg =>
   have e5 : decide ((i : Int) < (j.keys.length : Int)) = false := decide_eq_false (by omega)
   refine goXN ?_
   simp only [W, seval, b27, hn, jsB, hll, e5]
   exact hK p ⟨g2, g3, hend (.inl (by omega))⟩ _ _ envA rfl
  have e5 : decide ((i : Int) < (j.keys.length : Int)) = true := decide_eq_true (by omega)
  by_cases hp : p ≤ 2500
  case neg =>
   have e6 : decide (p ≤ (2500 : Int)) = false := decide_eq_false hp
   refine goXN ?_
   simp only [W, seval, b27, hn, jsB, hll, e5, e6]
   exact hK p ⟨g2, g3, hend (.inr hp)⟩ _ _ envA rfl
  have e6 : decide (p ≤ (2500 : Int)) = true := decide_eq_true hp
  have hw := wrap_in ((i : Int) + 1) (by omega)
  have hg := ssD_at hlt
  by_cases hs : j.keys[i].length ≤ 2500
  case neg =>
   have e7 : decide ((2500 : Int) < (j.keys[i].length : Int)) = true := decide_eq_true (by omega)
   refine goXN ?_
   simp only [W, seval, b27, hn, jsB, hll, e5, e6, hg, e7]
   refine retN b27 (Left.box ?_)
   exact ⟨2501, rfl, (hbig _ rfl).1, (hbig _ rfl).2.1, (hbig _ rfl).2.2, rfl⟩
  have e7 : decide ((2500 : Int) < (j.keys[i].length : Int)) = false := decide_eq_false (by omega)
  have hw1 := wrap_in (p + 1) (by omega)
  have hw2 := wrap_in (p + 1 + (j.keys[i].length : Int)) (by omega)
  refine goXN ?_
  simp only [W, seval, b27, hn, jsB, hll, e5, e6, hg, e7, hw, hw1, hw2]
  refine ih (i + 1, p + 1 + (j.keys[i].length : Int)) ⟨by omega, by dsimp only; omega, by dsimp only; omega, fun _ k hk hki => ?_⟩ (by dsimp only; omega) _ _ ?_ rfl
  ·by_cases e : k = i
   ·subst e
    exact hs
   ·exact g4 hp k hk (by dsimp only at hki; omega)
  ·skip
   refine Agree.env _ ?_
   simp only [agw, seval, hn]
mutual
theorem bkJ_one : ∀ j : JsT, BkJ j
 | .mk _ _ _ l _ => bkJ_step _ (bkJ_all l)
theorem bkJ_all : ∀ (l : List JsT), ∀ x ∈ l, BkJ x
 | [], _, h => absurd h List.not_mem_nil
 | y :: l, x, h => by
  rcases List.mem_cons.1 h with e | e
  ·rw [e]; exact bkJ_one y
  ·exact bkJ_all l x e
end
def b88 := KB Tryz.func88 19
def b71 := KB Tryz.func71 9
def b92 := KB Tryz.func92 19
def b76 := KB Tryz.func76 9
def b113 := KB Tryz.func113 19
def b101 := KB Tryz.func101 9
theorem Left.same {S : Mem} {R : V → Mem → Prop} {v : V} (hf : Fits S) (h : R (wk S.boxes.length S.toks.length v) S) : Ab.Left S R v S := Ab.Left.fits hf rfl rfl h
def sV (s : List UInt8) : V := .d (.str s)
def iV (i : Int) : V := .d (.int .i64 i)
theorem isD_at {l : List Int} {i : Nat} (h : i < l.length) : (isD l)[i]? = some [.int .i64 l[i]] := by simp [isD, h]
theorem isD_len (l : List Int) : (isD l).length = l.length := by simp [isD]
theorem jsM_at {l : List JsT} {i : Nat} (h : i < l.length) : (l.map jsD)[i]? = some (jsD l[i]) := by simp [h]
set_option maxHeartbeats 1000000 in
theorem indexP_s (g : FuncId) (first caps : List V) (f : List UInt8 → Bool) (l : List (List UInt8)) (hl : l.length ≤ 9223372036854775807) (S : Mem) (hg : ∀ x ∈ l, AFn Tryz.prog TabI g (first ++ [sV x] ++ caps) S (Same (.d (.bool (f x))) S)) :
 AFn Tryz.prog TabI 88 [.d (.sl (ssD l)), .func g first caps] S (Same (.d (.int .i64 (idxF f l 0))) S) := by
 have hll : (ssD l).length = l.length := by simp [ssD]
 refine enS b88 fun hsm => ?_
 simp only [smw] at hsm
 simp only [W, seval, b88, hll]
 refine ARun.fits fun hf => ?_
 refine ARun.loopW (fun i : Nat => (envS 19 [(0, .d (.sl (ssD l))), (1, .func g first caps), (6, .d (.sl (ssD l))), (7, .d (.int .i64 l.length)), (8, .d (.int .i64 (i : Int)))], S)) (fun i => i ≤ l.length ∧ idxF f l 0 = idxF f (l.drop i) i) (fun i => l.length - i) 0 ⟨by omega, rfl⟩ envA rfl ?_
 rintro i ⟨h1, h2⟩ ih
 dsimp only at h1 h2 ih ⊢
 by_cases hlt : i < l.length
 case neg =>
  have e2 : decide ((i : Int) < (l.length : Int)) = false := decide_eq_false (by omega)
  refine goN ?_
  simp only [W, seval, b88, e2]
  refine retN b88 (Left.same hf ?_)
  rw [h2, List.drop_eq_nil_of_le (by omega)]
  exact ⟨rfl, rfl⟩
 have e2 : decide ((i : Int) < (l.length : Int)) = true := decide_eq_true (by omega)
 have hw := wrap_in ((i : Int) + 1) (by omega)
 have hge := ssD_at hlt
 have hx := hg _ (List.getElem_mem hlt)
 rw [drop_get hlt, idxF] at h2
 obtain ⟨x, hxx⟩ : ∃ x, l[i] = x := ⟨_, rfl⟩
 rw [hxx] at hge hx h2
 unfold sV at hx
 refine goN ?_
 simp only [W, seval, b88, e2, hge, hll]
 refine callNo hx ?_
 cases hb : f x
 ·rw [hb, if_neg (by decide)] at h2
  refine goN ?_
  simp only [W, seval, b88, hb, hw]
  exact ih (i + 1) ⟨by omega, h2⟩ (by omega) _ _ envA rfl
 ·rw [hb, if_pos rfl] at h2
  refine goN ?_
  simp only [W, seval, b88, hb]
  refine retN b88 (Left.same hf ?_)
  rw [h2]
  exact ⟨rfl, rfl⟩
theorem containsP_s (g : FuncId) (first caps : List V) (f : List UInt8 → Bool) (l : List (List UInt8)) (hl : l.length ≤ 9223372036854775807) (S : Mem) (hg : ∀ x ∈ l, AFn Tryz.prog TabI g (first ++ [sV x] ++ caps) S (Same (.d (.bool (f x))) S)) :
 AFn Tryz.prog TabI 71 [.d (.sl (ssD l)), .func g first caps] S (Same (.d (.bool (l.any f))) S) := by
 have e1 := idxF_any f l 0 (Int.le_refl 0)
 refine enN b71 ?_
 simp only [W, seval, b71]
 refine callN (indexP_s g first caps f l hl S hg) ?_
 refine ARun.fits fun hf => ?_
 refine goN ?_
 simp only [W, seval, b71, e1]
 refine retN b71 (Left.same hf ?_)
 exact ⟨rfl, rfl⟩
set_option maxHeartbeats 1000000 in
theorem indexP_i (g : FuncId) (first caps : List V) (f : Int → Bool) (l : List (Int)) (hl : l.length ≤ 9223372036854775807) (S : Mem) (hg : ∀ x ∈ l, AFn Tryz.prog TabI g (first ++ [iV x] ++ caps) S (Same (.d (.bool (f x))) S)) :
 AFn Tryz.prog TabI 92 [.d (.sl (isD l)), .func g first caps] S (Same (.d (.int .i64 (idxF f l 0))) S) := by
 have hll : (isD l).length = l.length := by simp [isD]
 refine enS b92 fun hsm => ?_
 simp only [smw] at hsm
 simp only [W, seval, b92, hll]
 refine ARun.fits fun hf => ?_
 refine ARun.loopW (fun i : Nat => (envS 19 [(0, .d (.sl (isD l))), (1, .func g first caps), (6, .d (.sl (isD l))), (7, .d (.int .i64 l.length)), (8, .d (.int .i64 (i : Int)))], S)) (fun i => i ≤ l.length ∧ idxF f l 0 = idxF f (l.drop i) i) (fun i => l.length - i) 0 ⟨by omega, rfl⟩ envA rfl ?_
 rintro i ⟨h1, h2⟩ ih
 dsimp only at h1 h2 ih ⊢
 by_cases hlt : i < l.length
 case neg =>
  have e2 : decide ((i : Int) < (l.length : Int)) = false := decide_eq_false (by omega)
  refine goN ?_
  simp only [W, seval, b92, e2]
  refine retN b92 (Left.same hf ?_)
  rw [h2, List.drop_eq_nil_of_le (by omega)]
  exact ⟨rfl, rfl⟩
 have e2 : decide ((i : Int) < (l.length : Int)) = true := decide_eq_true (by omega)
 have hw := wrap_in ((i : Int) + 1) (by omega)
 have hge := isD_at hlt
 have hx := hg _ (List.getElem_mem hlt)
 rw [drop_get hlt, idxF] at h2
 obtain ⟨x, hxx⟩ : ∃ x, l[i] = x := ⟨_, rfl⟩
 rw [hxx] at hge hx h2
 unfold iV at hx
 refine goN ?_
 simp only [W, seval, b92, e2, hge, hll]
 refine callNo hx ?_
 cases hb : f x
 ·rw [hb, if_neg (by decide)] at h2
  refine goN ?_
  simp only [W, seval, b92, hb, hw]
  exact ih (i + 1) ⟨by omega, h2⟩ (by omega) _ _ envA rfl
 ·rw [hb, if_pos rfl] at h2
  refine goN ?_
  simp only [W, seval, b92, hb]
  refine retN b92 (Left.same hf ?_)
  rw [h2]
  exact ⟨rfl, rfl⟩
theorem containsP_i (g : FuncId) (first caps : List V) (f : Int → Bool) (l : List (Int)) (hl : l.length ≤ 9223372036854775807) (S : Mem) (hg : ∀ x ∈ l, AFn Tryz.prog TabI g (first ++ [iV x] ++ caps) S (Same (.d (.bool (f x))) S)) :
 AFn Tryz.prog TabI 76 [.d (.sl (isD l)), .func g first caps] S (Same (.d (.bool (l.any f))) S) := by
 have e1 := idxF_any f l 0 (Int.le_refl 0)
 refine enN b76 ?_
 simp only [W, seval, b76]
 refine callN (indexP_i g first caps f l hl S hg) ?_
 refine ARun.fits fun hf => ?_
 refine goN ?_
 simp only [W, seval, b76, e1]
 refine retN b76 (Left.same hf ?_)
 exact ⟨rfl, rfl⟩
set_option maxHeartbeats 1000000 in
theorem indexP_j (g : FuncId) (first caps : List V) (f : JsT → Bool) (l : List (JsT)) (hl : l.length ≤ 9223372036854775807) (S : Mem) (hg : ∀ x ∈ l, AFn Tryz.prog TabI g (first ++ [jsV x] ++ caps) S (Same (.d (.bool (f x))) S)) :
 AFn Tryz.prog TabI 113 [.d (.sl (l.map jsD)), .func g first caps] S (Same (.d (.int .i64 (idxF f l 0))) S) := by
 have hll : (l.map jsD).length = l.length := by simp []
 refine enS b113 fun hsm => ?_
 simp only [smw] at hsm
 simp only [W, seval, b113, hll]
 refine ARun.fits fun hf => ?_
 refine ARun.loopW (fun i : Nat => (envS 19 [(0, .d (.sl (l.map jsD))), (1, .func g first caps), (6, .d (.sl (l.map jsD))), (7, .d (.int .i64 l.length)), (8, .d (.int .i64 (i : Int)))], S)) (fun i => i ≤ l.length ∧ idxF f l 0 = idxF f (l.drop i) i) (fun i => l.length - i) 0 ⟨by omega, rfl⟩ envA rfl ?_
 rintro i ⟨h1, h2⟩ ih
 dsimp only at h1 h2 ih ⊢
 by_cases hlt : i < l.length
 case neg =>
  have e2 : decide ((i : Int) < (l.length : Int)) = false := decide_eq_false (by omega)
  refine goN ?_
  simp only [W, seval, b113, e2]
  refine retN b113 (Left.same hf ?_)
  rw [h2, List.drop_eq_nil_of_le (by omega)]
  exact ⟨rfl, rfl⟩
 have e2 : decide ((i : Int) < (l.length : Int)) = true := decide_eq_true (by omega)
 have hw := wrap_in ((i : Int) + 1) (by omega)
 have hge := jsM_at hlt
 have hx := hg _ (List.getElem_mem hlt)
 rw [drop_get hlt, idxF] at h2
 obtain ⟨x, hxx⟩ : ∃ x, l[i] = x := ⟨_, rfl⟩
 rw [hxx] at hge hx h2
 rw [jsD_eq] at hge
 unfold jsV at hx
 refine goN ?_
 simp only [W, seval, b113, e2, hge, hll]
 refine callNo hx ?_
 cases hb : f x
 ·rw [hb, if_neg (by decide)] at h2
  refine goN ?_
  simp only [W, seval, b113, hb, hw]
  exact ih (i + 1) ⟨by omega, h2⟩ (by omega) _ _ envA rfl
 ·rw [hb, if_pos rfl] at h2
  refine goN ?_
  simp only [W, seval, b113, hb]
  refine retN b113 (Left.same hf ?_)
  rw [h2]
  exact ⟨rfl, rfl⟩
theorem containsP_j (g : FuncId) (first caps : List V) (f : JsT → Bool) (l : List (JsT)) (hl : l.length ≤ 9223372036854775807) (S : Mem) (hg : ∀ x ∈ l, AFn Tryz.prog TabI g (first ++ [jsV x] ++ caps) S (Same (.d (.bool (f x))) S)) :
 AFn Tryz.prog TabI 101 [.d (.sl (l.map jsD)), .func g first caps] S (Same (.d (.bool (l.any f))) S) := by
 have e1 := idxF_any f l 0 (Int.le_refl 0)
 refine enN b101 ?_
 simp only [W, seval, b101]
 refine callN (indexP_j g first caps f l hl S hg) ?_
 refine ARun.fits fun hf => ?_
 refine goN ?_
 simp only [W, seval, b101, e1]
 refine retN b101 (Left.same hf ?_)
 exact ⟨rfl, rfl⟩
def b31 := KB Tryz.func31 13
def b50 := KB Tryz.func50 83
def b52 := KB Tryz.func52 14
def b72 := KB Tryz.func72 8
def b32 := KB Tryz.func32 26
theorem named_ab (k : Int) (S : Mem) : AFn Tryz.prog TabI 31 [.d (.int .i64 k)] S (Same (.d (.bool (namedB k))) S) := by
 refine AFn.same (v := .d (.bool (namedB k))) ?_ rfl rfl S
 unfold namedB
 cases h9 : decide (k = 9) <;> cases h10 : decide (k = 10)
 all_goals
  refine enN b31 ?_
  simp only [W, seval, b31, h9, h10]
  refine retN b31 (Left.none ?_)
  exact ⟨rfl, rfl⟩
set_option maxHeartbeats 8000000 in
theorem bare_abS (n : NdT) (B : List (List V)) (T : List (Nat × Nat)) : AFn Tryz.prog TabI 50 [ndV n] ⟨B, T⟩ (Same (.d (.bool (bareN n))) ⟨B, T⟩) := by
 obtain ⟨N, hn⟩ : ∃ N, B.length = N := ⟨_, rfl⟩
 have l1 := ssD_len n.aliases
 have l2 := ssD_len n.symbols
 have l3 := isD_len n.branches
 have hk := fun S => named_ab n.kind S
 obtain ⟨a3, h3⟩ : ∃ a, (!decide (n.name = []) || decide ((0 : Int) < (n.aliases.length : Int))) = a := ⟨_, rfl⟩
 obtain ⟨a4, h4⟩ : ∃ a, decide ((0 : Int) < (n.fields.length : Int)) = a := ⟨_, rfl⟩
 obtain ⟨a5, h5⟩ : ∃ a, (decide ((0 : Int) < (n.symbols.length : Int)) || (n.has || !decide (n.dflt = []))) = a := ⟨_, rfl⟩
 obtain ⟨a6, h6⟩ : ∃ a, (!decide (n.size = 0)) = a := ⟨_, rfl⟩
 obtain ⟨a7, h7⟩ : ∃ a, (!decide (n.items = 0)) = a := ⟨_, rfl⟩
 obtain ⟨a8, h8⟩ : ∃ a, decide ((0 : Int) < (n.branches.length : Int)) = a := ⟨_, rfl⟩
 have hres : bareN n = ((namedB n.kind || !a3) && ((decide (n.kind = 9) || !a4) && ((decide (n.kind = 10) || !a5) && ((decide (n.kind = 14) || !a6) && ((decide (n.kind = 11) || (decide (n.kind = 12) || !a7)) && (decide (n.kind = 13) || !a8)))))) := by
  subst h3 h4 h5 h6 h7 h8
  unfold bareN
  have q : ∀ {α : Type} (l : List α), l.isEmpty = !decide ((0 : Int) < (l.length : Int)) := fun l => by cases l <;> simp <;> omega
  have q' : ∀ l : List UInt8, l.isEmpty = decide (l = []) := fun l => by cases l <;> simp
  rw [q n.aliases, q n.fields, q n.symbols, q n.branches, q' n.name, q' n.dflt]
  simp [Bool.not_or, Bool.not_not]
 rw [hres]
 clear hres
 unfold ndV
 refine enS b50 fun hsm => ?_
 simp only [smw] at hsm
 simp only [W, seval, b50, hn]
 refine ARun.thenW [_] _ (fun _ : Unit => (envS 83 [(1, .ptr N 0), (3, .d (.bool a3)), (4, .d (.bool a4)), (5, .d (.bool a5)), (6, .d (.bool a6)), (7, .d (.bool a7)), (8, .d (.bool a8))], ⟨B ++ [[.d (.int .i64 n.kind), .d (.str n.name), .d (.sl (ssD n.aliases)), .d (.sl (n.fields.map fdD)), .d (.sl (ssD n.symbols)), .d (.bool n.has), .d (.str n.dflt), .d (.int .i64 n.size), .d (.int .i64 n.items), .d (.sl (isD n.branches))]], T⟩)) (fun _ => True) ?_ ?_
 ·intro _ _
  dsimp only
  clear h3 h4 h5 h6 h7 h8
  refine goN ?_
  simp only [W, seval, b50, hn]
  refine callN (hk _) ?_
  obtain ⟨nb, hnb⟩ : ∃ b, namedB n.kind = b := ⟨_, rfl⟩
  rw [hnb]
  clear hk
  by_cases k9 : n.kind = 9
  ·have e9 := decide_eq_true k9
   cases nb
   all_goals
    refine goN ?_
    simp only [W, seval, b50, hn, e9]
    repeat' ((first | refine guardB_of (fun h => ?_) (fun h => ?_) | refine condS_of (fun h => ?_) (fun h => ?_)) <;> simp only [W, seval, b50, h, hn])
    all_goals
     refine retN b50 (Left.box ?_)
     exact finA
  have e9 := decide_eq_false k9
  by_cases k10 : n.kind = 10
  ·have e10 := decide_eq_true k10
   cases nb
   all_goals
    refine goN ?_
    simp only [W, seval, b50, hn, e9, e10]
    repeat' ((first | refine guardB_of (fun h => ?_) (fun h => ?_) | refine condS_of (fun h => ?_) (fun h => ?_)) <;> simp only [W, seval, b50, h, hn])
    all_goals
     refine retN b50 (Left.box ?_)
     exact finA
  have e10 := decide_eq_false k10
  by_cases k14 : n.kind = 14
  ·have e14 := decide_eq_true k14
   cases nb
   all_goals
    refine goN ?_
    simp only [W, seval, b50, hn, e9, e10, e14]
    repeat' ((first | refine guardB_of (fun h => ?_) (fun h => ?_) | refine condS_of (fun h => ?_) (fun h => ?_)) <;> simp only [W, seval, b50, h, hn])
    all_goals
     refine retN b50 (Left.box ?_)
     exact finA
  have e14 := decide_eq_false k14
  by_cases k11 : n.kind = 11
  ·have e11 := decide_eq_true k11
   cases nb
   all_goals
    refine goN ?_
    simp only [W, seval, b50, hn, e9, e10, e14, e11]
    repeat' ((first | refine guardB_of (fun h => ?_) (fun h => ?_) | refine condS_of (fun h => ?_) (fun h => ?_)) <;> simp only [W, seval, b50, h, hn])
    all_goals
     refine retN b50 (Left.box ?_)
     exact finA
  have e11 := decide_eq_false k11
  by_cases k12 : n.kind = 12
  ·have e12 := decide_eq_true k12
   cases nb
   all_goals
    refine goN ?_
    simp only [W, seval, b50, hn, e9, e10, e14, e11, e12]
    repeat' ((first | refine guardB_of (fun h => ?_) (fun h => ?_) | refine condS_of (fun h => ?_) (fun h => ?_)) <;> simp only [W, seval, b50, h, hn])
    all_goals
     refine retN b50 (Left.box ?_)
     exact finA
  have e12 := decide_eq_false k12
  by_cases k13 : n.kind = 13
  ·have e13 := decide_eq_true k13
   cases nb
   all_goals
    refine goN ?_
    simp only [W, seval, b50, hn, e9, e10, e14, e11, e12, e13]
    repeat' ((first | refine guardB_of (fun h => ?_) (fun h => ?_) | refine condS_of (fun h => ?_) (fun h => ?_)) <;> simp only [W, seval, b50, h, hn])
    all_goals
     refine retN b50 (Left.box ?_)
     exact finA
  have e13 := decide_eq_false k13
  cases nb
  all_goals
   refine goN ?_
   simp only [W, seval, b50, hn, e9, e10, e14, e11, e12, e13]
   repeat' ((first | refine guardB_of (fun h => ?_) (fun h => ?_) | refine condS_of (fun h => ?_) (fun h => ?_)) <;> simp only [W, seval, b50, h, hn])
   all_goals
    refine retN b50 (Left.box ?_)
    exact finA
 ·intro K' hK
  cases c1 : decide (n.name = []) <;> cases c2 : decide ((0 : Int) < (n.symbols.length : Int)) <;> cases c3 : n.has
  all_goals
   refine drXA 41 [] [N] ?_
   simp (maxSteps := 4000000) only [W, seval, b50, xw, hn, l1, l2, l3, c1, c2, c3]
   refine hK () trivial _ _ ?_ (by dsimp only; rw [c3])
   refine Agree.env _ ?_
   simp only [agw, seval]
   subst h3 h4 h5 h6 h7 h8
   simp only [c1, c2, c3]
   simp
def RuleB (g : FuncId) (r : List UInt8 → Bool) : Prop := ∀ (s : List UInt8) (S : Mem), AFn Tryz.prog TabI g [.d (.str s)] S (Same (.d (.bool (r s))) S)
theorem all1_ab {g : FuncId} {r : List UInt8 → Bool} (hr : RuleB g r) (s : List UInt8) (c : Nat) (B : List (List V)) (T : List (Nat × Nat)) (hB : B[c]? = some [.func g [] []]) : AFn Tryz.prog TabI 72 [.d (.str s), .ptr c 0] ⟨B, T⟩ (Same (.d (.bool (!r s))) ⟨B, T⟩) := by
 refine enN b72 ?_
 simp only [W, seval, b72, hB]
 refine callN (hr s _) ?_
 refine goN ?_
 simp only [W, seval, b72]
 refine retN b72 (Left.none ?_)
 exact ⟨rfl, rfl⟩
theorem any_notS {α : Type} (r : α → Bool) : ∀ l : List α, (!l.any fun x => !r x) = l.all r
 | [] => rfl
 | x :: l => by
  rw [List.any_cons, List.all_cons, ← any_notS r l]
  cases r x <;> simp
set_option maxHeartbeats 2000000 in
theorem all_ab {g : FuncId} {r : List UInt8 → Bool} (hr : RuleB g r) (l : List (List UInt8)) (B : List (List V)) (T : List (Nat × Nat)) : AFn Tryz.prog TabI 52 [.d (.sl (ssD l)), .func g [] []] ⟨B, T⟩ (Same (.d (.bool (allF r l))) ⟨B, T⟩) := by
 obtain ⟨N, hn⟩ : ∃ N, B.length = N := ⟨_, rfl⟩
 have hll := ssD_len l
 unfold allF
 by_cases h : l.length ≤ 40
 case neg =>
  have e1 : decide ((l.length : Int) ≤ 40) = false := decide_eq_false (by omega)
  refine enS b52 fun hsm => ?_
  simp only [smw] at hsm
  simp only [W, seval, b52, hn, hll, e1]
  refine retN b52 (Left.box ?_)
  rw [decide_eq_false h]
  exact ⟨rfl, rfl⟩
 have e1 : decide ((l.length : Int) ≤ 40) = true := decide_eq_true (by omega)
 refine enS b52 fun hsm => ?_
 simp only [smw] at hsm
 simp only [W, seval, b52, hn, hll, e1]
 refine callNo (containsP_s 72 [] [.ptr N 0] (fun s => !r s) l (by omega) _ fun x _ => all1_ab hr x N _ _ (by rw [← hn]; simp)) ?_
 refine goN ?_
 simp only [W, seval, b52]
 refine retN b52 (Left.box ?_)
 rw [decide_eq_true h, Bool.true_and, ← any_notS]
 exact ⟨rfl, rfl⟩
theorem diffF_take (r : List UInt8 → Bool) (l : List (List UInt8)) (i : Nat) (h : i < l.length) : diffF r (l.take i) (l.drop i) = (r l[i] && (!(l.take i).contains l[i] && diffF r (l.take (i + 1)) (l.drop (i + 1)))) := by
 rw [List.drop_eq_getElem_cons h, diffF, List.take_succ_eq_append_getElem h]
set_option maxHeartbeats 2000000 in
theorem different_ab {g : FuncId} {r : List UInt8 → Bool} (hr : RuleB g r) (l : List (List UInt8)) (hl : l.length ≤ 1000000) (B : List (List V)) (T : List (Nat × Nat)) : AFn Tryz.prog TabI 32 [.d (.sl (ssD l)), .func g [] []] ⟨B, T⟩ (Same (.d (.bool (diffF r [] l))) ⟨B, T⟩) := by
 have hll := ssD_len l
 refine enS b32 fun hsm => ?_
 simp only [smw] at hsm
 simp only [W, seval, b32, hll]
 refine ARun.loopW (fun i : Nat => (envS 26 [(0, .d (.sl (ssD l))), (1, .func g [] []), (7, .d (.sl (ssD l))), (8, .d (.int .i64 l.length)), (9, .d (.int .i64 (i : Int)))], ⟨B, T⟩)) (fun i => i ≤ l.length ∧ diffF r [] l = diffF r (l.take i) (l.drop i)) (fun i => l.length - i) 0 ⟨by omega, rfl⟩ envA rfl ?_
 rintro i ⟨h1, h2⟩ ih
 dsimp only at h1 h2 ih ⊢
 by_cases hlt : i < l.length
 case neg =>
  have e2 : decide ((i : Int) < (l.length : Int)) = false := decide_eq_false (by omega)
  refine goN ?_
  simp only [W, seval, b32, e2]
  refine retN b32 (Left.none ?_)
  rw [h2, List.drop_eq_nil_of_le (by omega)]
  exact ⟨rfl, rfl⟩
 have e2 : decide ((i : Int) < (l.length : Int)) = true := decide_eq_true (by omega)
 have hw := wrap_in ((i : Int) + 1) (by omega)
 have hge := ssD_at hlt
 rw [diffF_take r l i hlt] at h2
 obtain ⟨x, hxx⟩ : ∃ x, l[i] = x := ⟨_, rfl⟩
 rw [hxx] at hge h2
 refine goN ?_
 simp only [W, seval, b32, e2, hge, hll]
 refine callN (hr x _) ?_
 cases hb : r x
 ·rw [hb] at h2
  refine goN ?_
  simp only [W, seval, b32]
  refine retN b32 (Left.none ?_)
  rw [h2]
  exact ⟨rfl, rfl⟩
 rw [hb, Bool.true_and] at h2
 have hle : (i : Int) ≤ (l.length : Int) := by omega
 refine goN ?_
 simp only [W, seval, b32, hll, e2, if_pos hle]
 refine callN (contains_str_ab (l.take i) x (by rw [List.length_take]; omega) _) ?_
 cases hc : (l.take i).contains x
 ·rw [hc, Bool.not_false, Bool.true_and] at h2
  refine goN ?_
  simp only [W, seval, b32, hw]
  exact ih (i + 1) ⟨by omega, h2⟩ (by omega) _ _ envA rfl
 ·rw [hc] at h2
  refine goN ?_
  simp only [W, seval, b32]
  refine retN b32 (Left.none ?_)
  rw [h2]
  exact ⟨rfl, rfl⟩
theorem app21 {α : Type} (B : List α) (a b : α) : B ++ [a, b] = (B ++ [a]) ++ [b] := by simp
def IntR (lo hi : Int) (p : Int → Prop) (v : V) : Prop := ∃ r : Int, v = .d (.int .i64 r) ∧ lo ≤ r ∧ r ≤ hi ∧ p r
theorem textsX (l : List (List UInt8)) (B : List (List V)) (T : List (Nat × Nat)) : AFn Tryz.prog TabI 26 [.d (.sl (ssD l)), .d (.int .i64 2500)] ⟨B, T⟩ fun v S => IntR 0 5000 (fun r => r ≤ 2500 → l.length ≤ 2500) v ∧ S = ⟨B, T⟩ :=
 (texts_few l B T).mono fun _ _ ⟨r, h1, h2, h3, h4, h5⟩ => ⟨⟨r, h1, h2, h3, h4⟩, h5⟩
theorem bulkX (j : JsT) (B : List (List V)) (T : List (Nat × Nat)) : AFn Tryz.prog TabI 27 [jsV j, .d (.int .i64 2500), .d (.int .i64 0)] ⟨B, T⟩ fun v S => IntR 1 372000 (fun r => r ≤ 2500 → SmJ j) v ∧ S = ⟨B, T⟩ :=
 (bkJ_one j 0 (by decide) (by decide) B T).mono fun _ _ ⟨r, h1, h2, h3, h4, h5⟩ => ⟨⟨r, h1, h2, h3, fun hr => ⟨(h4 hr).1, by have := (h4 hr).2; omega⟩⟩, h5⟩
theorem textsX_ne (p : Prop) : ∃ v, IntR 0 5000 (fun r => r ≤ 2500 → p) v := ⟨_, 3000, rfl, by decide, by decide, fun h => absurd h (by decide)⟩
theorem bulkX_ne (p : Prop) : ∃ v, IntR 1 372000 (fun r => r ≤ 2500 → p) v := ⟨_, 3000, rfl, by decide, by decide, fun h => absurd h (by decide)⟩
def SmN (n : NdT) : Prop := (n.name.length ≤ 2500 ∧ n.aliases.length ≤ 2500 ∧ n.symbols.length ≤ 2500) ∧ n.fields.length ≤ 2500 ∧ n.branches.length ≤ 2500 ∧ ∀ f ∈ n.fields, (f.name.length ≤ 2500 ∧ f.aliases.length ≤ 2500) ∧ SmJ f.dflt
def SmS (s : ScT) : Prop := s.nodes.length ≤ 2500 ∧ ∀ n ∈ s.nodes, SmN n
set_option maxHeartbeats 16000000 in
theorem bulk_few (s : ScT) (B : List (List V)) (T : List (Nat × Nat)) : AFn Tryz.prog TabI 12 [scV s, .d (.int .i64 2500)] ⟨B, T⟩ fun v S => ∃ r : Int, v = .d (.int .i64 r) ∧ (r ≤ 2500 → SmS s) ∧ S = ⟨B, T⟩ := by
 obtain ⟨N, hn⟩ : ∃ N, B.length = N := ⟨_, rfl⟩
 unfold scV
 by_cases hnd : s.nodes.length ≤ 2500
 case neg =>
  have e1 : decide ((2500 : Int) < (s.nodes.length : Int)) = true := decide_eq_true (by omega)
  refine enS b12 fun hsm => ?_
  simp only [smw] at hsm
  simp only [W, seval, b12, hn, e1]
  refine retN b12 (Left.box ?_)
  exact ⟨2501, rfl, fun h => absurd h (by decide), rfl⟩
 have e1 : decide ((2500 : Int) < (s.nodes.length : Int)) = false := decide_eq_false (by omega)
 refine enS b12 fun hsm => ?_
 simp only [smw] at hsm
 simp only [W, seval, b12, hn, e1]
 refine ARun.fits fun hf => ?_
 refine ARun.loopB (fun a : Nat × Int => (envS 142 [(1, .d (.int .i64 2500)), (2, .ptr N 0), (5, .d (.int .i64 a.2)), (6, .d (.int .i64 (a.1 : Int)))], ⟨B ++ [[.d (.sl (s.nodes.map ndD)), .d (.int .i64 s.root)]], T⟩)) (fun a => a.1 ≤ s.nodes.length ∧ 0 ≤ a.2 ∧ a.2 ≤ 400000 ∧ (a.2 ≤ 2500 → ∀ k (hk : k < s.nodes.length), k < a.1 → SmN s.nodes[k])) (fun a => s.nodes.length - a.1) (0, (s.nodes.length : Int)) ⟨by omega, by omega, by dsimp only; omega, fun _ k _ h => absurd h (by simp)⟩ envA rfl ?_
 rintro ⟨i, p⟩ ⟨g1, g2, g3, g4⟩ ih
 dsimp only at g1 g2 g3 g4 ih ⊢
 have hend : i = s.nodes.length ∨ ¬ p ≤ 2500 → p ≤ 2500 → SmS s := fun hi hp => by
  refine ⟨hnd, fun x hx => ?_⟩
  obtain ⟨k, hk, rfl⟩ := List.mem_iff_getElem.1 hx
  exact g4 hp k hk (by omega)
 by_cases hlt : i < s.nodes.length
 case neg =>
  have e5 : decide ((i : Int) < (s.nodes.length : Int)) = false := decide_eq_false (by omega)
  refine goN ?_
  simp only [W, seval, b12, hn, e5]
  refine retN b12 (Left.box ?_)
  exact ⟨p, rfl, hend (.inl (by omega)), rfl⟩
 have e5 : decide ((i : Int) < (s.nodes.length : Int)) = true := decide_eq_true (by omega)
 by_cases hp : p ≤ 2500
 case neg =>
  have e6 : decide (p ≤ (2500 : Int)) = false := decide_eq_false hp
  refine goN ?_
  simp only [W, seval, b12, hn, e5, e6]
  refine retN b12 (Left.box ?_)
  exact ⟨p, rfl, hend (.inr hp), rfl⟩
 have e6 : decide (p ≤ (2500 : Int)) = true := decide_eq_true hp
 have hw := wrap_in ((i : Int) + 1) (by omega)
 have hg := List.getElem?_eq_getElem hlt
 have g4' := g4 hp
 clear g4 hend
 obtain ⟨x, hxx⟩ : ∃ x, s.nodes[i] = x := ⟨_, rfl⟩
 rw [hxx] at hg
 by_cases k1 : x.name.length ≤ 2500
 case neg =>
  have e7 : decide ((2500 : Int) < (x.name.length : Int)) = true := decide_eq_true (by omega)
  refine goN ?_
  simp only [W, seval, b12, hn, e5, e6, hg, List.getElem?_map, ndD_eq, e7]
  refine retN b12 (Left.box ?_)
  exact ⟨2501, rfl, fun h => absurd h (by decide), rfl⟩
 have e7 : decide ((2500 : Int) < (x.name.length : Int)) = false := decide_eq_false (by omega)
 by_cases k2 : x.fields.length ≤ 2500
 case neg =>
  have e8 : decide ((2500 : Int) < (x.fields.length : Int)) = true := decide_eq_true (by omega)
  refine goN ?_
  simp only [W, seval, b12, hn, e5, e6, hg, List.getElem?_map, ndD_eq, e7, e8]
  refine retN b12 (Left.box ?_)
  exact ⟨2501, rfl, fun h => absurd h (by decide), rfl⟩
 have e8 : decide ((2500 : Int) < (x.fields.length : Int)) = false := decide_eq_false (by omega)
 have hbl : (isD x.branches).length = x.branches.length := by simp [isD]
 by_cases k3 : x.branches.length ≤ 2500
 case neg =>
  have e9 : decide ((2500 : Int) < (x.branches.length : Int)) = true := decide_eq_true (by omega)
  refine goN ?_
  simp only [W, seval, b12, hn, e5, e6, hg, List.getElem?_map, ndD_eq, e7, e8, e9, hbl]
  refine retN b12 (Left.box ?_)
  exact ⟨2501, rfl, fun h => absurd h (by decide), rfl⟩
 have e9 : decide ((2500 : Int) < (x.branches.length : Int)) = false := decide_eq_false (by omega)
 by_cases k4 : x.dflt.length ≤ 2500
 case neg =>
  have e10 : decide ((2500 : Int) < (x.dflt.length : Int)) = true := decide_eq_true (by omega)
  refine goN ?_
  simp only [W, seval, b12, hn, e5, e6, hg, List.getElem?_map, ndD_eq, e7, e8, e9, e10, hbl]
  refine retN b12 (Left.box ?_)
  exact ⟨2501, rfl, fun h => absurd h (by decide), rfl⟩
 have e10 : decide ((2500 : Int) < (x.dflt.length : Int)) = false := decide_eq_false (by omega)
 have w1 := wrap_in (p + (x.name.length : Int)) (by omega)
 have w2 := wrap_in (p + (x.name.length : Int) + (x.fields.length : Int)) (by omega)
 have w3 := wrap_in (p + (x.name.length : Int) + (x.fields.length : Int) + (x.branches.length : Int)) (by omega)
 have w4 := wrap_in (p + (x.name.length : Int) + (x.fields.length : Int) + (x.branches.length : Int) + (x.dflt.length : Int)) (by omega)
 refine goN ?_
 simp only [W, seval, b12, hn, e5, e6, hg, List.getElem?_map, ndD_eq, e7, e8, e9, e10, hbl]
 refine drXA 26 [] [N + 1] ?_
 simp (maxSteps := 4000000) only [W, seval, b12, xw, hn, hbl, w1, w2, w3, w4]
 refine callX_some (textsX_ne _) (fun Z => textsX _ _ _) ?_
 rintro v ⟨r1, rfl, a1, a2, a3⟩
 have w5 := wrap_in (p + (x.name.length : Int) + (x.fields.length : Int) + (x.branches.length : Int) + (x.dflt.length : Int) + r1) (by omega)
 simp (maxSteps := 4000000) only [W, seval, b12, xw, hn, hbl, w5]
 refine callX_some (textsX_ne _) (fun Z => textsX _ _ _) ?_
 rintro v ⟨r2, rfl, b1, b2, b3⟩
 have w6 := wrap_in (p + (x.name.length : Int) + (x.fields.length : Int) + (x.branches.length : Int) + (x.dflt.length : Int) + r1 + r2) (by omega)
 simp (maxSteps := 4000000) only [W, seval, b12, xw, hn, hbl, w6]
 clear w1 w2 w3 w4 w5
 obtain ⟨q0, hq0⟩ : ∃ q, p + (x.name.length : Int) + (x.fields.length : Int) + (x.branches.length : Int) + (x.dflt.length : Int) + r1 + r2 = q := ⟨_, rfl⟩
 rw [hq0] at w6 ⊢
 have hq1 : 0 ≤ q0 ∧ q0 ≤ 23000 := by omega
 have hsy : q0 ≤ 2500 → x.aliases.length ≤ 2500 ∧ x.symbols.length ≤ 2500 := fun h => ⟨a3 (by omega), b3 (by omega)⟩
 clear hq0 w6
 refine goN ?_
 simp only [W, seval, b12, hn]
 refine ARun.loopW (fun a : Nat × Int => (envS 142 [(1, .d (.int .i64 2500)), (2, .ptr N 0), (5, .d (.int .i64 a.2)), (6, .d (.int .i64 (i : Int))), (7, .ptr (N + 1) 0), (8, .d (.int .i64 (a.1 : Int)))], ⟨B ++ [[.d (.sl (s.nodes.map ndD)), .d (.int .i64 s.root)], [.d (.int .i64 x.kind), .d (.str x.name), .d (.sl (ssD x.aliases)), .d (.sl (x.fields.map fdD)), .d (.sl (ssD x.symbols)), .d (.bool x.has), .d (.str x.dflt), .d (.int .i64 x.size), .d (.int .i64 x.items), .d (.sl (isD x.branches))]], T⟩)) (fun a => a.1 ≤ x.fields.length ∧ q0 ≤ a.2 ∧ a.2 ≤ 400000 ∧ (a.2 ≤ 2500 → ∀ k (hk : k < x.fields.length), k < a.1 → (x.fields[k].name.length ≤ 2500 ∧ x.fields[k].aliases.length ≤ 2500) ∧ SmJ x.fields[k].dflt)) (fun a => x.fields.length - a.1) (0, q0) ⟨by omega, Int.le_refl _, by dsimp only; omega, fun _ k _ h => absurd h (by simp)⟩ envA rfl ?_
 rintro ⟨j, q⟩ ⟨f1, f2, f3, f4⟩ ih2
 dsimp only at f1 f2 f3 f4 ih2 ⊢
 have hend2 : j = x.fields.length ∨ ¬ q ≤ 2500 → q ≤ 2500 → ∀ k (hk : k < s.nodes.length), k < i + 1 → SmN s.nodes[k] := fun hi hq k hk hki => by
  by_cases e : k = i
  ·subst e
   rw [hxx]
   refine ⟨⟨k1, hsy (by omega)⟩, k2, k3, fun f hf => ?_⟩
   obtain ⟨m, hm, rfl⟩ := List.mem_iff_getElem.1 hf
   exact f4 hq m hm (by omega)
  ·exact g4' k hk (by omega)
 by_cases hlt2 : j < x.fields.length
 case neg =>
  have m5 : decide ((j : Int) < (x.fields.length : Int)) = false := decide_eq_false (by omega)
  refine goN ?_
  simp only [W, seval, b12, hn, m5, hw]
  rw [app21]
  refine ih (i + 1, q) ⟨by omega, by dsimp only; omega, f3, hend2 (.inl (by omega))⟩ (by dsimp only; omega) _ _ _ _ rfl ⟨by simp; omega, Nat.le_refl _⟩ hf ?_
  refine AgreeF.env _ ?_
  simp only [agf, seval, hn]
  exact decide_eq_true (by simp; omega)
 have m5 : decide ((j : Int) < (x.fields.length : Int)) = true := decide_eq_true (by omega)
 by_cases hq : q ≤ 2500
 case neg =>
  have m6 : decide (q ≤ (2500 : Int)) = false := decide_eq_false hq
  refine goN ?_
  simp only [W, seval, b12, hn, m5, m6, hw]
  rw [app21]
  refine ih (i + 1, q) ⟨by omega, by dsimp only; omega, f3, hend2 (.inr hq)⟩ (by dsimp only; omega) _ _ _ _ rfl ⟨by simp; omega, Nat.le_refl _⟩ hf ?_
  refine AgreeF.env _ ?_
  simp only [agf, seval, hn]
  exact decide_eq_true (by simp; omega)
 have m6 : decide (q ≤ (2500 : Int)) = true := decide_eq_true hq
 have hw3 := wrap_in ((j : Int) + 1) (by omega)
 have hgf := List.getElem?_eq_getElem hlt2
 have f4' := f4 hq
 clear f4 hend2
 obtain ⟨y, hyy⟩ : ∃ y, x.fields[j] = y := ⟨_, rfl⟩
 rw [hyy] at hgf
 by_cases k5 : y.name.length ≤ 2500
 case neg =>
  have m7 : decide ((2500 : Int) < (y.name.length : Int)) = true := decide_eq_true (by omega)
  refine goN ?_
  simp only [W, seval, b12, hn, m5, m6, hgf, List.getElem?_map, fdD_eq, m7]
  refine retN b12 (Left.box ?_)
  exact ⟨2501, rfl, fun h => absurd h (by decide), rfl⟩
 have m7 : decide ((2500 : Int) < (y.name.length : Int)) = false := decide_eq_false (by omega)
 have hlj : (j : Int) < (x.fields.length : Int) := by omega
 have v1 := wrap_in (q + (y.name.length : Int)) (by omega)
 have hbx := fun (B : List (List V)) T => bulkX y.dflt B T
 unfold jsV at hbx
 refine goN ?_
 simp only [W, seval, b12, hn, m5, m6, hgf, List.getElem?_map, fdD_eq, m7]
 refine drXA 26 [] [N + 1] ?_
 simp (maxSteps := 4000000) only [W, seval, b12, xw, hn, hgf, List.getElem?_map, fdD_eq, hlj, hlt2, v1]
 refine callX_some (textsX_ne _) (fun Z => textsX _ _ _) ?_
 rintro v ⟨r3, rfl, c1, c2, c3⟩
 have v2 := wrap_in (q + (y.name.length : Int) + r3) (by omega)
 simp (maxSteps := 4000000) only [W, seval, b12, xw, hn, hgf, List.getElem?_map, fdD_eq, hlj, hlt2, v2]
 refine callX_some (bulkX_ne _) (fun Z => hbx _ _) ?_
 rintro v ⟨r4, rfl, d1, d2, d3⟩
 have v3 := wrap_in (q + (y.name.length : Int) + r3 + r4) (by omega)
 simp (maxSteps := 4000000) only [W, seval, b12, xw, hn, v3]
 refine goN ?_
 simp only [W, seval, b12, hn, hw3]
 refine ih2 (j + 1, q + (y.name.length : Int) + r3 + r4) ⟨by omega, by dsimp only; omega, by dsimp only; omega, fun hs k hk hki => ?_⟩ (by dsimp only; omega) _ _ ?_ rfl
 ·by_cases e : k = j
  ·subst e
   rw [hyy]
   exact ⟨⟨k5, c3 (by dsimp only at hs; omega)⟩, d3 (by dsimp only at hs; omega)⟩
  ·exact f4' k hk (by dsimp only at hki; omega)
 ·skip
  refine Agree.env _ ?_
  simp only [agw, seval, hn]
theorem great_few (s : ScT) (B : List (List V)) (T : List (Nat × Nat)) : AFn Tryz.prog TabI 4 [scV s] ⟨B, T⟩ fun v S => ∃ b : Bool, v = .d (.bool b) ∧ (b = false → SmS s) ∧ S = ⟨B, T⟩ := by
 obtain ⟨N, hn⟩ : ∃ N, B.length = N := ⟨_, rfl⟩
 have hb := fun B T => bulk_few s B T
 unfold scV at hb ⊢
 refine enS b4 fun hsm => ?_
 simp only [smw] at hsm
 simp only [W, seval, b4, hn]
 refine callS_fn (hb _ _) ?_
 rintro _ _ ⟨r, rfl, h1, rfl⟩
 refine goN ?_
 simp only [W, seval, b4, hn]
 refine retN b4 (Left.box ?_)
 exact ⟨_, rfl, fun h => h1 (by have := of_decide_eq_false h; omega), rfl⟩
def b53 := KB Tryz.func53 51
def jsZ : V := .agg [.d (.int .i64 0), .d (.int .i64 0), .d (.str []), .sl [] .full, .sl [] .full]
structure JsOk (fr fz : FuncId) (rj zj : JsT → Bool) : Prop where
 rgt : ∀ (j : JsT) (S : Mem), SmJ j → AFn Tryz.prog TabI fr [jsV j] S (Same (.d (.bool (rj j))) S)
 none : ∀ (j : JsT) (S : Mem), AFn Tryz.prog TabI fz [jsV j, jsZ] S (Same (.d (.bool (zj j))) S)
def fieldsF (rj zj : JsT → Bool) (l : List FdT) : Bool := l.all (fun f => allF SimpleS f.aliases && defF rj zj f) && (decide (l.length ≤ 40) && diffF SimpleS [] (l.map FdT.name))
theorem rule_simple : RuleB 55 SimpleS := simple_ab
theorem rule_full : RuleB 33 FullS := full_ab
theorem ssD_snoc (l : List (List UInt8)) (s : List UInt8) : ssD l ++ [[.str s]] = ssD (l ++ [s]) := by simp [ssD]
set_option maxHeartbeats 8000000 in
theorem fields_ab {rj zj : JsT → Bool} (hj : JsOk 73 74 rj zj) (l : List FdT) (hl : l.length ≤ 2500) (hs : ∀ f ∈ l, SmJ f.dflt) (B : List (List V)) (T : List (Nat × Nat)) : AFn Tryz.prog TabI 53 [.d (.sl (l.map fdD))] ⟨B, T⟩ (Same (.d (.bool (fieldsF rj zj l))) ⟨B, T⟩) := by
 obtain ⟨N, hn⟩ : ∃ N, B.length = N := ⟨_, rfl⟩
 obtain ⟨M, hM⟩ : ∃ M, T.length = M := ⟨_, rfl⟩
 generalize hres : fieldsF rj zj l = res
 refine enS b53 fun hsm => ?_
 simp only [smw] at hsm
 simp only [W, seval, b53, hn]
 refine ARun.fits fun hf => ?_
 refine ARun.token 3 [] (by rfl) 1 (by omega) rfl ?_
 simp only [envS_put, hM]
 refine ARun.loopB (fun i : Nat => (envS 51 [(0, .d (.sl (l.map fdD))), (3, .sl (ssD ((l.take i).map FdT.name)) (.own M)), (6, .d (.sl (l.map fdD))), (7, .d (.int .i64 l.length)), (8, .d (.int .i64 (i : Int)))], ⟨B, T ++ [(i, 1)]⟩)) (fun i => i ≤ l.length ∧ ((l.drop i).all (fun f => allF SimpleS f.aliases && defF rj zj f) && (decide (l.length ≤ 40) && diffF SimpleS [] (l.map FdT.name))) = res) (fun i => l.length - i) 0 ⟨by omega, hres⟩ envA rfl ?_
 rintro i ⟨h1, h2⟩ ih
 dsimp only at h1 h2 ih ⊢
 by_cases hlt : i < l.length
 case neg =>
  have e2 : decide ((i : Int) < (l.length : Int)) = false := decide_eq_false (by omega)
  rw [List.drop_eq_nil_of_le (by omega), List.all_nil, Bool.true_and] at h2
  rw [List.take_of_length_le (by omega)]
  by_cases h40 : l.length ≤ 40
  ·have e3 : decide ((l.length : Int) ≤ 40) = true := decide_eq_true (by omega)
   rw [decide_eq_true h40, Bool.true_and] at h2
   refine goN ?_
   simp only [W, seval, b53, hn, e2, e3]
   refine callN (AFn.pl (different_ab rule_simple (l.map FdT.name) (by simp; omega) _ _)) ?_
   refine goN ?_
   simp only [W, seval, b53]
   refine retN b53 (Left.tok ?_)
   rw [← h2]
   exact ⟨rfl, rfl⟩
  ·have e3 : decide ((l.length : Int) ≤ 40) = false := decide_eq_false (by omega)
   rw [decide_eq_false h40, Bool.false_and] at h2
   refine goN ?_
   simp only [W, seval, b53, hn, e2, e3]
   refine retN b53 (Left.tok ?_)
   rw [← h2]
   exact ⟨rfl, rfl⟩
 have e2 : decide ((i : Int) < (l.length : Int)) = true := decide_eq_true (by omega)
 have hw := wrap_in ((i : Int) + 1) (by omega)
 have hge := List.getElem?_eq_getElem hlt
 have hx := hs l[i] (List.getElem_mem hlt)
 rw [drop_get hlt, List.all_cons] at h2
 have htk : (l.take (i + 1)).map FdT.name = (l.take i).map FdT.name ++ [l[i].name] := by rw [List.take_succ_eq_append_getElem hlt, List.map_append]; rfl
 obtain ⟨y, hyy⟩ : ∃ x, l[i] = x := ⟨_, rfl⟩
 rw [hyy] at hge hx h2 htk
 have hcap : (i + 1) * 16 ≤ 140737488355328 := by omega
 have htl : ((l.take i).map FdT.name).length = i := by simp; omega
 have hr1 : rowsSz 1 [[D.str y.name]] = true := rfl
 have hal := fun S => all_ab rule_simple y.aliases S T
 have hJ := fun S => hj.rgt y.dflt S hx
 have hZ := fun S => hj.none y.dflt S
 unfold jsV at hJ hZ
 unfold jsZ at hZ
 refine goN ?_
 simp only [W, seval, b53, hn, hM, e2, hge, List.getElem?_map, fdD_eq, hcap, htl, ssD_snoc, Nat.reduceMul, mapX_nil, mapX_cons, hr1, ← htk]
 refine callN (all_ab rule_simple y.aliases _ _) ?_
 clear hal
 have hfit : Fits ⟨B, T ++ [(i + 1, 1)]⟩ := (hf.toks (T' := T) rfl).more (X := []) (Y := [(i + 1, 1)]) (fun _ h => absurd h List.not_mem_nil) |> fun h => by simpa using h
 cases c1 : allF SimpleS y.aliases
 ·rw [c1, Bool.false_and, Bool.false_and, Bool.false_and] at h2
  refine goN ?_
  simp only [W, seval, b53, hn]
  refine retN b53 (Left.all ?_)
  rw [← h2]
  exact ⟨rfl, rfl⟩
 rw [c1, Bool.true_and, defF] at h2
 cases c2 : y.has
 ·rw [c2, if_neg (by decide)] at h2
  refine goN ?_
  simp only [W, seval, b53, hn, hM]
  refine callN (hZ _) ?_
  cases c3 : zj y.dflt
  ·rw [c3, Bool.false_and, Bool.false_and] at h2
   refine goN ?_
   simp only [W, seval, b53, hn]
   refine retN b53 (Left.all ?_)
   rw [← h2]
   exact ⟨rfl, rfl⟩
  ·rw [c3, Bool.true_and] at h2
   refine goN ?_
   simp only [W, seval, b53, hn, hw]
   refine ih (i + 1) ⟨by omega, h2⟩ (by omega) _ _ _ _ rfl ⟨by omega, by simp; omega⟩ hfit ?_
   refine AgreeF.env _ ?_
   simp only [agf, seval, hn]
   simp
   omega
 ·rw [c2, if_pos rfl] at h2
  refine goN ?_
  simp only [W, seval, b53, hn, hM]
  refine callN (hJ _) ?_
  cases c3 : rj y.dflt
  ·rw [c3, Bool.false_and, Bool.false_and] at h2
   refine goN ?_
   simp only [W, seval, b53, hn]
   refine retN b53 (Left.all ?_)
   rw [← h2]
   exact ⟨rfl, rfl⟩
  ·rw [c3, Bool.true_and] at h2
   refine goN ?_
   simp only [W, seval, b53, hn, hw]
   refine ih (i + 1) ⟨by omega, h2⟩ (by omega) _ _ _ _ rfl ⟨by omega, by simp; omega⟩ hfit ?_
   refine AgreeF.env _ ?_
   simp only [agf, seval, hn]
   simp
   omega
def b56 := KB Tryz.func56 39
def b77 := KB Tryz.func77 24
theorem rowsSz_is (l : List Int) : rowsSz 1 (isD l) = true := rowsSz_map (fun i : Int => [D.int .i64 i]) (fun _ => rfl) l
theorem isD_take (l : List Int) (n : Nat) : (isD l).take n = isD (l.take n) := by simp [isD, List.map_take]
def kdN (l : List NdT) (k : Int) : Int := (ndN l k.toNat).kind
theorem ndN_at {l : List NdT} {k : Nat} (h : k < l.length) : ndN l k = l[k] := by simp [ndN, List.getD, h]
theorem nd_row {l : List NdT} {m : Int} (h0 : 0 ≤ m) (h : m < (l.length : Int)) : (l.map ndD)[m.toNat]? = some (ndD (ndN l m.toNat)) := by
 have h' : m.toNat < l.length := by omega
 rw [ndN_at h']
 simp [h']
set_option maxHeartbeats 4000000 in
theorem union1_ab (l : List NdT) (root m k kd : Int) (a b c : Nat) (B : List (List V)) (T : List (Nat × Nat)) (ha : B[a]? = some [.d (.int .i64 k)]) (hb : B[b]? = some [.d (.int .i64 kd)]) (hc : B[c]? = some [.d (.sl (l.map ndD)), .d (.int .i64 root)]) (hm : 0 ≤ m ∧ m < (l.length : Int)) :
 AFn Tryz.prog TabI 77 [.d (.int .i64 m), .ptr a 0, .ptr b 0, .ptr c 0] ⟨B, T⟩ (Same (.d (.bool (decide (m = k) || (!namedB kd && decide (kdN l m = kd))))) ⟨B, T⟩) := by
 obtain ⟨j, hj⟩ : ∃ j : Nat, m = (j : Int) := ⟨m.toNat, by omega⟩
 subst hj
 have hg := nd_row hm.1 hm.2
 rw [ndD_eq] at hg
 simp only [Int.toNat_natCast] at hg
 have hlt : j < l.length := by omega
 have hlt' : (j : Int) < (l.length : Int) := hm.2
 have hn := fun S => named_ab kd S
 unfold kdN
 rw [Int.toNat_natCast]
 cases e1 : decide ((j : Int) = k)
 ·cases e2 : namedB kd
  ·rw [e2] at hn
   refine enS b77 fun hsm => ?_
   simp only [smw] at hsm
   simp only [W, seval, b77, ha, hb, hc]
   refine drXA 15 [] [a, b, c] ?_
   simp (maxSteps := 4000000) only [W, seval, b77, xw, ha, hb, hc, e1]
   refine callX_fn (fun Z => hn _) ?_
   simp (maxSteps := 4000000) only [W, seval, b77, xw, ha, hb, hc, hg, hlt, hlt']
   refine goN ?_
   simp only [W, seval, b77]
   refine retN b77 (Left.none ?_)
   exact ⟨rfl, rfl⟩
  ·rw [e2] at hn
   refine enS b77 fun hsm => ?_
   simp only [smw] at hsm
   simp only [W, seval, b77, ha, hb, hc]
   refine drXA 15 [] [a, b, c] ?_
   simp (maxSteps := 4000000) only [W, seval, b77, xw, ha, hb, hc, e1]
   refine callX_fn (fun Z => hn _) ?_
   simp (maxSteps := 4000000) only [W, seval, b77, xw, ha, hb, hc, hg, hlt, hlt']
   refine goN ?_
   simp only [W, seval, b77]
   refine retN b77 (Left.none ?_)
   exact ⟨rfl, rfl⟩
 ·refine enS b77 fun hsm => ?_
  simp only [smw] at hsm
  simp only [W, seval, b77, ha, hb, hc]
  refine drXA 15 [] [a, b, c] ?_
  simp (maxSteps := 4000000) only [W, seval, b77, xw, ha, hb, hc, e1]
  refine goN ?_
  simp only [W, seval, b77]
  refine retN b77 (Left.none ?_)
  exact ⟨rfl, rfl⟩
theorem unionF_take (kd : Int → Int) (l : List Int) (i : Nat) (h : i < l.length) : unionF kd (l.take i) (l.drop i) = ((!decide (kd l[i] = 13) && !(l.take i).any fun m => decide (m = l[i]) || (!namedB (kd l[i]) && decide (kd m = kd l[i]))) && unionF kd (l.take (i + 1)) (l.drop (i + 1))) := by
 rw [List.drop_eq_getElem_cons h, unionF, List.take_succ_eq_append_getElem h, ← any_notS]
 simp only [Bool.not_not]
set_option maxHeartbeats 8000000 in
theorem union_ab (l : List NdT) (root : Int) (bs : List Int) (hb : ∀ k ∈ bs, 0 ≤ k ∧ k < (l.length : Int)) (B : List (List V)) (T : List (Nat × Nat)) :
 AFn Tryz.prog TabI 56 [.agg [.d (.sl (l.map ndD)), .d (.int .i64 root)], .d (.sl (isD bs))] ⟨B, T⟩ (Same (.d (.bool (decide (1 ≤ bs.length) && (decide (bs.length ≤ 10) && unionF (kdN l) [] bs)))) ⟨B, T⟩) := by
 obtain ⟨N, hn⟩ : ∃ N, B.length = N := ⟨_, rfl⟩
 have hll := isD_len bs
 by_cases h1 : 1 ≤ bs.length
 case neg =>
  have e1 : decide ((bs.length : Int) < 1) = true := decide_eq_true (by omega)
  rw [decide_eq_false h1]
  refine enS b56 fun hsm => ?_
  simp only [smw] at hsm
  simp only [W, seval, b56, hn, hll, e1]
  refine retN b56 (Left.box ?_)
  exact ⟨rfl, rfl⟩
 have e1 : decide ((bs.length : Int) < 1) = false := decide_eq_false (by omega)
 by_cases h10 : bs.length ≤ 10
 case neg =>
  have e2 : decide ((10 : Int) < (bs.length : Int)) = true := decide_eq_true (by omega)
  rw [decide_eq_true h1, decide_eq_false h10]
  refine enS b56 fun hsm => ?_
  simp only [smw] at hsm
  simp only [W, seval, b56, hn, hll, e1, e2]
  refine retN b56 (Left.box ?_)
  exact ⟨rfl, rfl⟩
 have e2 : decide ((10 : Int) < (bs.length : Int)) = false := decide_eq_false (by omega)
 rw [decide_eq_true h1, decide_eq_true h10, Bool.true_and, Bool.true_and]
 generalize hres : unionF (kdN l) [] bs = res
 refine enS b56 fun hsm => ?_
 simp only [smw] at hsm
 simp only [W, seval, b56, hn, hll, e1, e2]
 refine ARun.fits fun hf => ?_
 refine ARun.loopB (fun i : Nat => (envS 39 [(1, .d (.sl (isD bs))), (2, .ptr N 0), (16, .d (.sl (isD bs))), (17, .d (.int .i64 bs.length)), (18, .d (.int .i64 (i : Int)))], ⟨B ++ [[.d (.sl (l.map ndD)), .d (.int .i64 root)]], T⟩)) (fun i => i ≤ bs.length ∧ unionF (kdN l) (bs.take i) (bs.drop i) = res) (fun i => bs.length - i) 0 ⟨by omega, hres⟩ envA rfl ?_
 rintro i ⟨g1, g2⟩ ih
 dsimp only at g1 g2 ih ⊢
 by_cases hlt : i < bs.length
 case neg =>
  have e3 : decide ((i : Int) < (bs.length : Int)) = false := decide_eq_false (by omega)
  rw [List.drop_eq_nil_of_le (by omega), unionF] at g2
  refine goN ?_
  simp only [W, seval, b56, hn, e3]
  refine retN b56 (Left.box ?_)
  rw [← g2]
  exact ⟨rfl, rfl⟩
 have e3 : decide ((i : Int) < (bs.length : Int)) = true := decide_eq_true (by omega)
 have hw := wrap_in ((i : Int) + 1) (by omega)
 have hge := isD_at hlt
 have hk := hb _ (List.getElem_mem hlt)
 rw [unionF_take (kdN l) bs i hlt] at g2
 obtain ⟨k, hkk⟩ : ∃ x, bs[i] = x := ⟨_, rfl⟩
 rw [hkk] at hge hk g2
 obtain ⟨j, hj⟩ : ∃ j : Nat, k = (j : Int) := ⟨k.toNat, by omega⟩
 subst hj
 have hg := nd_row hk.1 hk.2
 rw [ndD_eq] at hg
 simp only [Int.toNat_natCast] at hg
 have hltj : j < l.length := by omega
 have hltj' : (j : Int) < (l.length : Int) := hk.2
 have hkd : kdN l (j : Int) = (ndN l j).kind := by unfold kdN; rw [Int.toNat_natCast]
 rw [hkd] at g2
 by_cases h13 : (ndN l j).kind = 13
 ·have e4 := decide_eq_true h13
  rw [e4] at g2
  refine goN ?_
  simp only [W, seval, b56, hn, hll, e3, hge, hg, hltj, hltj', e4]
  refine retN b56 (Left.box ?_)
  rw [← g2]
  exact ⟨rfl, rfl⟩
 have e4 := decide_eq_false h13
 have hle : (i : Int) ≤ (bs.length : Int) := by omega
 rw [e4] at g2
 refine goN ?_
 simp only [W, seval, b56, hn, hll, e3, hge, hg, hltj, hltj', e4, isD_take, rowsSz_is, and_true, if_pos hle]
 have hbx : ∀ Y Z : List V, (B ++ [[V.d (.sl (l.map ndD)), .d (.int .i64 root)], Y, Z])[N]? = some [V.d (.sl (l.map ndD)), .d (.int .i64 root)] := fun Y Z => by rw [← hn]; simp
 have hbx1 : ∀ X Y Z : List V, (B ++ [X, Y, Z])[N + 1]? = some Y := fun X Y Z => by rw [← hn]; simp
 have hbx2 : ∀ X Y Z : List V, (B ++ [X, Y, Z])[N + 2]? = some Z := fun X Y Z => by rw [← hn]; simp
 refine callNo (containsP_i 77 [] [.ptr (N + 1) 0, .ptr (N + 2) 0, .ptr N 0] (fun m => decide (m = (j : Int)) || (!namedB (ndN l j).kind && decide (kdN l m = (ndN l j).kind))) (bs.take i) (by rw [List.length_take]; omega) _ fun x hx => union1_ab l root x j (ndN l j).kind (N + 1) (N + 2) N _ _ (hbx1 _ _ _) (hbx2 _ _ _) (hbx _ _) (hb x (List.mem_of_mem_take hx))) ?_
 obtain ⟨q, hq⟩ : ∃ q, ((bs.take i).any fun m => decide (m = (j : Int)) || (!namedB (ndN l j).kind && decide (kdN l m = (ndN l j).kind))) = q := ⟨_, rfl⟩
 rw [hq] at g2 ⊢
 cases q
 ·simp only [Bool.not_false, Bool.and_true, Bool.true_and] at g2
  refine goN ?_
  simp only [W, seval, b56, hn, hw]
  have e5 : ∀ X Y Z : List V, B ++ [X, Y, Z] = (B ++ [X]) ++ [Y, Z] := fun X Y Z => by simp
  rw [e5]
  refine ih (i + 1) ⟨by omega, g2⟩ (by omega) _ _ _ _ rfl ⟨by simp; omega, Nat.le_refl _⟩ hf ?_
  refine AgreeF.env _ ?_
  simp only [agf, seval, hn]
  exact decide_eq_true (by simp; omega)
 ·simp only [Bool.not_true, Bool.and_false, Bool.false_and] at g2
  refine goN ?_
  simp only [W, seval, b56, hn]
  refine retN b56 (Left.box ?_)
  rw [← g2]
  exact ⟨rfl, rfl⟩
def b35 := KB Tryz.func35 5
def b34 := KB Tryz.func34 5
def b36 := KB Tryz.func36 5
def b18 := KB Tryz.func18 24
def b14 := KB Tryz.func14 58
def snN (l : List NdT) (a : Nat) : List UInt8 := snmN nameL numL l a
def tyN (l : List NdT) (f a : Nat) : TyT := typN nameL numL l f a
theorem gplain_ab (k : Int) (B : List (List V)) (T : List (Nat × Nat)) : AFn Tryz.prog TabI 35 [.d (.int .i64 k)] ⟨B, T⟩ (Same (tyV (.mk k [] [])) ⟨B, T⟩) := by
 obtain ⟨N, hn⟩ : ∃ N, B.length = N := ⟨_, rfl⟩
 refine enN b35 ?_
 simp only [W, seval, b35, hn]
 refine ret1A b35 (Left.box ?_)
 exact ⟨rfl, rfl⟩
theorem gnamed_ab (s : List UInt8) (B : List (List V)) (T : List (Nat × Nat)) : AFn Tryz.prog TabI 34 [.d (.str s)] ⟨B, T⟩ (Same (tyV (.mk 7 s [])) ⟨B, T⟩) := by
 obtain ⟨N, hn⟩ : ∃ N, B.length = N := ⟨_, rfl⟩
 refine enN b34 ?_
 simp only [W, seval, b34, hn]
 refine ret1A b34 (Left.box ?_)
 exact ⟨rfl, rfl⟩
theorem gslice_ab (t : TyT) (B : List (List V)) (T : List (Nat × Nat)) : AFn Tryz.prog TabI 36 [.d (.sl [tyD t])] ⟨B, T⟩ (Same (tyV (slT t)) ⟨B, T⟩) := by
 obtain ⟨N, hn⟩ : ∃ N, B.length = N := ⟨_, rfl⟩
 refine enN b36 ?_
 simp only [W, seval, b36, hn]
 refine ret1A b36 (Left.box ?_)
 exact ⟨rfl, rfl⟩
set_option maxHeartbeats 4000000 in
theorem sname_ab (l : List NdT) (root : Int) (hs : ∀ n ∈ l, SmN n) (hl : l.length ≤ 200) (a : Nat) (ha : a < l.length) (B : List (List V)) (T : List (Nat × Nat)) :
 AFn Tryz.prog TabI 18 [.agg [.d (.sl (l.map ndD)), .d (.int .i64 root)], .d (.int .i64 a)] ⟨B, T⟩ (Same (.d (.str (snN l a))) ⟨B, T⟩) := by
 obtain ⟨N, hn⟩ : ∃ N, B.length = N := ⟨_, rfl⟩
 have hg := nd_row (l := l) (m := (a : Int)) (by omega) (by omega)
 rw [ndD_eq] at hg
 simp only [Int.toNat_natCast] at hg
 have hsx : SmN (ndN l a) := by rw [ndN_at ha]; exact hs _ (List.getElem_mem ha)
 have hti : (a : Int) < (l.length : Int) := by omega
 unfold snN snmN
 obtain ⟨x, hx⟩ : ∃ x, ndN l a = x := ⟨_, rfl⟩
 rw [hx] at hg hsx ⊢
 refine b18.1.go 13 rfl fun hsm => ?_
 simp only [smw] at hsm
 simp only [W, seval, b18, hn, hg, ha, hti]
 by_cases k9 : x.kind = 9
 ·have e9 := decide_eq_true k9
  rw [if_pos k9]
  refine goN ?_
  simp only [W, seval, b18, hn, e9]
  refine callN (mname_ab x.name hsx.1.1 _) ?_
  refine goN ?_
  simp only [W, seval, b18, hn]
  refine retN b18 (Left.box ?_)
  exact ⟨rfl, rfl⟩
 have e9 := decide_eq_false k9
 rw [if_neg k9]
 by_cases k12 : x.kind = 12
 ·have e12 := decide_eq_true k12
  rw [if_pos k12]
  refine goN ?_
  simp only [W, seval, b18, hn, e9, e12]
  refine callN (mnum_ab [77] (by simp) a (by omega) _) ?_
  refine goN ?_
  simp only [W, seval, b18, hn]
  refine retN b18 (Left.box ?_)
  exact ⟨rfl, rfl⟩
 ·have e12 := decide_eq_false k12
  rw [if_neg k12]
  refine goN ?_
  simp only [W, seval, b18, hn, e9, e12]
  refine callN (mnum_ab [85] (by simp) a (by omega) _) ?_
  refine goN ?_
  simp only [W, seval, b18, hn]
  refine retN b18 (Left.box ?_)
  exact ⟨rfl, rfl⟩
theorem tyD_mk (k : Int) (n : List UInt8) : tyD (.mk k n []) = [.int .i64 k, .str n, .sl []] := tyD_eq _
theorem tyV_mk (k : Int) (n : List UInt8) (es : List TyT) : tyV (.mk k n es) = .agg [.d (.int .i64 k), .d (.str n), .d (.sl (es.map tyD))] := rfl
def OfN (l : List NdT) (root : Int) (f : Nat) : Prop := ∀ a, ArrN l f a → ∀ (B : List (List V)) (T : List (Nat × Nat)),
 AFn Tryz.prog TabI 14 [.agg [.d (.sl (l.map ndD)), .d (.int .i64 root)], .d (.int .i64 a)] ⟨B, T⟩ (Same (tyV (tyN l f a)) ⟨B, T⟩)
set_option maxHeartbeats 8000000 in
theorem gof_step (l : List NdT) (root : Int) (hs : ∀ n ∈ l, SmN n) (hl : l.length ≤ 200) (f : Nat) (ihf : OfN l root f) : OfN l root (f + 1) := by
 intro a har B T
 obtain ⟨N, hn⟩ : ∃ N, B.length = N := ⟨_, rfl⟩
 obtain ⟨ha, har⟩ := har
 have hg := nd_row (l := l) (m := (a : Int)) (by omega) (by omega)
 rw [ndD_eq] at hg
 simp only [Int.toNat_natCast] at hg
 have hti : (a : Int) < (l.length : Int) := by omega
 have hsn := fun B T => sname_ab l root hs hl a ha B T
 unfold tyN typN
 dsimp only
 rw [show snmN nameL numL l a = snN l a from rfl, show typN nameL numL l f (ndN l a).items.toNat = tyN l f (ndN l a).items.toNat from rfl]
 obtain ⟨q, hq⟩ : ∃ q, snN l a = q := ⟨_, rfl⟩
 rw [hq] at hsn ⊢
 obtain ⟨x, hx⟩ : ∃ x, ndN l a = x := ⟨_, rfl⟩
 rw [hx] at hg har ⊢
 obtain ⟨kd, hkd⟩ : ∃ kd, x.kind = kd := ⟨_, rfl⟩
 rw [hkd] at hg har ⊢
 refine b14.1.go 16 rfl fun hsm => ?_
 simp only [smw] at hsm
 simp only [W, seval, b14, hn, hg, ha, hti]
 by_cases k1 : kd = 1
 ·subst k1
  refine goN ?_
  simp only [W, seval, b14, hn, tyV_mk, decide_true, decide_false]
  refine callN (gnamed_ab [90] _ _) ?_
  refine goN ?_
  simp only [W, seval, b14, hn, tyV_mk, decide_true, decide_false]
  refine ret1A b14 (Left.box ?_)
  exact ⟨rfl, rfl⟩
 by_cases k2 : kd = 2
 ·subst k2
  refine goN ?_
  simp only [W, seval, b14, hn, tyV_mk, decide_true, decide_false]
  refine callN (gplain_ab 1 _ _) ?_
  refine goN ?_
  simp only [W, seval, b14, hn, tyV_mk, decide_true, decide_false]
  refine ret1A b14 (Left.box ?_)
  exact ⟨rfl, rfl⟩
 by_cases k3 : kd = 3
 ·subst k3
  refine goN ?_
  simp only [W, seval, b14, hn, tyV_mk, decide_true, decide_false]
  refine callN (gplain_ab 3 _ _) ?_
  refine goN ?_
  simp only [W, seval, b14, hn, tyV_mk, decide_true, decide_false]
  refine ret1A b14 (Left.box ?_)
  exact ⟨rfl, rfl⟩
 by_cases k4 : kd = 4
 ·subst k4
  refine goN ?_
  simp only [W, seval, b14, hn, tyV_mk, decide_true, decide_false]
  refine callN (gplain_ab 4 _ _) ?_
  refine goN ?_
  simp only [W, seval, b14, hn, tyV_mk, decide_true, decide_false]
  refine ret1A b14 (Left.box ?_)
  exact ⟨rfl, rfl⟩
 by_cases k10 : kd = 10
 ·subst k10
  refine goN ?_
  simp only [W, seval, b14, hn, tyV_mk, decide_true, decide_false]
  refine callN (gplain_ab 4 _ _) ?_
  refine goN ?_
  simp only [W, seval, b14, hn, tyV_mk, decide_true, decide_false]
  refine ret1A b14 (Left.box ?_)
  exact ⟨rfl, rfl⟩
 by_cases k5 : kd = 5
 ·subst k5
  refine goN ?_
  simp only [W, seval, b14, hn, tyV_mk, decide_true, decide_false]
  refine callN (gplain_ab 5 _ _) ?_
  refine goN ?_
  simp only [W, seval, b14, hn, tyV_mk, decide_true, decide_false]
  refine ret1A b14 (Left.box ?_)
  exact ⟨rfl, rfl⟩
 by_cases k6 : kd = 6
 ·subst k6
  refine goN ?_
  simp only [W, seval, b14, hn, tyV_mk, decide_true, decide_false]
  refine callN (gplain_ab 6 _ _) ?_
  refine goN ?_
  simp only [W, seval, b14, hn, tyV_mk, decide_true, decide_false]
  refine ret1A b14 (Left.box ?_)
  exact ⟨rfl, rfl⟩
 have e1 := decide_eq_false k1
 have e2 := decide_eq_false k2
 have e3 := decide_eq_false k3
 have e4 := decide_eq_false k4
 have e10 := decide_eq_false k10
 have e5 := decide_eq_false k5
 have e6 := decide_eq_false k6
 by_cases k9 : kd = 9
 ·subst k9
  refine goN ?_
  simp only [W, seval, b14, hn, tyV_mk, decide_true, decide_false]
  refine callN (hsn _ _) ?_
  refine goN ?_
  simp only [W, seval, b14, hn, tyV_mk, decide_true, decide_false]
  refine callN (gnamed_ab q _ _) ?_
  refine goN ?_
  simp only [W, seval, b14, hn, tyV_mk, decide_true, decide_false, mapX_nil, mapX_cons, mapX_sl]
  refine callN (AFn.pl (gslice_ab (.mk 7 q []) _ _) (by rw [tyD_mk]; rfl)) ?_
  refine goN ?_
  simp only [W, seval, b14, hn, tyV_mk, slT, decide_true, decide_false]
  refine ret1A b14 (Left.box ?_)
  exact ⟨rfl, rfl⟩
 by_cases k12 : kd = 12
 ·subst k12
  refine goN ?_
  simp only [W, seval, b14, hn, tyV_mk, decide_true, decide_false]
  refine callN (hsn _ _) ?_
  refine goN ?_
  simp only [W, seval, b14, hn, tyV_mk, decide_true, decide_false]
  refine callN (gnamed_ab q _ _) ?_
  refine goN ?_
  simp only [W, seval, b14, hn, tyV_mk, decide_true, decide_false, mapX_nil, mapX_cons, mapX_sl]
  refine callN (AFn.pl (gslice_ab (.mk 7 q []) _ _) (by rw [tyD_mk]; rfl)) ?_
  refine goN ?_
  simp only [W, seval, b14, hn, tyV_mk, slT, decide_true, decide_false]
  refine ret1A b14 (Left.box ?_)
  exact ⟨rfl, rfl⟩
 by_cases k11 : kd = 11
 ·subst k11
  refine goN ?_
  simp only [W, seval, b14, hn, tyV_mk, decide_true, decide_false]
  obtain ⟨h0, har⟩ := har rfl
  have hof := fun B T => ihf x.items.toNat har B T
  rw [Int.toNat_of_nonneg h0] at hof
  obtain ⟨t, ht⟩ : ∃ t, tyN l f x.items.toNat = t := ⟨_, rfl⟩
  rw [ht] at hof ⊢
  refine callN (hof _ _) ?_
  refine goN ?_
  simp only [W, seval, b14, hn, tyV, decide_true, decide_false, mapX_nil, mapX_cons, mapX_sl]
  refine callN (AFn.pl (gslice_ab t _ _) (by rw [tyD_eq]; rfl)) ?_
  refine goN ?_
  simp only [W, seval, b14, hn, tyV_mk, slT, decide_true, decide_false]
  refine ret1A b14 (Left.box ?_)
  exact ⟨rfl, rfl⟩
 by_cases k13 : kd = 13
 ·subst k13
  refine goN ?_
  simp only [W, seval, b14, hn, tyV_mk, decide_true, decide_false]
  refine callN (hsn _ _) ?_
  refine goN ?_
  simp only [W, seval, b14, hn, tyV_mk, decide_true, decide_false]
  refine callN (gnamed_ab q _ _) ?_
  refine goN ?_
  simp only [W, seval, b14, hn, tyV_mk, slT, decide_true, decide_false]
  refine ret1A b14 (Left.box ?_)
  exact ⟨rfl, rfl⟩
 have e9 := decide_eq_false k9
 have e12 := decide_eq_false k12
 have e11 := decide_eq_false k11
 have e13 := decide_eq_false k13
 have hk : ¬ (kd = 4 ∨ kd = 10) := fun h => h.elim k4 k10
 have hk2 : ¬ (kd = 9 ∨ kd = 12) := fun h => h.elim k9 k12
 rw [if_neg k1, if_neg k2, if_neg k3, if_neg hk, if_neg k5, if_neg k6, if_neg hk2, if_neg k11, if_neg k13]
 refine goN ?_
 simp only [W, seval, b14, hn, e1, e2, e3, e4, e10, e5, e6, e9, e12, e11, e13]
 refine callN (gplain_ab 2 _ _) ?_
 refine goN ?_
 simp only [W, seval, b14, hn, tyV_mk, decide_true, decide_false, mapX_nil, mapX_cons, mapX_sl]
 refine callN (AFn.pl (gslice_ab (.mk 2 [] []) _ _) (by rw [tyD_mk]; rfl)) ?_
 refine goN ?_
 simp only [W, seval, b14, hn, tyV_mk, slT, decide_true, decide_false]
 refine ret1A b14 (Left.box ?_)
 exact ⟨rfl, rfl⟩
theorem gof_ab (l : List NdT) (root : Int) (hs : ∀ n ∈ l, SmN n) (hl : l.length ≤ 200) : ∀ f, OfN l root f
 | 0 => fun _ h => h.elim
 | f + 1 => gof_step l root hs hl f (gof_ab l root hs hl f)
def b23 := KB Tryz.func23 6
def b21 := KB Tryz.func21 3
def b19 := KB Tryz.func19 30
def b16 := KB Tryz.func16 53
theorem rslice_ab (t : TyT) (B : List (List V)) (T : List (Nat × Nat)) : AFn Tryz.prog TabI 23 [tyV t] ⟨B, T⟩ (Same (tyV (slT t)) ⟨B, T⟩) := by
 obtain ⟨N, hn⟩ : ∃ N, B.length = N := ⟨_, rfl⟩
 unfold tyV
 refine enN b23 ?_
 simp only [W, seval, b23, hn, mapX_nil, mapX_cons, mapX_sl]
 refine ret1A b23 (Left.box ?_)
 refine ⟨?_, rfl⟩
 simp [wk, wkL, slT, TyT.kind, TyT.name, TyT.elem, tyD_eq t]
theorem rbytes_ab (B : List (List V)) (T : List (Nat × Nat)) : AFn Tryz.prog TabI 21 [] ⟨B, T⟩ (Same (tyV (slT (.mk 2 [] []))) ⟨B, T⟩) := by
 obtain ⟨N, hn⟩ : ∃ N, B.length = N := ⟨_, rfl⟩
 have h := fun B T => rslice_ab (.mk 2 [] []) B T
 unfold tyV at h ⊢
 refine enN b21 ?_
 simp only [W, seval, b21, hn]
 refine callN (AFn.pl (h _ _)) ?_
 refine goN ?_
 simp only [W, seval, b21, hn]
 refine ret1A b21 (Left.box ?_)
 exact ⟨rfl, rfl⟩
set_option maxHeartbeats 4000000 in
theorem rnm_ab (l : List NdT) (root : Int) (hs : ∀ n ∈ l, SmN n) (hl : l.length ≤ 200) (a : Nat) (ha : a < l.length) (B : List (List V)) (T : List (Nat × Nat)) :
 AFn Tryz.prog TabI 19 [.agg [.d (.sl (l.map ndD)), .d (.int .i64 root)], .d (.int .i64 a)] ⟨B, T⟩ (Same (.d (.str (snN l a))) ⟨B, T⟩) := by
 obtain ⟨N, hn⟩ : ∃ N, B.length = N := ⟨_, rfl⟩
 have hg := nd_row (l := l) (m := (a : Int)) (by omega) (by omega)
 rw [ndD_eq] at hg
 simp only [Int.toNat_natCast] at hg
 have hsx : SmN (ndN l a) := by rw [ndN_at ha]; exact hs _ (List.getElem_mem ha)
 have hti : (a : Int) < (l.length : Int) := by omega
 unfold snN snmN
 obtain ⟨x, hx⟩ : ∃ x, ndN l a = x := ⟨_, rfl⟩
 rw [hx] at hg hsx ⊢
 by_cases k9 : x.kind = 9
 ·have e9 := decide_eq_true k9
  rw [if_pos k9]
  refine enS b19 fun hsm => ?_
  simp only [smw] at hsm
  simp only [W, seval, b19, hn, hg, ha, hti, e9]
  refine callN (rname_ab x.name hsx.1.1 _) ?_
  refine goN ?_
  simp only [W, seval, b19, hn]
  refine retN b19 (Left.box ?_)
  exact ⟨rfl, rfl⟩
 have e9 := decide_eq_false k9
 rw [if_neg k9]
 by_cases k12 : x.kind = 12
 ·have e12 := decide_eq_true k12
  rw [if_pos k12]
  refine enS b19 fun hsm => ?_
  simp only [smw] at hsm
  simp only [W, seval, b19, hn, hg, ha, hti, e9, e12]
  refine callN (rnum_ab [77] (by simp) a (by omega) _) ?_
  refine goN ?_
  simp only [W, seval, b19, hn]
  refine retN b19 (Left.box ?_)
  exact ⟨rfl, rfl⟩
 ·have e12 := decide_eq_false k12
  rw [if_neg k12]
  refine enS b19 fun hsm => ?_
  simp only [smw] at hsm
  simp only [W, seval, b19, hn, hg, ha, hti, e9, e12]
  refine callN (rnum_ab [85] (by simp) a (by omega) _) ?_
  refine goN ?_
  simp only [W, seval, b19, hn]
  refine retN b19 (Left.box ?_)
  exact ⟨rfl, rfl⟩
def OfR32 (l : List NdT) (root : Int) (f : Nat) : Prop := ∀ a, ArrN l f a → ∀ (B : List (List V)) (T : List (Nat × Nat)),
 AFn Tryz.prog TabI 16 [.agg [.d (.sl (l.map ndD)), .d (.int .i64 root)], .d (.int .i64 a)] ⟨B, T⟩ (Same (tyV (tyN l f a)) ⟨B, T⟩)
set_option maxHeartbeats 8000000 in
theorem rty32_step (l : List NdT) (root : Int) (hs : ∀ n ∈ l, SmN n) (hl : l.length ≤ 200) (f : Nat) (ihf : OfR32 l root f) : OfR32 l root (f + 1) := by
 intro a har B T
 obtain ⟨N, hn⟩ : ∃ N, B.length = N := ⟨_, rfl⟩
 obtain ⟨ha, har⟩ := har
 have hg := nd_row (l := l) (m := (a : Int)) (by omega) (by omega)
 rw [ndD_eq] at hg
 simp only [Int.toNat_natCast] at hg
 have hti : (a : Int) < (l.length : Int) := by omega
 have hsn := fun B T => rnm_ab l root hs hl a ha B T
 unfold tyN typN
 dsimp only
 rw [show snmN nameL numL l a = snN l a from rfl, show typN nameL numL l f (ndN l a).items.toNat = tyN l f (ndN l a).items.toNat from rfl]
 obtain ⟨q, hq⟩ : ∃ q, snN l a = q := ⟨_, rfl⟩
 rw [hq] at hsn ⊢
 obtain ⟨x, hx⟩ : ∃ x, ndN l a = x := ⟨_, rfl⟩
 rw [hx] at hg har ⊢
 obtain ⟨kd, hkd⟩ : ∃ kd, x.kind = kd := ⟨_, rfl⟩
 rw [hkd] at hg har ⊢
 have hsl := fun B T => rslice_ab (.mk 7 q []) B T
 unfold tyV at hsl
 refine enS b16 fun hsm => ?_
 simp only [smw] at hsm
 simp only [W, seval, b16, hn, hg, ha, hti]
 refine callN (hsn _ _) ?_
 refine ARun.go 11 ?_
 simp only [W, seval, b16, hn]
 by_cases k1 : kd = 1
 ·subst k1
  refine goN ?_
  simp only [W, seval, b16, hn, decide_true, decide_false]
  refine ret1A b16 (Left.box ?_)
  exact ⟨rfl, rfl⟩
 by_cases k2 : kd = 2
 ·subst k2
  refine goN ?_
  simp only [W, seval, b16, hn, decide_true, decide_false]
  refine ret1A b16 (Left.box ?_)
  exact ⟨rfl, rfl⟩
 by_cases k3 : kd = 3
 ·subst k3
  refine goN ?_
  simp only [W, seval, b16, hn, decide_true, decide_false]
  refine ret1A b16 (Left.box ?_)
  exact ⟨rfl, rfl⟩
 by_cases k4 : kd = 4
 ·subst k4
  refine goN ?_
  simp only [W, seval, b16, hn, decide_true, decide_false]
  refine ret1A b16 (Left.box ?_)
  exact ⟨rfl, rfl⟩
 by_cases k10 : kd = 10
 ·subst k10
  refine goN ?_
  simp only [W, seval, b16, hn, decide_true, decide_false]
  refine ret1A b16 (Left.box ?_)
  exact ⟨rfl, rfl⟩
 by_cases k5 : kd = 5
 ·subst k5
  refine goN ?_
  simp only [W, seval, b16, hn, decide_true, decide_false]
  refine ret1A b16 (Left.box ?_)
  exact ⟨rfl, rfl⟩
 by_cases k6 : kd = 6
 ·subst k6
  refine goN ?_
  simp only [W, seval, b16, hn, decide_true, decide_false]
  refine ret1A b16 (Left.box ?_)
  exact ⟨rfl, rfl⟩
 have e1 := decide_eq_false k1
 have e2 := decide_eq_false k2
 have e3 := decide_eq_false k3
 have e4 := decide_eq_false k4
 have e10 := decide_eq_false k10
 have e5 := decide_eq_false k5
 have e6 := decide_eq_false k6
 by_cases k9 : kd = 9
 ·subst k9
  refine goN ?_
  simp only [W, seval, b16, hn, decide_true, decide_false]
  refine callN (AFn.pl (hsl _ _)) ?_
  refine goN ?_
  simp only [W, seval, b16, hn, tyV, slT]
  refine ret1A b16 (Left.box ?_)
  exact ⟨rfl, rfl⟩
 by_cases k12 : kd = 12
 ·subst k12
  refine goN ?_
  simp only [W, seval, b16, hn, decide_true, decide_false]
  refine callN (AFn.pl (hsl _ _)) ?_
  refine goN ?_
  simp only [W, seval, b16, hn, tyV, slT]
  refine ret1A b16 (Left.box ?_)
  exact ⟨rfl, rfl⟩
 by_cases k11 : kd = 11
 ·subst k11
  obtain ⟨h0, har⟩ := har rfl
  have hof := fun B T => ihf x.items.toNat har B T
  rw [Int.toNat_of_nonneg h0] at hof
  obtain ⟨t, ht⟩ : ∃ t, tyN l f x.items.toNat = t := ⟨_, rfl⟩
  rw [ht] at hof ⊢
  refine goN ?_
  simp only [W, seval, b16, hn, decide_true, decide_false]
  refine callN (hof _ _) ?_
  refine goN ?_
  simp only [W, seval, b16, hn]
  refine callN (rslice_ab t _ _) ?_
  refine goN ?_
  simp only [W, seval, b16, hn, tyV_mk, slT]
  refine ret1A b16 (Left.box ?_)
  exact ⟨rfl, rfl⟩
 by_cases k13 : kd = 13
 ·subst k13
  refine goN ?_
  simp only [W, seval, b16, hn, decide_true, decide_false]
  refine ret1A b16 (Left.box ?_)
  exact ⟨rfl, rfl⟩
 have e9 := decide_eq_false k9
 have e12 := decide_eq_false k12
 have e11 := decide_eq_false k11
 have e13 := decide_eq_false k13
 have hk : ¬ (kd = 4 ∨ kd = 10) := fun h => h.elim k4 k10
 have hk2 : ¬ (kd = 9 ∨ kd = 12) := fun h => h.elim k9 k12
 rw [if_neg k1, if_neg k2, if_neg k3, if_neg hk, if_neg k5, if_neg k6, if_neg hk2, if_neg k11, if_neg k13]
 refine goN ?_
 simp only [W, seval, b16, hn, e1, e2, e3, e4, e10, e5, e6, e9, e12, e11, e13]
 refine callN (rbytes_ab _ _) ?_
 refine goN ?_
 simp only [W, seval, b16, hn, tyV_mk, slT]
 refine ret1A b16 (Left.box ?_)
 exact ⟨rfl, rfl⟩
theorem rty32_ab (l : List NdT) (root : Int) (hs : ∀ n ∈ l, SmN n) (hl : l.length ≤ 200) : ∀ f, OfR32 l root f
 | 0 => fun _ h => h.elim
 | f + 1 => rty32_step l root hs hl f (rty32_ab l root hs hl f)
end Go.Proofs.YtkgbbcnjkojocaaGreatDoor
namespace Go.Ab
open Go.RowKit Go.Av
theorem Rep.tell {c : Cx} {w : World} {S : Mem} (h : Rep c w S) {i b : Nat} (hi : c.ρ[i]? = some b) (hT : ∃ T, OfTy w b T) {us vs : List V} (hu : S.boxes[i]? = some us) (hl : vs.length = us.length)
 (hv : ∀ (cs : Array Value) T, w.heap[b]? = some (.cells cs T (0, 0)) → (∀ j (h : j < us.length), VR c w us[j] (cs.getD j undef)) → ∀ j (h : j < vs.length), VR c w vs[j] (cs.getD j undef)) : Rep c w { S with boxes := S.boxes.set i vs } := by
 refine ⟨h.hB, by simpa using h.len, fun j bj hj => ?_, h.inj, h.toks, h.tok, h.disj, h.inv⟩
 obtain ⟨a', o, hh, us', f1, f2⟩ := h.box j bj hj
 by_cases e : j = i
 ·subst e
  rw [hu] at f1
  obtain rfl := Option.some.inj f1
  rw [hi] at hj
  obtain rfl := Option.some.inj hj
  obtain ⟨cs, Ty, hh2, f2, f3⟩ := f2.of_ty hh hT
  exact ⟨a', _, hh2, vs, get_set hu, .cells cs Ty vs (by omega) fun q hq => ⟨hv cs Ty hh2 (fun j h => (f3 j h).1) q hq, (f3 q (by omega)).2⟩⟩
 ·exact ⟨a', o, hh, us', get_set_ne e f1, f2⟩
theorem ARun.bxTok {P : Program} {I : Inv} {z : Nat × Nat} {fn : FuncId} {k : List Item} {env : List V} {R : V → Mem → Prop} {B : List (List V)} {T : List (Nat × Nat)} (i sz : Nat) (h0 : 0 < sz) (hi : B[i]? = some [.sl [] .full])
 (h : ARun P I z fn k env ⟨B.set i [.sl [] (.own T.length)], T ++ [(0, sz)]⟩ R) : ARun P I z fn k env ⟨B, T⟩ R := by
 intro b a0 c w c0 w0 h1 h2 h3 h4 h5 h6 hI
 have hiB := (List.getElem?_eq_some_iff.1 hi).1
 have hlen : B.length = c.ρ.length := h5.len
 obtain ⟨b0, hb0⟩ : ∃ b0, c.ρ[i]? = some b0 := ⟨_, List.getElem?_eq_getElem (by omega)⟩
 have hT0 := h5.tyOfBox hb0 hi (by intro ks us he; cases he)
 obtain ⟨_, o, ho, vs', e1, e2⟩ := h5.box i b0 hb0
 obtain ⟨cs, Ty, hh, e2, e3⟩ := e2.of_ty ho hT0
 have e1 : B[i]? = some vs' := e1
 rw [hi] at e1
 obtain rfl := Option.some.inj e1
 have hv : VR c w (.sl [] .full) (cs.getD 0 undef) := (e3 0 (by simp)).1
 obtain ⟨c', r1, r2, r3⟩ := h5.token hv sz h0 (by simp)
 refine h b a0 c' w c0 w0 h1 h2 h3 (h4.ext r2) ?_ (h6.trans r2) ⟨r2.I.trans hI.1, hI.2⟩
 refine r1.tell (S := ⟨B, T ++ [(0, sz)]⟩) (r2.keeps.ρ i b0 hb0) (hT0.imp fun T => r2.keeps.ty b0 T) hi (vs := [.sl [] (.own T.length)]) (by simp) fun cs2 T2 hh2 hcs j hj => ?_
 obtain ⟨rfl, _⟩ : cs = cs2 ∧ True := by
  rw [hh] at hh2
  have := Option.some.inj hh2
  simp at this
  exact ⟨this.1, trivial⟩
 match j with
 | 0 => exact r3
 | j + 1 => simp at hj
end Go.Ab
namespace Go.Proofs.YtkgbbcnjkojocaaGreatDoor
open Go.RowKit Go.Av Go.Ab
set_option linter.unusedSimpArgs false
set_option linter.unusedVariables false
set_option maxRecDepth 100000
set_option linter.defProp false
def b42 := KB Tryz.func42 11
theorem paD_snoc (l : List PaT) (s : List UInt8) (t : TyT) : l.map paD ++ [[.str s, .int .i64 t.kind, .str t.name, .sl (t.elem.map tyD)]] = (l ++ [(⟨s, t⟩ : PaT)]).map paD := by simp [paD]
theorem add_ab (l : List PaT) (s : List UInt8) (t : TyT) (i k n : Nat) (B : List (List V)) (T : List (Nat × Nat)) (hi : B[i]? = some [.sl (l.map paD) (.own k)]) (hk : T[k]? = some (l.length, 4)) (hl : l.length ≤ 10000) :
 AFn Tryz.prog TabI 42 [.d (.str s), tyV t, .ptr i 0] ⟨B, T⟩ (Same (.tup []) ⟨B.set i [.sl ((l ++ [(⟨s, t⟩ : PaT)]).map paD) (.own k)], T.set k (l.length + 1, 4)⟩) := by
 obtain ⟨N, hn⟩ : ∃ N, B.length = N := ⟨_, rfl⟩
 have hiB := (List.getElem?_eq_some_iff.1 hi).1
 have hkT := (List.getElem?_eq_some_iff.1 hk).1
 have hc : (l.length + 1) * 64 ≤ 140737488355328 := by omega
 have hrz : rowsSz 4 [[D.str s, .int .i64 t.kind, .str t.name, .sl (t.elem.map tyD)]] = true := rfl
 have hi' : ∀ X, (B ++ X)[i]? = some [.sl (l.map paD) (.own k)] := fun X => by rw [List.getElem?_append_left hiB, hi]
 have hset : ∀ X v, (B ++ X).set i v = B.set i v ++ X := fun X v => List.set_append_left _ _ hiB
 unfold tyV
 refine enS b42 fun hsm => ?_
 simp only [smw] at hsm
 simp only [W, seval, b42, hn, hi', hk, hc, hrz, hset, mapX_nil, mapX_cons, mapX_sl, paD_snoc, List.length_map, Nat.reduceMul]
 refine ARun.fin Tryz.func42 rfl ?_
 have h := Left.of (B := B) (T := T) (L := B.set i [.sl ((l ++ [(⟨s, t⟩ : PaT)]).map paD) (.own k)]) (J := [[.d (.int .i64 t.kind), .d (.str t.name), .d (.sl (t.elem.map tyD))]]) (U := T.set k (l.length + 1, 4)) (K := []) (v := .tup []) (R := Same (.tup []) ⟨B.set i [.sl ((l ++ [(⟨s, t⟩ : PaT)]).map paD) (.own k)], T.set k (l.length + 1, 4)⟩) (by simp) (by simp) ((FitL.refl _ _ _).set i (by simp [fit, hkT])) ⟨rfl, rfl⟩
 rw [List.append_nil] at h
 exact h
end Go.Proofs.YtkgbbcnjkojocaaGreatDoor
namespace Go.Proofs.YtkgbbcnjkojocaaGreatDoor
open Go.RowKit Go.Av Go.Ab
set_option linter.unusedSimpArgs false
set_option maxRecDepth 100000
set_option linter.defProp false
def b29 := KB Tryz.func29 97
theorem dft : (false == true) = false := rfl
theorem dtf : (true == false) = false := rfl
theorem dtt : (true == true) = true := rfl
theorem dff : (false == false) = true := rfl
def kindI (s : List UInt8) : Int := (kindS s : Int)
set_option maxHeartbeats 8000000 in
theorem node_ab {rj zj : JsT → Bool} (hj : JsOk 73 74 rj zj) (l : List NdT) (root : Int) (n : NdT) (hs : SmN n) (hsy : n.symbols.length ≤ 1000000) (hb : n.kind = 13 → ∀ k ∈ n.branches, 0 ≤ k ∧ k < (l.length : Int)) (B : List (List V)) (T : List (Nat × Nat)) :
 AFn Tryz.prog TabI 29 [.agg [.d (.sl (l.map ndD)), .d (.int .i64 root)], ndV n] ⟨B, T⟩ (Same (.d (.bool (nodeP SimpleS FullS kindI rj zj (kdN l) n))) ⟨B, T⟩) := by
 obtain ⟨N, hn⟩ : ∃ N, B.length = N := ⟨_, rfl⟩
 have hbare := fun B T => bare_abS n B T
 unfold ndV at hbare ⊢
 unfold nodeP
 by_cases h1 : 1 ≤ n.kind
 case neg =>
  have e1 : decide (n.kind < 1) = true := decide_eq_true (by omega)
  rw [decide_eq_false h1]
  refine enS b29 fun hsm => ?_
  simp only [smw] at hsm
  simp only [W, seval, b29, hn, e1]
  refine retN b29 (Left.box ?_)
  exact ⟨rfl, rfl⟩
 have e1 : decide (n.kind < 1) = false := decide_eq_false (by omega)
 by_cases h14 : n.kind ≤ 14
 case neg =>
  have e2 : decide (14 < n.kind) = true := decide_eq_true (by omega)
  rw [decide_eq_true h1, decide_eq_false h14]
  refine enS b29 fun hsm => ?_
  simp only [smw] at hsm
  simp only [W, seval, b29, hn, e1, e2]
  refine retN b29 (Left.box ?_)
  exact ⟨rfl, rfl⟩
 have e2 : decide (14 < n.kind) = false := decide_eq_false (by omega)
 rw [decide_eq_true h1, decide_eq_true h14, Bool.true_and, Bool.true_and]
 refine enS b29 fun hsm => ?_
 simp only [smw] at hsm
 simp only [W, seval, b29, hn, e1, e2]
 refine callN (hbare _ _) ?_
 clear hbare
 cases bareN n
 ·refine goN ?_
  simp only [W, seval, b29]
  refine retN b29 (Left.box ?_)
  exact ⟨rfl, rfl⟩
 rw [Bool.true_and]
 refine goN ?_
 simp only [W, seval, b29, hn]
 refine callN (named_ab _ _) ?_
 cases hnb : namedB n.kind
 ·have k9 : ¬ n.kind = 9 := fun h => by rw [h] at hnb; exact absurd hnb (by decide)
  have k10 : ¬ n.kind = 10 := fun h => by rw [h] at hnb; exact absurd hnb (by decide)
  have k14 : ¬ n.kind = 14 := fun h => by rw [h] at hnb; exact absurd hnb (by decide)
  have e9 := decide_eq_false k9
  have e10 := decide_eq_false k10
  have e14 := decide_eq_false k14
  rw [if_neg k9, if_neg k10, if_neg k14, Bool.not_false, Bool.true_or, Bool.true_and]
  by_cases k13 : n.kind = 13
  ·have e13 := decide_eq_true k13
   rw [if_pos k13]
   refine goN ?_
   simp only [W, seval, b29, hn, e9, e10, e14, e13]
   refine callN (union_ab l root n.branches (hb k13) _ _) ?_
   refine goN ?_
   simp only [W, seval, b29, hn]
   refine retN b29 (Left.box ?_)
   exact ⟨rfl, rfl⟩
  ·have e13 := decide_eq_false k13
   rw [if_neg k13]
   refine goN ?_
   simp only [W, seval, b29, hn, e9, e10, e14, e13]
   refine retN b29 (Left.box ?_)
   exact ⟨rfl, rfl⟩
 rw [Bool.not_true, Bool.false_or]
 refine goN ?_
 simp only [W, seval, b29, hn]
 refine callN (full_ab _ _) ?_
 cases FullS n.name
 ·refine goN ?_
  simp only [W, seval, b29, hn]
  refine retN b29 (Left.box ?_)
  exact ⟨rfl, rfl⟩
 rw [Bool.true_and]
 refine goN ?_
 simp only [W, seval, b29, hn]
 refine callN (kind_ab _ _) ?_
 by_cases hkw : kindI n.name = 0
 case neg =>
  have e3 : decide ((kindS n.name : Int) = 0) = false := decide_eq_false hkw
  rw [decide_eq_false hkw]
  refine goN ?_
  simp only [W, seval, b29, hn, e3]
  refine retN b29 (Left.box ?_)
  exact ⟨rfl, rfl⟩
 have e3 : decide ((kindS n.name : Int) = 0) = true := decide_eq_true hkw
 rw [decide_eq_true hkw, Bool.true_and]
 refine goN ?_
 simp only [W, seval, b29, hn, e3]
 refine callN (all_ab rule_full n.aliases _ _) ?_
 cases allF FullS n.aliases
 ·refine goN ?_
  simp only [W, seval, b29, hn]
  refine retN b29 (Left.box ?_)
  exact ⟨rfl, rfl⟩
 rw [Bool.true_and]
 have hl2 := ssD_len n.symbols
 by_cases k9 : n.kind = 9
 ·have e9 := decide_eq_true k9
  rw [if_pos k9]
  refine goN ?_
  simp only [W, seval, b29, hn, e9]
  refine callN (fields_ab hj n.fields hs.2.1 (fun f hf => (hs.2.2.2 f hf).2) _ _) ?_
  refine goN ?_
  simp only [W, seval, b29, hn]
  refine retN b29 (Left.box ?_)
  exact ⟨rfl, rfl⟩
 have e9 := decide_eq_false k9
 rw [if_neg k9]
 by_cases k10 : n.kind = 10
 case neg =>
  have k14 : n.kind = 14 := by
   unfold namedB at hnb
   rw [e9, decide_eq_false k10, Bool.false_or, Bool.false_or] at hnb
   exact of_decide_eq_true hnb
  have e10 := decide_eq_false k10
  have e14 := decide_eq_true k14
  rw [if_neg k10, if_pos k14]
  by_cases s0 : 0 ≤ n.size
  ·have e4 := decide_eq_true s0
   rw [e4]
   refine goN ?_
   simp only [W, seval, b29, hn, e9, e10, e14, e4]
   refine retN b29 (Left.box ?_)
   exact ⟨rfl, rfl⟩
  ·have e4 := decide_eq_false s0
   rw [e4]
   refine goN ?_
   simp only [W, seval, b29, hn, e9, e10, e14, e4]
   refine retN b29 (Left.box ?_)
   exact ⟨rfl, rfl⟩
 have e10 := decide_eq_true k10
 rw [if_pos k10]
 have hc := fun S => contains_str_ab n.symbols n.dflt (by omega) S
 obtain ⟨cb, hcb⟩ : ∃ b, n.symbols.contains n.dflt = b := ⟨_, rfl⟩
 rw [hcb] at hc ⊢
 have hle : (match n.dflt.isEmpty with | true => True | false => True) := by cases n.dflt.isEmpty <;> trivial
 clear hle
 have hem : n.dflt.isEmpty = decide (n.dflt = []) := by cases n.dflt <;> simp
 rw [hem]
 refine goN ?_
 simp only [W, seval, b29, hn, e9, e10]
 cases hh : n.has <;> cases cb <;> cases hd : decide (n.dflt = [])
 all_goals
  refine drXA 15 [] [N + 1] ?_
  simp (maxSteps := 4000000) only [W, seval, b29, xw, hn]
  refine callX_fn (fun Z => hc _) ?_
  simp (maxSteps := 4000000) only [W, seval, b29, xw, hn, hh, hd, dft, dtf, dtt, dff]
  refine goN ?_
  simp only [W, seval, b29, hn]
 all_goals first
  | (skip
     refine retN b29 (Left.box ?_)
     exact ⟨rfl, rfl⟩)
  | (skip
     by_cases s1 : 1 ≤ n.symbols.length
     case neg =>
      have e5 : decide ((1 : Int) ≤ (n.symbols.length : Int)) = false := decide_eq_false (by omega)
      rw [decide_eq_false s1]
      simp only [W, seval, b29, hn, e5]
      refine retN b29 (Left.box ?_)
      exact ⟨rfl, rfl⟩
     have e5 : decide ((1 : Int) ≤ (n.symbols.length : Int)) = true := decide_eq_true (by omega)
     rw [decide_eq_true s1]
     by_cases s4 : n.symbols.length ≤ 40
     case neg =>
      have e6 : decide ((n.symbols.length : Int) ≤ 40) = false := decide_eq_false (by omega)
      rw [decide_eq_false s4]
      simp only [W, seval, b29, hn, hl2, e5, e6]
      refine retN b29 (Left.box ?_)
      exact ⟨rfl, rfl⟩
     have e6 : decide ((n.symbols.length : Int) ≤ 40) = true := decide_eq_true (by omega)
     rw [decide_eq_true s4]
     simp only [W, seval, b29, hn, hl2, e5, e6]
     refine callN (different_ab rule_simple n.symbols hsy _ _) ?_
     refine goN ?_
     simp only [W, seval, b29, hn]
     refine retN b29 (Left.box ?_)
     exact ⟨rfl, rfl⟩)
def b70 := KB Tryz.func70 38
theorem isD_snoc (l : List Int) (k : Int) : isD l ++ [[.int .i64 k]] = isD (l ++ [k]) := by simp [isD]
set_option maxHeartbeats 8000000 in
theorem kids_abS (n : NdT) (hs : SmN n) (B : List (List V)) (T : List (Nat × Nat)) : AFn Tryz.prog TabI 70 [ndV n] ⟨B, T⟩ (Same (.d (.sl (isD (kidsN n)))) ⟨B, T⟩) := by
 obtain ⟨N, hn⟩ : ∃ N, B.length = N := ⟨_, rfl⟩
 obtain ⟨M, hM⟩ : ∃ M, T.length = M := ⟨_, rfl⟩
 unfold ndV kidsN
 refine b70.1.go 8 rfl fun hsm => ?_
 simp only [smw] at hsm
 simp only [W, seval, b70, hn]
 refine ARun.token 3 [] (by rfl) 1 (by omega) rfl ?_
 simp only [envS_put, hM]
 by_cases k9 : n.kind = 9
 ·have e9 := decide_eq_true k9
  rw [if_pos k9]
  refine goN ?_
  simp only [W, seval, b70, hn, e9]
  refine ARun.fits fun hf => ?_
  have hlf : n.fields.length ≤ 2500 := hs.2.1
  refine ARun.loopB (fun i : Nat => (envS 38 [(1, .ptr N 0), (3, .sl (isD ((n.fields.take i).map FdT.type)) (.own M)), (11, .d (.sl (n.fields.map fdD))), (12, .d (.int .i64 n.fields.length)), (13, .d (.int .i64 (i : Int)))], ⟨B ++ [[.d (.int .i64 n.kind), .d (.str n.name), .d (.sl (ssD n.aliases)), .d (.sl (n.fields.map fdD)), .d (.sl (ssD n.symbols)), .d (.bool n.has), .d (.str n.dflt), .d (.int .i64 n.size), .d (.int .i64 n.items), .d (.sl (isD n.branches))]], T ++ [(i, 1)]⟩)) (fun i => i ≤ n.fields.length) (fun i => n.fields.length - i) 0 (by omega) envA rfl ?_
  rintro i h1 ih
  dsimp only at h1 ih ⊢
  by_cases hlt : i < n.fields.length
  case neg =>
   have e2 : decide ((i : Int) < (n.fields.length : Int)) = false := decide_eq_false (by omega)
   rw [List.take_of_length_le (by omega)]
   refine goN ?_
   simp only [W, seval, b70, hn, e2]
   refine retN b70 (Left.all ?_)
   refine ⟨?_, rfl⟩
   clear ih
   simp only [fnw, seval]
   simp [hM, wk]
  have e2 : decide ((i : Int) < (n.fields.length : Int)) = true := decide_eq_true (by omega)
  have hw := wrap_in ((i : Int) + 1) (by omega)
  have hge := List.getElem?_eq_getElem hlt
  have htk : (n.fields.take (i + 1)).map FdT.type = (n.fields.take i).map FdT.type ++ [n.fields[i].type] := by rw [List.take_succ_eq_append_getElem hlt, List.map_append]; rfl
  obtain ⟨y, hyy⟩ : ∃ x, n.fields[i] = x := ⟨_, rfl⟩
  rw [hyy] at hge htk
  have hcap : (i + 1) * 8 ≤ 140737488355328 := by omega
  have htl : ((n.fields.take i).map FdT.type).length = i := by simp; omega
  have hr1 : rowsSz 1 [[D.int .i64 y.type]] = true := rfl
  refine goN ?_
  simp only [W, seval, b70, hn, hM, e2, hge, List.getElem?_map, fdD_eq, hcap, htl, isD_snoc, isD_len, Nat.reduceMul, mapX_nil, mapX_cons, hr1, ← htk, hw]
  have e5 : ∀ X Y : List V, B ++ [X, Y] = (B ++ [X]) ++ [Y] := fun X Y => by simp
  rw [e5]
  refine ih (i + 1) (by omega) (by omega) _ _ _ _ rfl ⟨by simp; omega, by simp; omega⟩ (hf.toks (by simp)) ?_
  refine AgreeF.env _ ?_
  simp only [agf, seval, hn]
  simp
  omega
 have e9 := decide_eq_false k9
 rw [if_neg k9]
 by_cases k11 : n.kind = 11 ∨ n.kind = 12
 ·rw [if_pos k11]
  have hr1 : rowsSz 1 [[D.int .i64 n.items]] = true := rfl
  have hsn := isD_snoc [] n.items
  by_cases k : n.kind = 11
  ·have e11 := decide_eq_true k
   refine goN ?_
   simp only [W, seval, b70, hn, hM, e9, e11, mapX_nil, mapX_cons, hr1, Nat.reduceMul]
   refine retN b70 (Left.all ?_)
   refine ⟨?_, rfl⟩
   simp only [fnw, seval]
   simp [hM, wk, isD]
  ·have e11 := decide_eq_false k
   have e12 := decide_eq_true (k11.resolve_left k)
   refine goN ?_
   simp only [W, seval, b70, hn, hM, e9, e11, e12, mapX_nil, mapX_cons, hr1, Nat.reduceMul]
   refine retN b70 (Left.all ?_)
   refine ⟨?_, rfl⟩
   simp only [fnw, seval]
   simp [hM, wk, isD]
 have e11 := decide_eq_false (fun h => k11 (.inl h))
 have e12 := decide_eq_false (fun h => k11 (.inr h))
 rw [if_neg k11]
 by_cases k13 : n.kind = 13
 ·have e13 := decide_eq_true k13
  rw [if_pos k13]
  have hlb : n.branches.length ≤ 2500 := hs.2.2.1
  have hcap : n.branches.length * 8 ≤ 140737488355328 := by omega
  refine goN ?_
  simp only [W, seval, b70, hn, hM, e9, e11, e12, e13, isD_len, rowsSz_is, true_and, if_pos hcap]
  refine retN b70 (Left.all ?_)
  refine ⟨?_, rfl⟩
  simp only [fnw, seval]
  simp [hM, wk]
 ·have e13 := decide_eq_false k13
  rw [if_neg k13]
  refine goN ?_
  simp only [W, seval, b70, hn, hM, e9, e11, e12, e13]
  refine retN b70 (Left.all ?_)
  refine ⟨?_, rfl⟩
  simp only [fnw, seval]
  simp [hM, wk, isD]
set_option linter.unusedVariables false
def b17 := KB Tryz.func17 77
def fldsN (l : List NdT) (f a : Nat) : List PaT := fldN nameL numL l f a
def FlR (l : List NdT) (f a : Nat) : V := if hasN (ndN l a) = true then .tup [.d (.sl ((fldsN l f a).map paD)), .d (.bool true)] else .tup [.d (.sl []), .d (.bool false)]
theorem add_at (l : List PaT) (s : List UInt8) (t : TyT) (N M : Nat) (X : List V) (Z : List (List V)) (B : List (List V)) (T : List (Nat × Nat)) (hn : B.length = N) (hM : T.length = M) (hl : l.length ≤ 10000) :
 AFn Tryz.prog TabI 42 [.d (.str s), tyV t, .ptr (N + 1) 0] ⟨B ++ X :: [.sl (l.map paD) (.own M)] :: Z, T ++ [(l.length, 4)]⟩ (Same (.tup []) ⟨B ++ X :: [.sl ((l ++ [(⟨s, t⟩ : PaT)]).map paD) (.own M)] :: Z, T ++ [(l.length + 1, 4)]⟩) := by
 subst hn hM
 have h := add_ab l s t (B.length + 1) T.length 0 (B ++ X :: [.sl (l.map paD) (.own T.length)] :: Z) (T ++ [(l.length, 4)]) (by simp [List.getElem?_append_right]) (by simp) hl
 rw [List.set_append_right _ _ (by omega), List.set_append_right _ _ (by omega), Nat.sub_self, show B.length + 1 - B.length = 1 by omega] at h
 exact h
def flN (l : List NdT) (f : Nat) (x : FdT) : PaT := ⟨nameL x.name, tyN l f x.type.toNat⟩
set_option maxHeartbeats 8000000 in
theorem flds_9 (l : List NdT) (root : Int) (hs : ∀ n ∈ l, SmN n) (hl : l.length ≤ 200) (f a : Nat) (ha : a < l.length) (hk : ∀ k ∈ kidsN (ndN l a), 0 ≤ k ∧ ArrN l f k.toNat) (h9 : (ndN l a).kind = 9) (B : List (List V)) (T : List (Nat × Nat)) :
 AFn Tryz.prog TabI 17 [.agg [.d (.sl (l.map ndD)), .d (.int .i64 root)], .d (.int .i64 a)] ⟨B, T⟩ (Same (FlR l f a) ⟨B, T⟩) := by
 obtain ⟨N, hn⟩ : ∃ N, B.length = N := ⟨_, rfl⟩
 obtain ⟨M, hM⟩ : ∃ M, T.length = M := ⟨_, rfl⟩
 have hg := nd_row (l := l) (m := (a : Int)) (by omega) (by omega)
 rw [ndD_eq] at hg
 simp only [Int.toNat_natCast] at hg
 have hti : (a : Int) < (l.length : Int) := by omega
 have hsx : SmN (ndN l a) := by rw [ndN_at ha]; exact hs _ (List.getElem_mem ha)
 have hR : FlR l f a = .tup [.d (.sl (((ndN l a).fields.map (flN l f)).map paD)), .d (.bool true)] := by
  unfold FlR fldsN fldN hasN
  rw [h9, if_pos (by decide), if_pos rfl]
  rfl
 rw [hR]
 clear hR
 obtain ⟨x, hx⟩ : ∃ x, ndN l a = x := ⟨_, rfl⟩
 rw [hx] at hg hk hsx h9 ⊢
 rw [h9] at hg
 refine enS b17 fun hsm => ?_
 simp only [smw] at hsm
 simp only [W, seval, b17, hn, hg, ha, hti, decide_true, decide_false]
 obtain ⟨Y, hY⟩ : ∃ Y : List V, [.d (.int .i64 9), .d (.str x.name), .d (.sl (ssD x.aliases)), .d (.sl (x.fields.map fdD)), .d (.sl (ssD x.symbols)), .d (.bool x.has), .d (.str x.dflt), .d (.int .i64 x.size), .d (.int .i64 x.items), .d (.sl (isD x.branches))] = Y := ⟨_, rfl⟩
 rw [hY]
 refine ARun.bxTok (N + 1) 4 (by omega) (by subst hn; simp [List.getElem?_append_right]) ?_
 rw [hM, show ∀ X Z W, (B ++ [X, [V.sl [] .full], Z]).set (N + 1) W = B ++ [X, W, Z] from fun X Z W => by subst hn; rw [List.set_append_right _ _ (by omega), show B.length + 1 - B.length = 1 by omega]; rfl]
 have hlf : x.fields.length ≤ 2500 := hsx.2.1
 refine ARun.fits fun hf => ?_
 refine ARun.loopB (fun i : Nat => (envS 77 [(2, .ptr N 0), (6, .ptr (N + 1) 0), (7, .func 42 [] [.ptr (N + 1) 0]), (24, .d (.sl (x.fields.map fdD))), (25, .d (.int .i64 x.fields.length)), (26, .d (.int .i64 (i : Int)))], ⟨B ++ [[.d (.sl (l.map ndD)), .d (.int .i64 root)], [.sl (((x.fields.take i).map (flN l f)).map paD) (.own M)], Y], T ++ [(i, 4)]⟩)) (fun i => i ≤ x.fields.length) (fun i => x.fields.length - i) 0 (by omega) envA rfl ?_
 rintro i h1 ih
 dsimp only at h1 ih ⊢
 by_cases hlt : i < x.fields.length
 case neg =>
  have e2 : decide ((i : Int) < (x.fields.length : Int)) = false := decide_eq_false (by omega)
  rw [List.take_of_length_le (by omega)]
  refine goN ?_
  simp only [W, seval, b17, hn, e2]
  refine retN b17 (Left.all ?_)
  refine ⟨?_, rfl⟩
  clear ih
  simp only [fnw, seval]
  simp [hM, wk, wkL]
 have e2 : decide ((i : Int) < (x.fields.length : Int)) = true := decide_eq_true (by omega)
 have hw := wrap_in ((i : Int) + 1) (by omega)
 have hge := List.getElem?_eq_getElem hlt
 have htk : (x.fields.take (i + 1)).map (flN l f) = (x.fields.take i).map (flN l f) ++ [flN l f x.fields[i]] := by rw [List.take_succ_eq_append_getElem hlt, List.map_append]; rfl
 obtain ⟨hk0, hka⟩ := hk x.fields[i].type (by unfold kidsN; rw [if_pos h9]; exact List.mem_map_of_mem (List.getElem_mem hlt))
 have hyn : x.fields[i].name.length ≤ 2500 := (hsx.2.2.2 _ (List.getElem_mem hlt)).1.1
 obtain ⟨y, hyy⟩ : ∃ y, x.fields[i] = y := ⟨_, rfl⟩
 rw [hyy] at hge htk hk0 hka hyn
 have hof := fun B T => gof_ab l root hs hl f y.type.toNat hka B T
 rw [Int.toNat_of_nonneg hk0] at hof
 have htl : ((x.fields.take i).map (flN l f)).length = i := by simp; omega
 obtain ⟨rw_, hrw⟩ : ∃ r, (x.fields.take i).map (flN l f) = r := ⟨_, rfl⟩
 rw [hrw] at htk htl
 have hadd := fun Z => add_at rw_ (nameL y.name) (tyN l f y.type.toNat) N M [.d (.sl (l.map ndD)), .d (.int .i64 root)] Z B T hn hM (by omega)
 rw [htl, show (⟨nameL y.name, tyN l f y.type.toNat⟩ : PaT) = flN l f y from rfl, ← htk] at hadd
 rw [hrw]
 unfold tyV at hof hadd
 refine goN ?_
 simp only [W, seval, b17, hn, e2, hge, List.getElem?_map, fdD_eq]
 refine drXA 8 [] [N, N + 3] ?_
 simp (maxSteps := 4000000) only [W, seval, b17, xw, hn]
 refine callX_fn (fun Z => mname_ab y.name hyn _) ?_
 simp (maxSteps := 4000000) only [W, seval, b17, xw, hn]
 refine callX_fn (fun Z => hof _ _) ?_
 simp (maxSteps := 4000000) only [W, seval, b17, xw, hn]
 refine callX_0 ⟨_, _, rfl, rfl⟩ (hadd _) ?_
 rintro _ _ ⟨rfl, rfl⟩
 simp (maxSteps := 4000000) only [W, seval, b17, xw, hn]
 refine goN ?_
 simp only [W, seval, b17, hn, hw]
 rw [show ∀ X Y Z W : List V, B ++ [X, Y, Z, W] = (B ++ [X, Y, Z]) ++ [W] from fun X Y Z W => by simp]
 have hf2 : Fits ⟨B ++ [[.d (.sl (l.map ndD)), .d (.int .i64 root)], [.sl (((x.fields.take (i + 1)).map (flN l f)).map paD) (.own M)], Y], T ++ [(i + 1, 4)]⟩ := by
  have h := (hf.set (i := N + 1) (vs := [.sl (((x.fields.take (i + 1)).map (flN l f)).map paD) (.own M)]) (by simp [fit, hM])).toks (T' := T ++ [(i + 1, 4)]) (by simp)
  subst hn
  rw [List.set_append_right _ _ (by omega), show B.length + 1 - B.length = 1 by omega] at h
  exact h
 refine ih (i + 1) (by omega) (by omega) _ _ _ _ rfl ⟨by simp; omega, by simp; omega⟩ hf2 ?_
 refine AgreeF.env _ ?_
 simp only [agf, seval, hn]
 simp
 omega
theorem tok_set (N : Nat) (B : List (List V)) (hn : B.length = N) (X Z W : List V) : (B ++ [X, [V.sl [] .full], Z]).set (N + 1) W = B ++ [X, W, Z] := by subst hn; rw [List.set_append_right _ _ (by omega), show B.length + 1 - B.length = 1 by omega]; rfl
set_option maxHeartbeats 8000000 in
theorem flds_12 (l : List NdT) (root : Int) (hs : ∀ n ∈ l, SmN n) (hl : l.length ≤ 200) (f a : Nat) (ha : a < l.length) (hk : ∀ k ∈ kidsN (ndN l a), 0 ≤ k ∧ ArrN l f k.toNat) (h12 : (ndN l a).kind = 12) (B : List (List V)) (T : List (Nat × Nat)) :
 AFn Tryz.prog TabI 17 [.agg [.d (.sl (l.map ndD)), .d (.int .i64 root)], .d (.int .i64 a)] ⟨B, T⟩ (Same (FlR l f a) ⟨B, T⟩) := by
 obtain ⟨N, hn⟩ : ∃ N, B.length = N := ⟨_, rfl⟩
 obtain ⟨M, hM⟩ : ∃ M, T.length = M := ⟨_, rfl⟩
 have hg := nd_row (l := l) (m := (a : Int)) (by omega) (by omega)
 rw [ndD_eq] at hg
 simp only [Int.toNat_natCast] at hg
 have hti : (a : Int) < (l.length : Int) := by omega
 have hR : FlR l f a = .tup [.d (.sl ([(⟨[107], slT (.mk 2 [] [])⟩ : PaT), ⟨[118], tyN l f (ndN l a).items.toNat⟩].map paD)), .d (.bool true)] := by
  unfold FlR fldsN fldN hasN
  rw [h12, if_pos (by decide), if_neg (by decide), if_pos rfl]
  rfl
 rw [hR]
 clear hR
 obtain ⟨hk0, hka⟩ := hk (ndN l a).items (by unfold kidsN; rw [h12, if_neg (by decide), if_pos (by decide)]; simp)
 obtain ⟨x, hx⟩ : ∃ x, ndN l a = x := ⟨_, rfl⟩
 rw [hx] at hg hk0 hka h12 ⊢
 rw [h12] at hg
 have hof := fun B T => gof_ab l root hs hl f x.items.toNat hka B T
 rw [Int.toNat_of_nonneg hk0] at hof
 obtain ⟨t, ht⟩ : ∃ t, tyN l f x.items.toNat = t := ⟨_, rfl⟩
 rw [ht] at hof ⊢
 obtain ⟨u, hu⟩ : ∃ u, slT (.mk 2 [] []) = u := ⟨_, rfl⟩
 have hsl := fun B T => gslice_ab (.mk 2 [] []) B T
 rw [hu] at hsl ⊢
 have had1 := fun Z => add_at [] [107] u N M [.d (.sl (l.map ndD)), .d (.int .i64 root)] Z B T hn hM (by simp)
 have had2 := fun Z => add_at [⟨[107], u⟩] [118] t N M [.d (.sl (l.map ndD)), .d (.int .i64 root)] Z B T hn hM (by simp)
 unfold tyV at hof had1 had2 hsl
 refine b17.1.go 29 rfl fun hsm => ?_
 simp only [smw] at hsm
 simp only [W, seval, b17, hn, hg, ha, hti, decide_true, decide_false]
 refine ARun.bxTok (N + 1) 4 (by omega) (by subst hn; simp [List.getElem?_append_right]) ?_
 rw [hM, tok_set N B hn]
 refine goN ?_
 simp only [W, seval, b17, hn, decide_true, decide_false]
 refine callN (gplain_ab 2 _ _) ?_
 refine goN ?_
 simp only [W, seval, b17, hn, tyV_mk, mapX_nil, mapX_cons, mapX_sl]
 refine callN (AFn.pl (hsl _ _) (by rw [tyD_mk]; rfl)) ?_
 refine goN ?_
 simp only [W, seval, b17, hn]
 refine callNo (had1 _) ?_
 refine goN ?_
 simp only [W, seval, b17, hn]
 refine callN (hof _ _) ?_
 refine goN ?_
 simp only [W, seval, b17, hn]
 refine callNo (had2 _) ?_
 refine goN ?_
 simp only [W, seval, b17, hn]
 refine retN b17 (Left.all ?_)
 refine ⟨?_, rfl⟩
 simp only [fnw, seval]
 simp [hM, wk, wkL]
def brN (l : List NdT) (f : Nat) (i : Nat) (k : Int) : PaT := ⟨numL [98] i, slT (tyN l f k.toNat)⟩
set_option maxHeartbeats 8000000 in
theorem flds_13 (l : List NdT) (root : Int) (hs : ∀ n ∈ l, SmN n) (hl : l.length ≤ 200) (f a : Nat) (ha : a < l.length) (hk : ∀ k ∈ kidsN (ndN l a), 0 ≤ k ∧ ArrN l f k.toNat) (h13 : (ndN l a).kind = 13) (B : List (List V)) (T : List (Nat × Nat)) :
 AFn Tryz.prog TabI 17 [.agg [.d (.sl (l.map ndD)), .d (.int .i64 root)], .d (.int .i64 a)] ⟨B, T⟩ (Same (FlR l f a) ⟨B, T⟩) := by
 obtain ⟨N, hn⟩ : ∃ N, B.length = N := ⟨_, rfl⟩
 obtain ⟨M, hM⟩ : ∃ M, T.length = M := ⟨_, rfl⟩
 have hg := nd_row (l := l) (m := (a : Int)) (by omega) (by omega)
 rw [ndD_eq] at hg
 simp only [Int.toNat_natCast] at hg
 have hti : (a : Int) < (l.length : Int) := by omega
 have hsx : SmN (ndN l a) := by rw [ndN_at ha]; exact hs _ (List.getElem_mem ha)
 have hR : FlR l f a = .tup [.d (.sl (((⟨[116, 97, 103], .mk 4 [] []⟩ : PaT) :: (ndN l a).branches.mapIdx (brN l f)).map paD)), .d (.bool true)] := by
  unfold FlR fldsN fldN hasN
  rw [h13, if_pos (by decide), if_neg (by decide), if_neg (by decide)]
  rfl
 rw [hR]
 clear hR
 obtain ⟨x, hx⟩ : ∃ x, ndN l a = x := ⟨_, rfl⟩
 rw [hx] at hg hk hsx h13 ⊢
 rw [h13] at hg
 have hlb : x.branches.length ≤ 2500 := hsx.2.2.1
 have had1 := fun Z => add_at [] [116, 97, 103] (.mk 4 [] []) N M [.d (.sl (l.map ndD)), .d (.int .i64 root)] Z B T hn hM (by simp)
 unfold tyV at had1
 refine b17.1.go 29 rfl fun hsm => ?_
 simp only [smw] at hsm
 simp only [W, seval, b17, hn, hg, ha, hti, decide_true, decide_false]
 refine ARun.bxTok (N + 1) 4 (by omega) (by subst hn; simp [List.getElem?_append_right]) ?_
 rw [hM, tok_set N B hn]
 refine goN ?_
 simp only [W, seval, b17, hn, decide_true, decide_false]
 refine callN (gplain_ab 4 _ _) ?_
 refine goN ?_
 simp only [W, seval, b17, hn, tyV_mk]
 refine callNo (had1 _) ?_
 refine goN ?_
 simp only [W, seval, b17, hn]
 obtain ⟨Y, hY⟩ : ∃ Y : List V, [.d (.int .i64 13), .d (.str x.name), .d (.sl (ssD x.aliases)), .d (.sl (x.fields.map fdD)), .d (.sl (ssD x.symbols)), .d (.bool x.has), .d (.str x.dflt), .d (.int .i64 x.size), .d (.int .i64 x.items), .d (.sl (isD x.branches))] = Y := ⟨_, rfl⟩
 rw [hY]
 obtain ⟨r0, hr0⟩ : ∃ r : PaT, (⟨[116, 97, 103], .mk 4 [] []⟩ : PaT) = r := ⟨_, rfl⟩
 rw [hr0]
 refine ARun.loopW (fun i : Nat => (envS 77 [(2, .ptr N 0), (6, .ptr (N + 1) 0), (7, .func 42 [] [.ptr (N + 1) 0]), (59, .d (.sl (isD x.branches))), (60, .d (.int .i64 x.branches.length)), (61, .d (.int .i64 (i : Int)))], ⟨B ++ [[.d (.sl (l.map ndD)), .d (.int .i64 root)], [.sl ((r0 :: (x.branches.mapIdx (brN l f)).take i).map paD) (.own M)], Y], T ++ [(i + 1, 4)]⟩)) (fun i => i ≤ x.branches.length) (fun i => x.branches.length - i) 0 (by omega) ?_ rfl ?_
 ·skip
  refine Agree.env _ ?_
  simp only [agw, seval, hn, isD_len]
 rintro i h1 ih
 dsimp only at h1 ih ⊢
 by_cases hlt : i < x.branches.length
 case neg =>
  have e2 : decide ((i : Int) < (x.branches.length : Int)) = false := decide_eq_false (by omega)
  rw [List.take_of_length_le (by simp; omega)]
  refine goN ?_
  simp only [W, seval, b17, hn, e2]
  refine retN b17 (Left.all ?_)
  refine ⟨?_, rfl⟩
  clear ih
  simp only [fnw, seval]
  simp [hM, wk, wkL]
 have e2 : decide ((i : Int) < (x.branches.length : Int)) = true := decide_eq_true (by omega)
 have hw := wrap_in ((i : Int) + 1) (by omega)
 have hge := isD_at hlt
 have htk : r0 :: (x.branches.mapIdx (brN l f)).take (i + 1) = (r0 :: (x.branches.mapIdx (brN l f)).take i) ++ [brN l f i x.branches[i]] := by
  rw [List.take_succ_eq_append_getElem (by simpa using hlt), List.getElem_mapIdx, List.cons_append]
 obtain ⟨hk0, hka⟩ := hk x.branches[i] (by unfold kidsN; rw [h13, if_neg (by decide), if_neg (by decide), if_pos (by decide)]; exact List.getElem_mem hlt)
 obtain ⟨y, hyy⟩ : ∃ y, x.branches[i] = y := ⟨_, rfl⟩
 rw [hyy] at hge htk hk0 hka
 have hof := fun B T => gof_ab l root hs hl f y.toNat hka B T
 rw [Int.toNat_of_nonneg hk0] at hof
 have htl : (r0 :: (x.branches.mapIdx (brN l f)).take i).length = i + 1 := by simp; omega
 obtain ⟨rw_, hrw⟩ : ∃ r, r0 :: (x.branches.mapIdx (brN l f)).take i = r := ⟨_, rfl⟩
 rw [hrw] at htk htl
 obtain ⟨t, ht⟩ : ∃ t, tyN l f y.toNat = t := ⟨_, rfl⟩
 obtain ⟨u, hu⟩ : ∃ u, slT t = u := ⟨_, rfl⟩
 have hsl := fun B T => gslice_ab t B T
 have hadd := fun Z => add_at rw_ (numL [98] i) u N M [.d (.sl (l.map ndD)), .d (.int .i64 root)] Z B T hn hM (by omega)
 rw [htl, show (⟨numL [98] i, u⟩ : PaT) = brN l f i y by unfold brN; rw [ht, hu], ← htk] at hadd
 rw [ht] at hof
 rw [hu] at hsl
 rw [hrw]
 unfold tyV at hof hadd hsl
 refine goN ?_
 simp only [W, seval, b17, hn, e2, hge]
 refine drXA 8 [] [N] ?_
 simp (maxSteps := 4000000) only [W, seval, b17, xw, hn]
 refine callX_fn (fun Z => mnum_ab [98] (by simp) i (by omega) _) ?_
 simp (maxSteps := 4000000) only [W, seval, b17, xw, hn]
 refine callX_fn (fun Z => hof _ _) ?_
 simp (maxSteps := 4000000) only [W, seval, b17, xw, hn, mapX_nil, mapX_cons, mapX_sl]
 refine callX_fn (fun Z => AFn.pl (hsl _ _) (by rw [tyD_eq]; rfl)) ?_
 simp (maxSteps := 4000000) only [W, seval, b17, xw, hn]
 refine callX_0 ⟨_, _, rfl, rfl⟩ (hadd _) ?_
 rintro _ _ ⟨rfl, rfl⟩
 simp (maxSteps := 4000000) only [W, seval, b17, xw, hn]
 refine goN ?_
 simp only [W, seval, b17, hn, hw]
 exact ih (i + 1) (by omega) (by omega) _ _ envA rfl
set_option maxHeartbeats 8000000 in
theorem flds_no (l : List NdT) (root : Int) (hs : ∀ n ∈ l, SmN n) (hl : l.length ≤ 200) (f a : Nat) (ha : a < l.length) (h : hasN (ndN l a) = false) (B : List (List V)) (T : List (Nat × Nat)) :
 AFn Tryz.prog TabI 17 [.agg [.d (.sl (l.map ndD)), .d (.int .i64 root)], .d (.int .i64 a)] ⟨B, T⟩ (Same (FlR l f a) ⟨B, T⟩) := by
 obtain ⟨N, hn⟩ : ∃ N, B.length = N := ⟨_, rfl⟩
 have hg := nd_row (l := l) (m := (a : Int)) (by omega) (by omega)
 rw [ndD_eq] at hg
 simp only [Int.toNat_natCast] at hg
 have hti : (a : Int) < (l.length : Int) := by omega
 unfold FlR
 rw [h]
 unfold hasN at h
 simp only [Bool.or_eq_false_iff] at h
 obtain ⟨e9, e12, e13⟩ := h
 obtain ⟨x, hx⟩ : ∃ x, ndN l a = x := ⟨_, rfl⟩
 rw [hx] at hg e9 e12 e13
 refine enS b17 fun hsm => ?_
 simp only [smw] at hsm
 simp only [W, seval, b17, hn, hg, ha, hti, e9, e12, e13]
 refine retN b17 (Left.box ?_)
 exact ⟨rfl, rfl⟩
theorem gflds_ab (l : List NdT) (root : Int) (hs : ∀ n ∈ l, SmN n) (hl : l.length ≤ 200) (f a : Nat) (ha : a < l.length) (hk : ∀ k ∈ kidsN (ndN l a), 0 ≤ k ∧ ArrN l f k.toNat) (B : List (List V)) (T : List (Nat × Nat)) :
 AFn Tryz.prog TabI 17 [.agg [.d (.sl (l.map ndD)), .d (.int .i64 root)], .d (.int .i64 a)] ⟨B, T⟩ (Same (FlR l f a) ⟨B, T⟩) := by
 cases h : hasN (ndN l a)
 ·exact flds_no l root hs hl f a ha h B T
 unfold hasN at h
 simp only [Bool.or_eq_true, decide_eq_true_eq] at h
 rcases h with h | h | h
 ·exact flds_9 l root hs hl f a ha hk h B T
 ·exact flds_12 l root hs hl f a ha hk h B T
 ·exact flds_13 l root hs hl f a ha hk h B T
end Go.Proofs.YtkgbbcnjkojocaaGreatDoor
namespace Go.Proofs
open Go.Shelf
def Tryz.lays190_ren : Go.Shelf.Ren := ⟨fun | 190 => 119 | 125 => 127 | 258 => 126 | 128 => 141 | 129 => 142 | 302 => 132 | 303 => 133 | 304 => 134 | 305 => 135 | 306 => 136 | 307 => 137 | 308 => 138 | 309 => 139 | 310 => 140 | 333 => 143 | 329 => 144 | 330 => 145 | 334 => 146 | 335 => 147 | 336 => 148 | 344 => 149 | n => n, fun | 31 => 48 | 9 => 9 | 3 => 3 | 46 => 115 | 0 => 0 | 51 => 144 | 53 => 96 | 4 => 4 | 183 => 168 | 182 => 167 | 131 => 173 | 5 => 5 | 218 => 177 | 222 => 181 | 228 => 183 | 229 => 184 | n => n, fun | n => n⟩
theorem Tryz.lays190 : Go.Proofs.Lays.n190 Tryz.prog Tryz.lays190_ren := {
 mixed := by kernel_rfl
 f125 := Tryz.func127.trans (congrArg some (by kernel_rfl))
 f128 := Tryz.func141.trans (congrArg some (by kernel_rfl))
 f129 := Tryz.func142.trans (congrArg some (by kernel_rfl))
 f190 := Tryz.func119.trans (congrArg some (by kernel_rfl))
 f258 := Tryz.func126.trans (congrArg some (by kernel_rfl))
 f302 := Tryz.func132.trans (congrArg some (by kernel_rfl))
 f303 := Tryz.func133.trans (congrArg some (by kernel_rfl))
 f304 := Tryz.func134.trans (congrArg some (by kernel_rfl))
 f305 := Tryz.func135.trans (congrArg some (by kernel_rfl))
 f306 := Tryz.func136.trans (congrArg some (by kernel_rfl))
 f307 := Tryz.func137.trans (congrArg some (by kernel_rfl))
 f308 := Tryz.func138.trans (congrArg some (by kernel_rfl))
 f309 := Tryz.func139.trans (congrArg some (by kernel_rfl))
 f310 := Tryz.func140.trans (congrArg some (by kernel_rfl))
 f329 := Tryz.func144.trans (congrArg some (by kernel_rfl))
 f330 := Tryz.func145.trans (congrArg some (by kernel_rfl))
 f333 := Tryz.func143.trans (congrArg some (by kernel_rfl))
 f334 := Tryz.func146.trans (congrArg some (by kernel_rfl))
 f335 := Tryz.func147.trans (congrArg some (by kernel_rfl))
 f336 := Tryz.func148.trans (congrArg some (by kernel_rfl))
 f344 := Tryz.func149.trans (congrArg some (by kernel_rfl))
 t0 := Tryz.underlying0
 a0 := Tryz.isAgg0
 z0 := Tryz.sizeOf0
 v0 := Tryz.zeroValue0
 t3 := Tryz.underlying3
 a3 := Tryz.isAgg3
 z3 := Tryz.sizeOf3
 v3 := Tryz.zeroValue3
 t4 := Tryz.underlying4
 a4 := Tryz.isAgg4
 z4 := Tryz.sizeOf4
 v4 := Tryz.zeroValue4
 t5 := Tryz.underlying5
 a5 := Tryz.isAgg5
 z5 := Tryz.sizeOf5
 v5 := Tryz.zeroValue5
 t9 := Tryz.underlying9
 a9 := Tryz.isAgg9
 z9 := Tryz.sizeOf9
 v9 := Tryz.zeroValue9
 t31 := Tryz.underlying48
 a31 := Tryz.isAgg48
 z31 := Tryz.sizeOf48
 v31 := Tryz.zeroValue48
 t46 := Tryz.underlying115
 a46 := Tryz.isAgg115
 z46 := Tryz.sizeOf115
 v46 := Tryz.zeroValue115
 t51 := Tryz.underlying144
 a51 := Tryz.isAgg144
 z51 := Tryz.sizeOf144
 v51 := Tryz.zeroValue144
 t53 := Tryz.underlying96
 a53 := Tryz.isAgg96
 z53 := Tryz.sizeOf96
 v53 := Tryz.zeroValue96
 t131 := Tryz.underlying173
 a131 := Tryz.isAgg173
 z131 := Tryz.sizeOf173
 v131 := Tryz.zeroValue173
 t182 := Tryz.underlying167
 a182 := Tryz.isAgg167
 z182 := Tryz.sizeOf167
 v182 := Tryz.zeroValue167
 t183 := Tryz.underlying168
 a183 := Tryz.isAgg168
 z183 := Tryz.sizeOf168
 v183 := Tryz.zeroValue168
 t218 := Tryz.underlying177
 a218 := Tryz.isAgg177
 z218 := Tryz.sizeOf177
 v218 := Tryz.zeroValue177
 t222 := Tryz.underlying181
 a222 := Tryz.isAgg181
 z222 := Tryz.sizeOf181
 v222 := Tryz.zeroValue181
 t228 := Tryz.underlying183
 a228 := Tryz.isAgg183
 z228 := Tryz.sizeOf183
 v228 := Tryz.zeroValue183
 t229 := Tryz.underlying184
 a229 := Tryz.isAgg184
 z229 := Tryz.sizeOf184
 v229 := Tryz.zeroValue184 }
def Tryz.lays194_ren : Go.Shelf.Ren := ⟨fun | 194 => 112 | n => n, fun | 31 => 48 | 9 => 9 | 3 => 3 | 4 => 4 | 0 => 0 | n => n, fun | n => n⟩
theorem Tryz.lays194 : Go.Proofs.Lays.n194 Tryz.prog Tryz.lays194_ren := {
 mixed := by kernel_rfl
 f194 := Tryz.func112.trans (congrArg some (by kernel_rfl))
 t0 := Tryz.underlying0
 a0 := Tryz.isAgg0
 z0 := Tryz.sizeOf0
 v0 := Tryz.zeroValue0
 t3 := Tryz.underlying3
 a3 := Tryz.isAgg3
 z3 := Tryz.sizeOf3
 v3 := Tryz.zeroValue3
 t4 := Tryz.underlying4
 a4 := Tryz.isAgg4
 z4 := Tryz.sizeOf4
 v4 := Tryz.zeroValue4
 t9 := Tryz.underlying9
 a9 := Tryz.isAgg9
 z9 := Tryz.sizeOf9
 v9 := Tryz.zeroValue9
 t31 := Tryz.underlying48
 a31 := Tryz.isAgg48
 z31 := Tryz.sizeOf48
 v31 := Tryz.zeroValue48 }
end Go.Proofs
namespace Go.Proofs.YtkgbbcnjkojocaaGreatDoor
open Go.RowKit Go.Shelf Go.Sort
attribute [local go_sem] Oper.semAt_some
set_option linter.unusedSimpArgs false
set_option linter.unusedVariables false
theorem infoStr : (Tryz.prog.info? 9).map (fun i => (i.zero, i.size, i.bytes)) = some (some (.string ⟨#[]⟩), 1, 16) := by kernel_rfl
def takesS {α : Type} (f : Nat → α) (k : Nat) : List α := (List.range k).map f
theorem takesS_succ {α : Type} (f : Nat → α) (k : Nat) : takesS f (k + 1) = takesS f k ++ [f k] := by simp [takesS, List.range_succ]
theorem takesS_len {α : Type} (f : Nat → α) (k : Nat) : (takesS f k).length = k := by simp [takesS]
theorem takesS_all (zs : List (List UInt8)) : takesS (fun j => zs[j]?.getD []) zs.length = zs := by
 apply List.ext_getElem
 ·simp [takesS]
 ·intro i h1 h2
  simp [takesS, h2]
theorem takesS_take (zs : List (List UInt8)) {k : Nat} (hk : k ≤ zs.length) : takesS (fun j => zs[j]?.getD []) k = zs.take k := by
 apply List.ext_getElem
 ·simp [takesS, hk]
 ·intro i h1 h2
  have : i < zs.length := by simp [takesS] at h1; omega
  simp [takesS, this]
set_option maxRecDepth 100000 in
set_option maxHeartbeats 2000000 in
theorem vals1_in (F : Fence) (n : Nat) (h7 : F.fn 120) (hro : F.round = none) (hn : 1 ≤ n) (l Bs n₀ b off len cap : Nat) (zs : List (List UInt8)) (hreach : len * 16 ≤ 140737488351232) (hb : b < n₀) (J Jx : List (List UInt8) → World → Prop)
 (hY : ∀ pre x W, J pre W → pre.length < len → YieldAt F (n - 1) Tryz.prog l #[encStr x] W fun e W' =>
  (e = .returned (.bool true) ∧ J (pre ++ [x]) W' ∧ Below n₀ W W') ∨ (e = .returned (.bool false) ∧ Jx (pre ++ [x]) W'))
 (W : World) (hBs : W.cell? ⟨Bs, 0, none⟩ = some (.slice (some ⟨b, off, none⟩) len cap)) (hc : ∀ j, j < len → W.cell? ⟨b, off + j, none⟩ = some (encStr (zs[j]?.getD []))) (h0 : J [] W) :
 CallsIn F n Tryz.prog 120 #[.func (.yield l) #[] #[], .pointer (some ⟨Bs, 0, none⟩)] W fun e W' => (∃ v, e = .returned v) ∧
  ((∃ ys, ys = takesS (fun j => zs[j]?.getD []) len ∧ J ys W') ∨ (∃ pre, (∃ k, k ≤ len ∧ pre = takesS (fun j => zs[j]?.getD []) k) ∧ Jx pre W')) := by
 refine callsIn_of_wp Tryz.func120 rfl h7 ?_ hro
 simp only [Tryz.ntmps120, List.size_toArray, List.length_cons, List.length_nil, Nat.reduceAdd, Nat.reduceSub, Array.replicate_succ, Array.replicate_zero, List.push_toArray, List.append_toArray, List.nil_append, List.cons_append]
 gi_wp2
 gi_loopw [7] (fun i wr => ∃ k : Nat, k ≤ len ∧ i = .int .i64 k ∧ J (takesS (fun j => zs[j]?.getD []) k) wr ∧ Below n₀ W wr)
  (fun i _ => len - (intOf i).toNat)
 case atStart => exact ⟨0, Nat.zero_le _, rfl, h0, Below.refl _ _⟩
 case round =>
  obtain ⟨k, hk, rfl, hJs, hnx⟩ := hrel
  have hcx : k < len → wr.cell? ⟨b, off + k, none⟩ = some (encStr (zs[k]?.getD [])) := fun h => (hnx.cell (p := ⟨b, off + k, none⟩) hb).trans (hc k h)
  by_cases hlt : k < len
  ·obtain ⟨fn, tmps, assign, body, hy, hR⟩ := hY _ (zs[k]?.getD []) wr hJs (by rw [takesS_len]; exact hlt)
   have hcx' := hcx hlt
   gi_wp2
   refine hR.mono ?_
   rintro e W3 (⟨rfl, hJ3, hk3⟩ | ⟨rfl, hJx3⟩)
   ·gi_wp2
    go_roundw
    case rel => exact ⟨k + 1, by omega, by simp, by rw [takesS_succ]; exact hJ3, hnx.trans hk3⟩
    case measure => simp [intOf]; omega
   ·gi_wp2
    refine bodyPost_ret (results_none rfl _ _ _) rfl ?_
    exact ⟨⟨_, rfl⟩, .inr ⟨_, ⟨k + 1, by omega, (takesS_succ _ _).symm⟩, hJx3⟩⟩
  ·obtain rfl : k = len := by omega
   gi_wp2
   go_end0
   exact ⟨⟨_, rfl⟩, .inl ⟨_, rfl, hJs⟩⟩
def TextsAt (n₀ : Nat) (W : World) (sv : Value) (zs : List (List UInt8)) : Prop :=
 (∃ a cap, sv = .slice a 0 cap ∧ zs = []) ∨ ∃ b off cap, sv = .slice (some ⟨b, off, none⟩) zs.length cap ∧ b < n₀ ∧ ∀ j, j < zs.length → W.cell? ⟨b, off + j, none⟩ = some (encStr (zs[j]?.getD []))
theorem TextsAt.below {n₀ : Nat} {A B : World} (h : Below n₀ A B) {sv : Value} {zs : List (List UInt8)} : TextsAt n₀ A sv zs → TextsAt n₀ B sv zs
 | .inl e => .inl e
 | .inr ⟨b, off, cap, e, hb, hc⟩ => .inr ⟨b, off, cap, e, hb, fun j hj => (h.cell (p := ⟨b, off + j, none⟩) hb).trans (hc j hj)⟩
set_option maxRecDepth 100000 in
set_option maxHeartbeats 1000000 in
theorem vals1_nil_in (F : Fence) (n : Nat) (h7 : F.fn 120) (hro : F.round = none) (l Bs : Nat) (J : List (List UInt8) → World → Prop) (W : World) (a : Option Addr) (cap : Nat) (hBs : W.cell? ⟨Bs, 0, none⟩ = some (.slice a 0 cap)) (h0 : J [] W) :
 CallsIn F n Tryz.prog 120 #[.func (.yield l) #[] #[], .pointer (some ⟨Bs, 0, none⟩)] W fun e W' => (∃ v, e = .returned v) ∧ J [] W' := by
 refine callsIn_of_wp Tryz.func120 rfl h7 ?_ hro
 simp only [Tryz.ntmps120, List.size_toArray, List.length_cons, List.length_nil, Nat.reduceAdd, Nat.reduceSub, Array.replicate_succ, Array.replicate_zero, List.push_toArray, List.append_toArray, List.nil_append, List.cons_append]
 gi_wp2
 gi_loopw [7] (fun i wr => i = .int .i64 0 ∧ J [] wr) (fun _ _ => 0)
 case atStart => exact ⟨rfl, h0⟩
 case round =>
  obtain ⟨rfl, hJs⟩ := hrel
  gi_wp2
  go_end0
  exact ⟨⟨_, rfl⟩, hJs⟩
theorem vals_stops (F : Fence) (n : Nat) (h7 : F.fn 120) (hro : F.round = none) (hn : 1 ≤ n) (Bs n₀ : Nat) (sv : Value) (zs : List (List UInt8)) (hreach : zs.length * 16 ≤ 140737488351232) (w : World) (hBs : Bs < w.heap.size) (hn₀ : n₀ ≤ w.heap.size)
 (hc : w.cell? ⟨Bs, 0, none⟩ = some sv) (hI : TextsAt n₀ w sv zs) :
 SeqStopsK F n Tryz.prog 120 #[.pointer (some ⟨Bs, 0, none⟩)] (fun x : List UInt8 => #[encStr x]) (Below n₀) (fun ys => ys = zs) (fun pre => pre <+: zs) zs.length w := fun l J Jx W hW _ _ hY h0 => by
 have hc' := (hW.cell (p := ⟨Bs, 0, none⟩) hBs).trans hc
 rcases hI.below (hW.mono hn₀) with ⟨a, cap, rfl, rfl⟩ | ⟨b, off, cap, rfl, hb, hcs⟩
 ·exact (vals1_nil_in F n h7 hro l Bs J W a cap hc' h0).mono fun e W' ⟨he, hj⟩ => ⟨he, .inl ⟨_, rfl, hj⟩⟩
 ·refine (vals1_in F n h7 hro hn l Bs n₀ b off zs.length cap zs hreach hb J Jx hY W hc' hcs h0).mono ?_
  rintro e W' ⟨he, ⟨ys, rfl, hj⟩ | ⟨pre, ⟨k, hk, rfl⟩, hj⟩⟩
  ·exact ⟨he, .inl ⟨_, takesS_all zs, hj⟩⟩
  ·exact ⟨he, .inr ⟨_, by rw [takesS_take zs hk]; exact List.take_prefix _ _, hj⟩⟩
end Go.Proofs.YtkgbbcnjkojocaaGreatDoor
namespace Go.Proofs.YtkgbbcnjkojocaaGreatDoor
open Go.RowKit Go.Shelf Go.Sort Go.Av Go.Ab
attribute [local go_sem] Oper.semAt_some
set_option linter.unusedSimpArgs false
set_option linter.unusedVariables false
def FlatV (W : World) (v : Value) : Prop := ∀ g n cap, v = .slice (some ⟨g, 0, none⟩) n cap → ∀ cur T fz, W.heap[g]? = some (.cells cur T fz) → ∀ u ∈ cur.toList, u.oneCell' = true
theorem zeroTx (k : Nat) : ∀ u ∈ (Builtin.zeroCells (Value.string ⟨#[]⟩).cells k).toList, u.oneCell' = true := by
 intro u hu
 simp only [Builtin.zeroCells, Array.toList_map, List.mem_map] at hu
 obtain ⟨i, hi, rfl⟩ := hu
 have : (Value.string ⟨#[]⟩).cells = #[Value.string ⟨#[]⟩] := rfl
 simp [this, Nat.mod_one, Value.oneCell']
theorem app_flat {P : Program} {w w' : World} {base t ty e bytes : Nat} (ht : P.underlying t = some (.slice e)) {i : TypeInfo} (hi : P.info? e = some i) (hz : i.zero = some (.string ⟨#[]⟩)) (hsz : i.size = 1) (hby : i.bytes = bytes)
 {v v' : Value} {n : Nat} {xs : List Value} (hown : w.ownsRow base e 1 v n xs) (hfl : FlatV w v) (a c : Nat) (x : Value) (hx : w.cell? ⟨a, 0, none⟩ = some x) (h1 : x.oneCell' = true) (h63 : n + 1 ≤ maxLen) (hbytes : (n + 1) * bytes ≤ 140737488355328)
 (hrun : (Builtin.append_ #[t, t] ty #[v, .slice (some ⟨a, 0, none⟩) 1 c]).run P w = .ok v' w') : FlatV w' v' := by
 have hT : SlTy P t e 1 bytes := ⟨ht, i, _, hi, hz, hsz, hby, rfl⟩
 have hu : ∃ d, P.underlying t = some d ∧ ∀ k, d ≠ .int k := ⟨_, ht, by simp⟩
 have h63' : n + 1 ≤ 9223372036854775807 := by unfold maxLen at h63; omega
 have hlen : ∀ W, (Builtin.lenOf (.slice (some ⟨a, 0, none⟩) 1 c)).run P W = .ok 1 W := fun W => by simp [Builtin.lenOf]
 have hfirst : ∀ W : World, W.heap = w.heap → (Builtin.firstCells 1 1 (.slice (some ⟨a, 0, none⟩) 1 c)).run P W = .ok [x].toArray W := fun W hW => by
  refine run_firstCells_some (P := P) W 1 1 ⟨a, 0, none⟩ 1 c [x] rfl fun j v hj => ?_
  have hj0 : j = 0 := by
   have := (List.getElem?_eq_some_iff.1 hj).1
   simp at this
   exact this
  subst hj0
  rw [Addr.add_plain, Nat.zero_add]
  simp only [World.cell?, hW] at hx ⊢
  rw [← Option.some.inj hj]
  exact hx
 have hgrow : ∀ (xs : List Value) (cap : Nat), (∀ u ∈ xs, u.oneCell' = true) → v' = .slice (some ⟨w.heap.size, 0, none⟩) (n + 1) (grownCap w (n + 1) cap e) → w' = grownWorld w e n 1 cap xs [x] (.string ⟨#[]⟩) → FlatV w' v' := by
  intro xs cap hxs ev ew g m cap2 e2 cur T fz hcur u hu
  subst ev ew
  cases e2
  have hn := heap_alloc_new w.drew (.cells (xs.toArray ++ [x].toArray ++ Builtin.zeroCells (Value.string ⟨#[]⟩).cells (grownCap w (n + 1) cap e - (n + 1))) e)
  unfold grownWorld at hcur
  have hn2 := hn.symm.trans hcur
  injection hn2 with hn2
  injection hn2 with q1 q2 q3
  rw [← q1] at hu
  simp only [Array.toList_append, List.mem_append] at hu
  rcases hu with (hu | hu) | hu
  ·exact hxs u (by simpa using hu)
  ·have hu' : u ∈ [x] := by simpa using hu
   rw [List.mem_singleton.1 hu']
   exact h1
  ·exact zeroTx _ u hu
 rcases hown.2 with ⟨rfl, rfl⟩ | ⟨g, cap, cur, rfl, hbg, hgb, hnc, hcm, hcs, htk⟩
 ·obtain ⟨i', z', k1, k2, k3, hr2⟩ := run_app_grow (ty := ty) hT hu none 0 0 1 (by omega) _ [] [x] hlen hfirst (fun W _ => by simpa using run_firstCells_none (P := P) (w := W) 1 0 0 0) h63' hbytes
  rw [hi] at k1
  obtain rfl := Option.some.inj k1
  rw [hz] at k2
  obtain rfl := Option.some.inj k2
  have hr3 := hrun.symm.trans hr2
  injection hr3 with q1 q2
  exact hgrow [] 0 (fun u hu => absurd hu List.not_mem_nil) q1 q2
 ·have hcf : ∀ u ∈ cur.toList, u.oneCell' = true := hfl g n cap rfl cur e (0, 0) hgb
  rw [Nat.mul_one] at hcs htk
  by_cases hroom : n + 1 ≤ cap
  ·have hst := storeCells_at (P := P) g n e (0, 0) [x] 0 cur w hgb (by simp; omega) (by simp) (fun u hu => by rw [List.mem_singleton.1 hu]; exact h1)
   have hr2 := run_app_in (ty := ty) hT hu g 0 n cap 1 hroom _ [x] hlen hfirst (by simpa using hst)
   have hr3 := hrun.symm.trans hr2
   injection hr3 with q1 q2
   subst q1 q2
   intro g2 m cap2 e2 cur2 T fz hcur u hu
   cases e2
   rw [setRow_heap w g cur _ e (0, 0) hgb] at hcur
   injection hcur with hcur
   injection hcur with q1 q2 q3
   rw [← q1] at hu
   simp only [List.mem_append, List.append_assoc] at hu
   rcases hu with hm | hm
   ·exact hcf u (List.mem_of_mem_take hm)
   ·rcases List.mem_cons.1 hm with rfl | hm
    ·exact h1
    ·exact hcf u (List.mem_of_mem_drop hm)
  ·have hxl : xs.length = n := by simpa using hown.1
   obtain ⟨i', z', k1, k2, k3, hr2⟩ := run_app_grow (ty := ty) hT hu (some ⟨g, 0, none⟩) n cap 1 hroom _ xs [x] hlen hfirst (fun W hW => by
    refine run_firstCells_some (P := P) W 1 n ⟨g, 0, none⟩ n cap xs (by rw [hxl, Nat.mul_one]) fun j v hj => ?_
    rw [Addr.add_plain, Nat.zero_add]
    rw [← htk, List.getElem?_take] at hj
    split at hj
    case isFalse => cases hj
    simp only [World.cell?, hW, hgb]
    simpa using hj) h63' hbytes
   rw [hi] at k1
   obtain rfl := Option.some.inj k1
   rw [hz] at k2
   obtain rfl := Option.some.inj k2
   have hr3 := hrun.symm.trans hr2
   injection hr3 with q1 q2
   exact hgrow xs cap (fun u hu => hcf u (List.mem_of_mem_take (htk ▸ hu))) q1 q2
attribute [local go_sem] Oper.semAt_some
set_option linter.unusedSimpArgs false
set_option linter.unusedVariables false
theorem wpl_flat {F : Fence} {n : Nat} {P : Program} (w : World) {ops : Array Oper} {rest : List Oper} {o : Oper} {a : Act} {Q : Exit → Act → World → Prop} (hg : o.guard = none) (s x : Operand) (t : TypeId) (hop : o.op = Op.call { callee := Callee.builtin Builtin.append, args := #[s, x], argTypes := #[t, t] })
 (base : Nat) (e : TypeId) (i : TypeInfo) (bytes : Nat) (h1 : P.underlying t = some (.slice e)) (h2 : P.info? e = some i) (h3 : i.zero = some (.string ⟨#[]⟩)) (h4 : i.size = 1) (h5 : i.bytes = bytes)
 (v : Value) (k : Nat) (xs : List Value) (hs : a.eval s = v) (hown : w.ownsRow base e 1 v k xs) (hfl : FlatV w v) (ab c : Nat) (y : Value) (hx : a.eval x = .slice (some ⟨ab, 0, none⟩) 1 c) (hc : w.cell? ⟨ab, 0, none⟩ = some y) (h1c : y.oneCell' = true) (b1 : k + 1 ≤ maxLen) (b2 : (k + 1) * bytes ≤ 140737488355328) (b3 : base ≤ w.heap.size)
 (hK : ∀ v' w', w'.ownsRow base e 1 v' (k + 1) (xs ++ [y]) → w.grownBy w' v.ownBlock → FlatV w' v' → wpListIn F n P ops Q rest (a.put o.dst v') w') : wpListIn F n P ops Q (o :: rest) a w := by
 refine wpListIn_plain hg fun K hK' => ?_
 obtain ⟨v', w', hrun, r1, r2, r3⟩ := run_append_own (P := P) w base t o.type e i (.string ⟨#[]⟩) 1 bytes h1 h2 h3 h4 h5 rfl (by decide) v k xs hown ⟨ab, 0, none⟩ 1 c [y] rfl (fun j u hu => by
  have hj0 : j = 0 := by
   have := (List.getElem?_eq_some_iff.1 hu).1
   simp at this
   exact this
  subst hj0
  rw [Addr.add_plain, Nat.zero_add, ← Option.some.inj hu]
  exact hc) (fun u hu => by rw [List.mem_singleton.1 hu]; exact h1c) b1 b2 b3
 have r4 := app_flat h1 h2 h3 h4 h5 hown hfl ab c y hc h1c b1 b2 hrun
 unfold Oper.wpIn
 refine ⟨?_, ?_⟩
 ·simp [Oper.about, hop, resolve, Target.leads, Sem.run_pure]
 ·rw [Oper.semAt_plain F _ _ (by rw [hop]; intro c hc'; cases hc')]
  simp [execOp, hop, resolve, invoke, builtin, hs, hx, hrun, Result.andThen]
  exact hK' _ _ (hK v' w' r1 r2 r4)
theorem flat_kept {W W' : World} {row : Option Nat} {n₀ e k : Nat} {v : Value} {xs : List Value} (h : FlatV W v) (hg : W.grownBy W' row) (hr : W.ownsRow n₀ e 1 v k xs) (hne : ∀ g, v.ownBlock = some g → some g ≠ row) : FlatV W' v := by
 intro g n cap hv cur T fz hcur
 rcases hr.2 with ⟨rfl, _⟩ | ⟨g', cap', cur', rfl, hb, hgb, _⟩
 ·cases hv
 ·cases hv
  rw [hg.block g (Array.getElem?_eq_some_iff.1 hgb).1 (hne g rfl)] at hcur
  exact h g _ _ rfl cur T fz hcur
def SeqI (n₀ B : Nat) (pre : List (List UInt8)) (W : World) : Prop := ∃ v, Boxed W B 48 v ∧ W.ownsRow n₀ 9 1 v pre.length (pre.map encStr) ∧ FlatV W v
theorem seqI_own (n₀ B : Nat) : Own (SeqI n₀ B) := by
 rintro s X Y row ⟨v, hv, hr, hf⟩ hg hrow
 have hne : ∀ g, v.ownBlock = some g → some g ≠ row := fun g hgv e' => by
  rcases hr.2 with ⟨rfl, _⟩ | ⟨g2, cap, cur, rfl, _, hgb, _⟩
  ·simp [Value.ownBlock] at hgv
  ·obtain rfl : g2 = g := by simpa [Value.ownBlock] using hgv
   obtain ⟨o, ho, hc⟩ := hrow g2 e'.symm
   rw [hgb] at ho; cases ho; cases hc
 refine ⟨v, hv.kept hg (fun e' => ?_), hr.kept hg ?_, flat_kept hf hg hr hne⟩
 ·obtain ⟨o, ho, hc⟩ := hrow B e'.symm
  rw [show X.heap[B]? = _ from hv] at ho; cases ho; cases hc
 ·rcases h : v.ownBlock with _ | g
  ·exact .inl rfl
  ·exact .inr fun e' => hne g h e'
set_option maxRecDepth 100000 in
set_option maxHeartbeats 2000000 in
theorem apSeq_in (F : Fence) (n : Nat) (h3 : F.fn 125) (h5 : F.fn 120) (hro : F.round = none) (hn : 3 ≤ n) (Bs : Nat) (sv : Value) (zs : List (List UInt8)) (hlen : zs.length ≤ 1000000) (w : World) (hBs : Bs < w.heap.size) (hc : w.cell? ⟨Bs, 0, none⟩ = some sv) (hI : TextsAt w.heap.size w sv zs) :
 CallsIn F n Tryz.prog 125 #[.slice none 0 0, .func (.func 120) #[] #[.pointer (some ⟨Bs, 0, none⟩)]] w fun e W' => ∃ v, e = .returned v ∧ W'.ownsRow w.heap.size 9 1 v zs.length (zs.map encStr) ∧ FlatV W' v ∧ Below w.heap.size w W' := by
 have h1 : 1 ≤ n := by omega
 obtain ⟨i0, hi, hz0, hz1, hz2⟩ := info_parts infoStr
 refine callsIn_of_wp_marks Tryz.func125 rfl h3 ?_ hro
 simp only [Tryz.ntmps125, List.size_toArray, List.length_cons, List.length_nil, Nat.reduceAdd, Nat.reduceSub, Array.replicate_succ, Array.replicate_zero, List.push_toArray, List.append_toArray, List.nil_append, List.cons_append]
 gi_wp2
 have bO := Boxed.new w 48 (.slice none 0 0)
 have hB0 : Below w.heap.size w (w.alloc (.cells #[.slice none 0 0] 48)) := (Below.refl _ w).alloc (Nat.le_refl _) _
 refine wpIn_rangeFunc_ownG hro h1 (gf := 120) (lb := #[.pointer (some ⟨Bs, 0, none⟩)]) rfl h5 (enters_of Tryz.func120 (by kernel_rfl) rfl)
  (vals_stops F (n - 1) h5 hro (by omega) Bs w.heap.size sv zs (by omega) _ (by simp; omega) (by simp) ((hB0.cell (p := ⟨Bs, 0, none⟩) hBs).trans hc) (hI.below hB0)) belowK_t (belowK_b (by simp)) (Below.refl _ _) (fun _ => rfl)
  (fun pre W => SeqI w.heap.size w.heap.size pre W ∧ Below w.heap.size w W)
  (fun _ _ _ => False)
  (OwnFrom.and (Own.from (seqI_own w.heap.size w.heap.size) _) (ownFrom_below (Nat.le_refl _) (by simp)))
  (fun _ _ _ _ _ hs _ _ => hs)
  ⟨⟨_, bO, World.ownsRow_nil _ _ _ _, fun g n cap e => by cases e⟩, hB0⟩
  (fun x => { tmps := #[.slice none 0 0, .func (.func 120) #[] #[.pointer (some ⟨Bs, 0, none⟩)], .pointer (some ⟨w.heap.size, 0, none⟩), undef, .slice none 0 0, encStr x, .func (.func 120) #[] #[.pointer (some ⟨Bs, 0, none⟩)], encStr x, undef, undef, undef, undef, undef], defers := [] }) ?assign ?body ?done ?stop
 case assign =>
  intro l x W K hK
  gi_wp2
  exact hK
 case body =>
  rintro l pre x W ⟨⟨v, hv, hrow, hfl⟩, hB⟩ hlt
  have hc := hv.cell
  have hfl1 : FlatV (W.alloc (.cells #[encStr x] 9)) v := flat_kept hfl (World.grownBy_alloc W _ none) hrow (fun g _ => by simp)
  gi_wp2_with (gi_at_builtin; refine wpl_flat _ rfl _ _ 48 rfl w.heap.size 9 i0 16 Tryz.underlying48 hi hz0 hz1 hz2 _ _ _ rfl (hrow.alloc _) hfl1 W.heap.size 1 (encStr x) rfl (cell_one_new W (encStr x) 9 0 _ rfl) (by simp [Value.oneCell', encStr]) (by simp only [maxLen]; omega) (by omega) (by have := hB.size; simp; omega) ?_; intro v' w1 hown' hgrow hfl'; obtain ⟨g', cap', rfl⟩ := ownsRow_succ hown'; obtain ⟨hv1, hv2, hr2, hk2, hb2⟩ := hv.appended (by decide) hrow hB.size (Nat.le_refl _) hown' hgrow; have hc1 := hv1.cell; have hf1 := hv1.frozen)
  have hfl2 := flat_kept hfl' (grownBy_setCell' w1 w.heap.size (.slice (some ⟨g', 0, none⟩) (pre.length + 1) cap')) hown' (fun g hg e' => by
   have := hv1.not_row (by decide) hown'
   rw [hg] at this
   exact this e'.symm)
  exact ⟨hk2.from _, hb2, ⟨_, hv2, by simpa using hr2, hfl2⟩, hB.trans hb2⟩
 case done =>
  rintro D ys W hD rfl ⟨⟨v, hv, hrow, hfl⟩, hB⟩ hK
  have hc := hv.cell
  gi_wp2
  refine ⟨by simp, .inl ⟨_, _, rfl, run_takeDeferred hK, ?_⟩⟩
  refine ⟨_, results_tmp rfl _ _ _, v, rfl, ownsRow_putObj hrow _ hK rfl, flat_kept hfl (grownBy_putObj' W D _) hrow (fun g hg e' => ?_), hB.trans (belowK_b (w := w) (Nat.le_refl _) W D _ _ (by simp at hD; omega) hK rfl rfl)⟩
  rcases hrow.2 with ⟨rfl, _⟩ | ⟨g2, cap, cur, rfl, _, hgb, _⟩
  ·simp [Value.ownBlock] at hg
  ·obtain rfl : g2 = g := by simpa [Value.ownBlock] using hg
   cases e'
   rw [hgb] at hK; cases hK
 case stop =>
  rintro D c pre W _ _ h _
  exact h.elim
end Go.Proofs.YtkgbbcnjkojocaaGreatDoor
namespace Go.Proofs.YtkgbbcnjkojocaaGreatDoor
set_option linter.unusedVariables false
set_option linter.unusedSimpArgs false
def chrR (c : Int) : Bool := decide (0 ≤ c) && (decide (c ≤ 1114111) && (decide (c < 55296) || decide (57343 < c)))
def byR (c : Int) : UInt8 := UInt8.ofNat (c % 256).toNat
def putR (c : Int) : List UInt8 :=
 if c < 128 then [byR c]
 else if c < 2048 then [byR (192 + c / 64), byR (128 + c % 64)]
 else if c < 65536 then [byR (224 + c / 4096), byR (128 + c / 64 % 64), byR (128 + c % 64)]
 else [byR (240 + c / 262144), byR (128 + c / 4096 % 64), byR (128 + c / 64 % 64), byR (128 + c % 64)]
def uI (b : UInt8) : Int := b.toNat
theorem uI_lt (b : UInt8) : 0 ≤ uI b ∧ uI b < 256 := by
 unfold uI
 have := b.toNat_lt
 omega
theorem byR_eq (b : UInt8) (c : Int) (h0 : 0 ≤ c) (h1 : c < 256) : (byR c == b) = decide (c = uI b) := by
 have hb : b = UInt8.ofNat b.toNat := by simp
 unfold byR uI
 rw [Int.emod_eq_of_lt h0 h1]
 by_cases e : c = (b.toNat : Int)
 ·rw [decide_eq_true e, e, Int.toNat_natCast, ← hb]
  simp
 ·rw [decide_eq_false e]
  refine beq_eq_false_iff_ne.2 fun h => e ?_
  have h2 := congrArg UInt8.toNat h
  rw [UInt8.toNat_ofNat'] at h2
  omega
def okR (b : List UInt8) (n : Nat) (c : Int) : Bool := chrR c && (decide ((putR c).length = n) && (putR c).isPrefixOf b)
def whoR : List UInt8 → Option Int
 | [] => none
 | b0 :: r =>
  if okR (b0 :: r) 1 (uI b0) = true then some (uI b0) else
  match r with
  | [] => none
  | b1 :: r =>
   if okR (b0 :: b1 :: r) 2 ((uI b0 - 192) * 64 + (uI b1 - 128)) = true then some ((uI b0 - 192) * 64 + (uI b1 - 128)) else
   match r with
   | [] => none
   | b2 :: r =>
    if okR (b0 :: b1 :: b2 :: r) 3 ((uI b0 - 224) * 4096 + (uI b1 - 128) * 64 + (uI b2 - 128)) = true then some ((uI b0 - 224) * 4096 + (uI b1 - 128) * 64 + (uI b2 - 128)) else
    match r with
    | [] => none
    | b3 :: r => if okR (b0 :: b1 :: b2 :: b3 :: r) 4 ((uI b0 - 240) * 262144 + (uI b1 - 128) * 4096 + (uI b2 - 128) * 64 + (uI b3 - 128)) = true then some ((uI b0 - 240) * 262144 + (uI b1 - 128) * 4096 + (uI b2 - 128) * 64 + (uI b3 - 128)) else none
def firU (c : Int) : Nat := if c < 128 then 1 else if c < 194 then 0 else if c < 224 then 2 else if c < 240 then 3 else if c < 245 then 4 else 0
def secU (a b : Int) : Bool := decide ((if a = 224 then 160 else if a = 240 then 144 else 128) ≤ b) && decide (b ≤ (if a = 237 then 159 else if a = 244 then 143 else 191))
def conU (b : Int) : Bool := decide (128 ≤ b) && decide (b ≤ 191)
def takU : List UInt8 → Nat
 | [] => 0
 | b0 :: r =>
  if firU (uI b0) = 1 then 1
  else if firU (uI b0) = 0 then 0
  else match r with
  | [] => 0
  | b1 :: r =>
   if (conU (uI b1) && secU (uI b0) (uI b1)) = true then
    if firU (uI b0) = 2 then 2
    else match r with
    | [] => 0
    | b2 :: r =>
     if conU (uI b2) = true then
      if firU (uI b0) = 3 then 3
      else match r with
      | [] => 0
      | b3 :: _ => if conU (uI b3) = true then 4 else 0
     else 0
   else 0
def takR (b : List UInt8) : Nat := match whoR b with
 | none => 0
 | some c => (putR c).length
theorem pre1 (b0 x0 : UInt8) (r : List UInt8) : [x0].isPrefixOf (b0 :: r) = (x0 == b0) := by simp [List.isPrefixOf]
theorem ok1 (b0 : UInt8) (r : List UInt8) : okR (b0 :: r) 1 (uI b0) = decide (uI b0 < 128) := by
 have h := uI_lt b0
 unfold okR
 by_cases e : uI b0 < 128
 ·have hp : putR (uI b0) = [byR (uI b0)] := by unfold putR; rw [if_pos e]
  have hc : chrR (uI b0) = true := by unfold chrR; simp; omega
  rw [hp, hc, decide_eq_true e, pre1, byR_eq b0 _ h.1 h.2]
  simp
 ·have hp : (putR (uI b0)).length ≠ 1 := by
   unfold putR
   rw [if_neg e]
   split
   ·simp
   ·split <;> simp
  rw [decide_eq_false hp, decide_eq_false e]
  simp
theorem ok2 (b0 b1 : UInt8) (r : List UInt8) : okR (b0 :: b1 :: r) 2 ((uI b0 - 192) * 64 + (uI b1 - 128)) = (decide (194 ≤ uI b0) && (decide (uI b0 < 224) && conU (uI b1))) := by
 have h0 := uI_lt b0
 have h1 := uI_lt b1
 generalize hc : (uI b0 - 192) * 64 + (uI b1 - 128) = c
 unfold okR
 by_cases e : 128 ≤ c ∧ c < 2048
 ·have hp : putR c = [byR (192 + c / 64), byR (128 + c % 64)] := by unfold putR; rw [if_neg (by omega), if_pos e.2]
  rw [hp, show [byR (192 + c / 64), byR (128 + c % 64)].isPrefixOf (b0 :: b1 :: r) = (byR (192 + c / 64) == b0 && byR (128 + c % 64) == b1) by simp [List.isPrefixOf], byR_eq b0 _ (by omega) (by omega), byR_eq b1 _ (by omega) (by omega)]
  unfold chrR conU
  simp only [← Bool.decide_and, ← Bool.decide_or, List.length_cons, List.length_nil, Nat.zero_add, decide_true, Bool.true_and]
  rw [decide_eq_decide]
  omega
 ·have hp : decide ((putR c).length = 2) = false := decide_eq_false (by
   unfold putR
   split
   ·simp
   ·rw [if_neg (by omega)]
    split <;> simp)
  rw [hp]
  unfold conU
  simp only [Bool.false_and, Bool.and_false, ← Bool.decide_and]
  exact (decide_eq_false (by omega)).symm
theorem ok3 (b0 b1 b2 : UInt8) (r : List UInt8) : okR (b0 :: b1 :: b2 :: r) 3 ((uI b0 - 224) * 4096 + (uI b1 - 128) * 64 + (uI b2 - 128)) = (decide (224 ≤ uI b0) && (decide (uI b0 < 240) && (conU (uI b1) && secU (uI b0) (uI b1) && conU (uI b2)))) := by
 have h0 := uI_lt b0
 have h1 := uI_lt b1
 have h2 := uI_lt b2
 generalize hc : (uI b0 - 224) * 4096 + (uI b1 - 128) * 64 + (uI b2 - 128) = c
 unfold okR
 by_cases e : 2048 ≤ c ∧ c < 65536
 ·have hp : putR c = [byR (224 + c / 4096), byR (128 + c / 64 % 64), byR (128 + c % 64)] := by unfold putR; rw [if_neg (by omega), if_neg (by omega), if_pos e.2]
  rw [hp, show [byR (224 + c / 4096), byR (128 + c / 64 % 64), byR (128 + c % 64)].isPrefixOf (b0 :: b1 :: b2 :: r) = (byR (224 + c / 4096) == b0 && (byR (128 + c / 64 % 64) == b1 && byR (128 + c % 64) == b2)) by simp [List.isPrefixOf], byR_eq b0 _ (by omega) (by omega), byR_eq b1 _ (by omega) (by omega), byR_eq b2 _ (by omega) (by omega)]
  unfold chrR conU secU
  simp only [← Bool.decide_and, ← Bool.decide_or, List.length_cons, List.length_nil, Nat.zero_add, decide_true, Bool.true_and]
  rw [decide_eq_decide]
  split <;> split <;> (try split) <;> (try split) <;> omega
 ·have hp : decide ((putR c).length = 3) = false := decide_eq_false (by
   unfold putR
   split
   ·simp
   ·split
    ·simp
    ·rw [if_neg (by omega)]
     simp)
  rw [hp]
  unfold conU secU
  simp only [Bool.false_and, Bool.and_false, ← Bool.decide_and]
  refine (decide_eq_false ?_).symm
  split <;> split <;> (try split) <;> (try split) <;> omega
theorem ok4 (b0 b1 b2 b3 : UInt8) (r : List UInt8) : okR (b0 :: b1 :: b2 :: b3 :: r) 4 ((uI b0 - 240) * 262144 + (uI b1 - 128) * 4096 + (uI b2 - 128) * 64 + (uI b3 - 128)) = (decide (240 ≤ uI b0) && (decide (uI b0 < 245) && (conU (uI b1) && secU (uI b0) (uI b1) && conU (uI b2) && conU (uI b3)))) := by
 have h0 := uI_lt b0
 have h1 := uI_lt b1
 have h2 := uI_lt b2
 have h3 := uI_lt b3
 generalize hc : (uI b0 - 240) * 262144 + (uI b1 - 128) * 4096 + (uI b2 - 128) * 64 + (uI b3 - 128) = c
 unfold okR
 by_cases e : 65536 ≤ c ∧ c ≤ 1114111
 ·have hp : putR c = [byR (240 + c / 262144), byR (128 + c / 4096 % 64), byR (128 + c / 64 % 64), byR (128 + c % 64)] := by unfold putR; rw [if_neg (by omega), if_neg (by omega), if_neg (by omega)]
  rw [hp, show [byR (240 + c / 262144), byR (128 + c / 4096 % 64), byR (128 + c / 64 % 64), byR (128 + c % 64)].isPrefixOf (b0 :: b1 :: b2 :: b3 :: r) = (byR (240 + c / 262144) == b0 && (byR (128 + c / 4096 % 64) == b1 && (byR (128 + c / 64 % 64) == b2 && byR (128 + c % 64) == b3))) by simp [List.isPrefixOf], byR_eq b0 _ (by omega) (by omega), byR_eq b1 _ (by omega) (by omega), byR_eq b2 _ (by omega) (by omega), byR_eq b3 _ (by omega) (by omega)]
  unfold chrR conU secU
  simp only [← Bool.decide_and, ← Bool.decide_or, List.length_cons, List.length_nil, Nat.zero_add, decide_true, Bool.true_and]
  rw [decide_eq_decide]
  split <;> split <;> (try split) <;> (try split) <;> omega
 ·have hp : (chrR c && decide ((putR c).length = 4)) = false := by
   by_cases q : c ≤ 1114111
   ·have : decide ((putR c).length = 4) = false := decide_eq_false (by
     unfold putR
     split
     ·simp
     ·split
      ·simp
      ·rw [if_pos (by omega)]
       simp)
    rw [this, Bool.and_false]
   ·have : chrR c = false := by unfold chrR; rw [decide_eq_false q]; simp
    rw [this, Bool.false_and]
  rw [← Bool.and_assoc, hp]
  unfold conU secU
  simp only [Bool.false_and, ← Bool.decide_and]
  refine (decide_eq_false ?_).symm
  split <;> split <;> (try split) <;> (try split) <;> omega
theorem put_len {c : Int} {n : Nat} {b : List UInt8} (h : okR b n c = true) : (putR c).length = n := by
 unfold okR at h
 rw [Bool.and_eq_true, Bool.and_eq_true] at h
 exact of_decide_eq_true h.2.1
theorem ite_len (b : List UInt8) (n : Nat) (c : Int) (x : Option Int) : (match (if okR b n c = true then some c else x) with | none => 0 | some c => (putR c).length) = if okR b n c = true then n else (match x with | none => 0 | some c => (putR c).length) := by
 by_cases h : okR b n c = true
 ·rw [if_pos h, if_pos h]
  exact put_len h
 ·rw [if_neg h, if_neg h]
theorem tak_eq (b : List UInt8) : takR b = takU b := by
 cases b with
 | nil => rfl
 | cons b0 r =>
  have h0 := uI_lt b0
  have e1 := ok1 b0 r
  have hreg : uI b0 < 128 ∨ (128 ≤ uI b0 ∧ (uI b0 < 194 ∨ 245 ≤ uI b0)) ∨ (194 ≤ uI b0 ∧ uI b0 < 224) ∨ (224 ≤ uI b0 ∧ uI b0 < 240) ∨ (240 ≤ uI b0 ∧ uI b0 < 245) := by omega
  have two : ∀ b1, 194 ≤ uI b0 ∧ uI b0 < 224 → secU (uI b0) (uI b1) = conU (uI b1) := fun b1 h => by
   unfold secU conU
   rw [if_neg (by omega), if_neg (by omega), if_neg (by omega), if_neg (by omega)]
  have hf : firU (uI b0) = if uI b0 < 128 then 1 else if uI b0 < 194 then 0 else if uI b0 < 224 then 2 else if uI b0 < 240 then 3 else if uI b0 < 245 then 4 else 0 := rfl
  unfold takR whoR takU
  dsimp only
  rw [ite_len, e1]
  rcases hreg with q | q | q | q | q
  ·simp [q, hf]
  ·have f1 : ¬ uI b0 < 128 := by omega
   have hz : firU (uI b0) = 0 := by
    rw [hf, if_neg f1]
    rcases q.2 with p | p
    ·rw [if_pos p]
    ·rw [if_neg (by omega), if_neg (by omega), if_neg (by omega), if_neg (by omega)]
   have n2 : ∀ x, (decide (194 ≤ uI b0) && (decide (uI b0 < 224) && x)) = false := fun x => by
    rcases q.2 with p | p
    ·simp [show ¬ 194 ≤ uI b0 by omega]
    ·simp [show ¬ uI b0 < 224 by omega]
   have n3 : ∀ x, (decide (224 ≤ uI b0) && (decide (uI b0 < 240) && x)) = false := fun x => by
    rcases q.2 with p | p
    ·simp [show ¬ 224 ≤ uI b0 by omega]
    ·simp [show ¬ uI b0 < 240 by omega]
   have n4 : ∀ x, (decide (240 ≤ uI b0) && (decide (uI b0 < 245) && x)) = false := fun x => by
    rcases q.2 with p | p
    ·simp [show ¬ 240 ≤ uI b0 by omega]
    ·simp [show ¬ uI b0 < 245 by omega]
   rw [decide_eq_false f1, if_neg (by decide), hz, if_neg (by decide), if_pos rfl]
   cases r with
   | nil => rfl
   | cons b1 r =>
    dsimp only
    rw [ite_len, ok2, n2, if_neg (by decide)]
    cases r with
    | nil => rfl
    | cons b2 r =>
     dsimp only
     rw [ite_len, ok3, n3, if_neg (by decide)]
     cases r with
     | nil => rfl
     | cons b3 r =>
      dsimp only
      rw [ite_len, ok4, n4, if_neg (by decide)]
  all_goals
   have f1 : ¬ uI b0 < 128 := by omega
   have f2 : ¬ uI b0 < 194 := by omega
   have t2 := fun b1 => two b1
   rw [decide_eq_false f1, if_neg (by decide)]
   rw [hf, if_neg f1, if_neg f2]
   have k2 : decide (194 ≤ uI b0) = true := decide_eq_true (by omega)
  ·have g1 : ¬ 224 ≤ uI b0 := by omega
   have g2 : ¬ 240 ≤ uI b0 := by omega
   cases r with
   | nil => simp [q.2]
   | cons b1 r =>
    dsimp only
    rw [ite_len, ok2, k2, t2 b1 q]
    cases hc : conU (uI b1)
    ·cases r with
     | nil => simp [q.2]
     | cons b2 r =>
      dsimp only
      rw [ite_len, ok3]
      cases r with
      | nil => simp [q.2, g1]
      | cons b3 r =>
       dsimp only
       rw [ite_len, ok4]
       simp [q.2, g1, g2]
    ·simp [q.2]
  ·have g0 : ¬ uI b0 < 224 := by omega
   have g2 : ¬ 240 ≤ uI b0 := by omega
   cases r with
   | nil => simp [g0, q.2]
   | cons b1 r =>
    dsimp only
    rw [ite_len, ok2]
    cases hcs : (conU (uI b1) && secU (uI b0) (uI b1))
    ·cases r with
     | nil => simp [g0, q.2]
     | cons b2 r =>
      dsimp only
      rw [ite_len, ok3, hcs]
      cases r with
      | nil => simp [g0, q.2]
      | cons b3 r =>
       dsimp only
       rw [ite_len, ok4]
       simp [g0, q.2, g2]
    ·cases r with
     | nil => simp [g0, q.2]
     | cons b2 r =>
      dsimp only
      rw [ite_len, ok3, hcs]
      cases hc2 : conU (uI b2)
      ·cases r with
       | nil => simp [g0, q.1, q.2]
       | cons b3 r =>
        dsimp only
        rw [ite_len, ok4]
        simp [g0, q.1, q.2, g2]
      ·simp [g0, q.1, q.2]
  ·have g0 : ¬ uI b0 < 224 := by omega
   have g1 : ¬ uI b0 < 240 := by omega
   cases r with
   | nil => simp [g0, g1, q.2]
   | cons b1 r =>
    dsimp only
    rw [ite_len, ok2]
    cases hcs : (conU (uI b1) && secU (uI b0) (uI b1))
    ·cases r with
     | nil => simp [g0, g1, q.2]
     | cons b2 r =>
      dsimp only
      rw [ite_len, ok3]
      cases r with
      | nil => simp [g0, g1, q.2]
      | cons b3 r =>
       dsimp only
       rw [ite_len, ok4, hcs]
       simp [g0, g1, q.2]
    ·cases r with
     | nil => simp [g0, g1, q.2]
     | cons b2 r =>
      dsimp only
      rw [ite_len, ok3]
      cases r with
      | nil => simp [g0, g1, q.2]
      | cons b3 r =>
       dsimp only
       rw [ite_len, ok4, hcs]
       cases hc2 : conU (uI b2) <;> cases hc3 : conU (uI b3) <;> simp [g0, g1, q.1, q.2]
def allU : Nat → List UInt8 → Bool
 | 0, b => b.isEmpty
 | n + 1, b => b.isEmpty || (decide (0 < takU b) && allU n (b.drop (takU b)))
theorem all_u_end (n : Nat) : allU n [] = true := by cases n <;> rfl
end Go.Proofs.YtkgbbcnjkojocaaGreatDoor
namespace Go.Proofs.YtkgbbcnjkojocaaGreatDoor
open Go.RowKit Go.Av Go.Ab
set_option linter.unusedSimpArgs false
set_option linter.unusedVariables false
set_option maxRecDepth 100000
set_option linter.defProp false
def b130 := KB Tryz.func130 30
def b131 := KB Tryz.func131 24
def b124 := KB Tryz.func124 80
def b117 := KB Tryz.func117 26
def b108 := KB Tryz.func108 12
set_option maxHeartbeats 2000000 in
theorem first_ab (c : Int) (B : List (List V)) (T : List (Nat × Nat)) : AFn Tryz.prog TabI 130 [.d (.int .u8 c)] ⟨B, T⟩ fun v S => (∃ x : Int, v = .tup [.d (.int .i64 (firU c : Int)), .d (.int .i32 x)]) ∧ S = ⟨B, T⟩ := by
 unfold firU
 by_cases h1 : c < 128
 ·have e1 := decide_eq_true h1
  rw [if_pos h1]
  refine enN b130 ?_
  simp only [W, seval, b130, e1]
  refine retN b130 (Left.none ?_)
  exact ⟨⟨_, rfl⟩, rfl⟩
 have e1 := decide_eq_false h1
 rw [if_neg h1]
 by_cases h2 : c < 194
 ·have e2 := decide_eq_true h2
  rw [if_pos h2]
  refine enN b130 ?_
  simp only [W, seval, b130, e1, e2]
  refine retN b130 (Left.none ?_)
  exact ⟨⟨_, rfl⟩, rfl⟩
 have e2 := decide_eq_false h2
 rw [if_neg h2]
 by_cases h3 : c < 224
 ·have e3 := decide_eq_true h3
  rw [if_pos h3]
  refine enN b130 ?_
  simp only [W, seval, b130, e1, e2, e3]
  refine retN b130 (Left.none ?_)
  exact ⟨⟨_, rfl⟩, rfl⟩
 have e3 := decide_eq_false h3
 rw [if_neg h3]
 by_cases h4 : c < 240
 ·have e4 := decide_eq_true h4
  rw [if_pos h4]
  refine enN b130 ?_
  simp only [W, seval, b130, e1, e2, e3, e4]
  refine retN b130 (Left.none ?_)
  exact ⟨⟨_, rfl⟩, rfl⟩
 have e4 := decide_eq_false h4
 rw [if_neg h4]
 by_cases h5 : c < 245
 ·have e5 := decide_eq_true h5
  rw [if_pos h5]
  refine enN b130 ?_
  simp only [W, seval, b130, e1, e2, e3, e4, e5]
  refine retN b130 (Left.none ?_)
  exact ⟨⟨_, rfl⟩, rfl⟩
 have e5 := decide_eq_false h5
 rw [if_neg h5]
 refine enN b130 ?_
 simp only [W, seval, b130, e1, e2, e3, e4, e5]
 refine retN b130 (Left.none ?_)
 exact ⟨⟨_, rfl⟩, rfl⟩
set_option maxHeartbeats 2000000 in
theorem second_ab (a b : Int) (B : List (List V)) (T : List (Nat × Nat)) : AFn Tryz.prog TabI 131 [.d (.int .u8 a), .d (.int .u8 b)] ⟨B, T⟩ (Same (.d (.bool (secU a b))) ⟨B, T⟩) := by
 have key : ∀ lo hi : Int, (if a = 224 then 160 else if a = 240 then 144 else 128) = lo → (if a = 237 then 159 else if a = 244 then 143 else 191) = hi → secU a b = (decide (lo ≤ b) && decide (b ≤ hi)) := fun lo hi h1 h2 => by
  unfold secU
  rw [h1, h2]
 by_cases h1 : a = 224
 ·have e1 := decide_eq_true h1
  rw [key 160 191 (if_pos h1) (by rw [if_neg (by omega), if_neg (by omega)])]
  cases e9 : decide (160 ≤ b)
  all_goals
   refine enS b131 fun hsm => ?_
   simp only [smw] at hsm
   simp only [W, seval, b131, e1, e9]
   refine retN b131 (Left.none ?_)
   exact ⟨rfl, rfl⟩
 have e1 := decide_eq_false h1
 by_cases h2 : a = 237
 ·have e2 := decide_eq_true h2
  rw [key 128 159 (by rw [if_neg h1, if_neg (by omega)]) (if_pos h2)]
  cases e9 : decide (128 ≤ b)
  all_goals
   refine enS b131 fun hsm => ?_
   simp only [smw] at hsm
   simp only [W, seval, b131, e1, e2, e9]
   refine retN b131 (Left.none ?_)
   exact ⟨rfl, rfl⟩
 have e2 := decide_eq_false h2
 by_cases h3 : a = 240
 ·have e3 := decide_eq_true h3
  rw [key 144 191 (by rw [if_neg h1, if_pos h3]) (by rw [if_neg h2, if_neg (by omega)])]
  cases e9 : decide (144 ≤ b)
  all_goals
   refine enS b131 fun hsm => ?_
   simp only [smw] at hsm
   simp only [W, seval, b131, e1, e2, e3, e9]
   refine retN b131 (Left.none ?_)
   exact ⟨rfl, rfl⟩
 have e3 := decide_eq_false h3
 by_cases h4 : a = 244
 ·have e4 := decide_eq_true h4
  rw [key 128 143 (by rw [if_neg h1, if_neg h3]) (by rw [if_neg h2, if_pos h4])]
  cases e9 : decide (128 ≤ b)
  all_goals
   refine enS b131 fun hsm => ?_
   simp only [smw] at hsm
   simp only [W, seval, b131, e1, e2, e3, e4, e9]
   refine retN b131 (Left.none ?_)
   exact ⟨rfl, rfl⟩
 have e4 := decide_eq_false h4
 rw [key 128 191 (by rw [if_neg h1, if_neg h3]) (by rw [if_neg h2, if_neg h4])]
 cases e9 : decide (128 ≤ b)
 all_goals
  refine enS b131 fun hsm => ?_
  simp only [smw] at hsm
  simp only [W, seval, b131, e1, e2, e3, e4, e9]
  refine retN b131 (Left.none ?_)
  exact ⟨rfl, rfl⟩
def okU (b : List UInt8) (i : Nat) : Bool := match b[i]? with
 | none => false
 | some x => conU (uI x) && (!decide (i = 1) || secU (uI (b.getD 0 0)) (uI x))
theorem firU_in (c : Int) : firU c = 0 ∨ firU c = 1 ∨ firU c = 2 ∨ firU c = 3 ∨ firU c = 4 := by
 unfold firU
 repeat' split
 all_goals simp
theorem takU_ok (b0 : UInt8) (r : List UInt8) : takU (b0 :: r) = if firU (uI b0) = 0 then 0 else if ((List.range (firU (uI b0) - 1)).all fun i => okU (b0 :: r) (i + 1)) = true then firU (uI b0) else 0 := by
 rcases firU_in (uI b0) with h | h | h | h | h
 ·simp [takU, h]
 ·simp [takU, h]
 ·rcases r with _ | ⟨b1, r⟩
  ·simp [takU, h, okU, List.range_succ]
  ·simp [takU, h, okU, List.range_succ]
 ·rcases r with _ | ⟨b1, _ | ⟨b2, r⟩⟩
  ·simp [takU, h, okU, List.range_succ]
  ·simp [takU, h, okU, List.range_succ]
  ·cases h1 : conU (uI b1) <;> cases h2 : secU (uI b0) (uI b1) <;> cases h3 : conU (uI b2) <;> simp [takU, h, okU, List.range_succ, h1, h2, h3]
 ·rcases r with _ | ⟨b1, _ | ⟨b2, _ | ⟨b3, r⟩⟩⟩
  ·simp [takU, h, okU, List.range_succ]
  ·simp [takU, h, okU, List.range_succ]
  ·simp [takU, h, okU, List.range_succ]
  ·cases h1 : conU (uI b1) <;> cases h2 : secU (uI b0) (uI b1) <;> cases h3 : conU (uI b2) <;> cases h4 : conU (uI b3) <;> simp [takU, h, okU, List.range_succ, h1, h2, h3, h4]
end Go.Proofs.YtkgbbcnjkojocaaGreatDoor
