/- GentypeTells: whatever the schema and the place, the program and the document tell the same types and structs. Part 2 of 5 of the proof. -/
import Derived.Test.YtkgbbcnjkojocaaGreatDoorGentypeTellsa
import Derived.Deep.Quiet
import Derived.ProofKit
import Derived.Lib.Bytealg
import Derived.Lib.IndexBytes
import Derived.BigRegion
import Derived.Test.YtkgbbcnjkojocaaGreatDoorRows
import Derived.WalkKit
import Derived.WalkSpells
import Derived.WalkLawsBesides
import Derived.Lib.Hide
import Derived.BigQuiet
import Derived.Deep.RegionLaw
import Derived.Deep.QuietTactic
namespace Go.Ab
open Go.RowKit Go.Av
mutual
def wk (n m : Nat) : V → V
 | .undef => .undef
 | .d x => .d x
 | .sl rows .full => .d (.sl rows)
 | .sl rows (.own t) => if t < m then .sl rows (.own t) else .d (.sl rows)
 | .ptr i k => if i < n then .ptr i k else .undef
 | .eptr r k => .eptr r k
 | .bx i k cap => if i < n then .bx i k cap else .undef
 | .self i T => if i < n then .self i T else .undef
 | .buf rows t T => if t < m then .buf rows t T else .d (.sl rows)
 | .nilp => .nilp
 | .func f a b => .func f (wkL n m a) (wkL n m b)
 | .nilf => .nilf
 | .agg vs => .agg (wkL n m vs)
 | .tup vs => .tup (wkL n m vs)
 | .mp i => if i < n then .mp i else .undef
 | .kvs ks vs => .kvs ks (wkL n m vs)
def wkL (n m : Nat) : List V → List V
 | [] => []
 | v :: vs => wk n m v :: wkL n m vs
end
theorem wkL_map (n m : Nat) : ∀ vs : List V, wkL n m vs = vs.map (wk n m)
 | [] => by simp [wkL]
 | v :: vs => by simp [wkL, wkL_map n m vs]
mutual
def fit (n m : Nat) : V → Bool
 | .undef => true
 | .d _ => true
 | .sl _ .full => true
 | .sl _ (.own t) => decide (t < m)
 | .ptr i _ => decide (i < n)
 | .eptr _ _ => true
 | .bx i _ _ => decide (i < n)
 | .self i _ => decide (i < n)
 | .buf _ t _ => decide (t < m)
 | .nilp => true
 | .nilf => true
 | .func _ a b => fitL n m a && fitL n m b
 | .agg vs => fitL n m vs
 | .tup vs => fitL n m vs
 | .mp i => decide (i < n)
 | .kvs _ vs => fitL n m vs
def fitL (n m : Nat) : List V → Bool
 | [] => true
 | v :: vs => fit n m v && fitL n m vs
end
theorem fitL_iff (n m : Nat) : ∀ vs : List V, fitL n m vs = true ↔ ∀ (j : Nat) (h : j < vs.length), fit n m vs[j] = true
 | [] => by simp [fitL]
 | v :: vs => by
  simp only [fitL, Bool.and_eq_true, fitL_iff n m vs]
  constructor
  ·rintro ⟨h1, h2⟩ j hj
   cases j with
   | zero => exact h1
   | succ j => exact h2 j (by simpa using hj)
  ·intro h
   exact ⟨h 0 (by simp), fun j hj => h (j + 1) (by simpa using hj)⟩
def Cx.cut (c : Cx) (n m : Nat) : Cx := { c with ρ := c.ρ.take n, τ := c.τ.take m }
theorem cut_M {c : Cx} {n m g k : Nat} (h : (c.cut n m).M g k) : c.M g k := by
 rcases h with (h | h) | ⟨t, i, off, ht, r⟩
 ·exact .inl (.inl h)
 ·exact .inl (.inr (List.mem_of_mem_take h))
 ·have ht' : (c.τ.take m)[t]? = some i := ht
  rw [List.getElem?_take] at ht'
  split at ht'
  ·exact .inr ⟨t, i, off, ht', r⟩
  ·cases ht'
theorem DR.cut {c : Cx} {w : World} (n m : Nat) {x : D} {v : Value} (h : DR c.M w x v) : DR (c.cut n m).M w x v := h.mono fun _ _ _ hm hv => ⟨fun h => hm (cut_M h), hv⟩
theorem get_take {α : Type} {l : List α} {n i : Nat} {x : α} (h : l[i]? = some x) (hi : i < n) : (l.take n)[i]? = some x := by rw [List.getElem?_take, if_pos hi]; exact h
theorem VR.cut {c : Cx} {w : World} (n m : Nat) {x : V} {v : Value} (h : VR c w x v) : VR (c.cut n m) w (wk n m x) v := by
 induction h with
 | undef v => unfold wk; exact .undef v
 | d x v h => unfold wk; exact .d x v (h.cut n m)
 | full rows a h ha => unfold wk; exact .d _ _ (h.cut n m)
 | own rows t a cap i h ht hr hn hl =>
  unfold wk
  split
  ·rename_i hlt
   exact .own rows t a cap i (h.cut n m) (get_take ht hlt) hr hn hl
  ·exact .d _ _ (h.cut n m)
 | ptr i k b h hT =>
  unfold wk
  split
  ·rename_i hlt
   exact .ptr i k b (get_take h hlt) hT
  ·exact .undef _
 | eptr row k g o f h =>
  unfold wk
  refine .eptr row k g o f fun q hq => ?_
  obtain ⟨a, b, d⟩ := h q hq
  exact ⟨fun h => a (cut_M h), b, d.cut n m⟩
 | bx i k cap b h hn hm hT =>
  unfold wk
  split
  ·rename_i hlt
   exact .bx i k cap b (get_take h hlt) hn hm hT
  ·exact .undef _
 | mp i b h =>
  unfold wk
  split
  ·rename_i hlt
   exact .mp i b (get_take h hlt)
  ·exact .undef _
 | self i T b v h hT hv =>
  unfold wk
  split
  ·rename_i hlt
   exact .self i T b v (get_take h hlt) hT hv
  ·exact .undef _
 | buf rows t T v h hT ih =>
  unfold wk at ih ⊢
  split
  ·rename_i hlt
   rw [if_pos hlt] at ih
   exact .buf rows t T v ih hT
  ·rename_i hlt
   rw [if_neg hlt] at ih
   exact ih
 | nilp => unfold wk; exact .nilp
 | func f first caps cf cc h1 h2 h3 h4 ih1 ih2 =>
  unfold wk
  rw [wkL_map, wkL_map]
  exact .func f _ _ cf cc (by simpa using h1) (by simpa using h2) (fun j hj => by simpa using ih1 j (by simpa using hj)) (fun j hj => by simpa using ih2 j (by simpa using hj))
 | nilf => unfold wk; exact .nilf
 | agg vs cs h1 h2 h3 ih =>
  unfold wk
  rw [wkL_map]
  exact .agg _ cs (by simpa using h1) (fun j hj => by simpa using ih j (by simpa using hj)) (fun j hj => h3 j (by simpa using hj))
 | tup vs cs h1 h2 ih =>
  unfold wk
  rw [wkL_map]
  exact .tup _ cs (by simpa using h1) (fun j hj => by simpa using ih j (by simpa using hj))
theorem VR.cut_fit {c : Cx} {w : World} (n m : Nat) {x : V} {v : Value} (h : VR c w x v) (hf : fit n m x = true) : VR (c.cut n m) w x v := by
 induction h with
 | undef v => exact .undef v
 | d x v h => exact .d x v (h.cut n m)
 | full rows a h ha => exact .full rows a (h.cut n m) ha
 | own rows t a cap i h ht hr hn hl => exact .own rows t a cap i (h.cut n m) (get_take ht (by simpa [fit] using hf)) hr hn hl
 | ptr i k b h hT => exact .ptr i k b (get_take h (by simpa [fit] using hf)) hT
 | bx i k cap b h hn hm hT => exact .bx i k cap b (get_take h (by simpa [fit] using hf)) hn hm hT
 | mp i b h => exact .mp i b (get_take h (by simpa [fit] using hf))
 | self i T b v h hT hv => exact .self i T b v (get_take h (by simpa [fit] using hf)) hT hv
 | buf rows t T v h hT ih => exact .buf rows t T v (ih (by simpa [fit] using hf)) hT
 | eptr row k g o f h =>
  refine .eptr row k g o f fun q hq => ?_
  obtain ⟨a, b, d⟩ := h q hq
  exact ⟨fun h => a (cut_M h), b, d.cut n m⟩
 | nilp => exact .nilp
 | nilf => exact .nilf
 | func f first caps cf cc h1 h2 h3 h4 ih1 ih2 =>
  unfold fit at hf
  rw [Bool.and_eq_true, fitL_iff, fitL_iff] at hf
  exact .func f first caps cf cc h1 h2 (fun j hj => ih1 j hj (hf.1 j hj)) (fun j hj => ih2 j hj (hf.2 j hj))
 | agg vs cs h1 h2 h3 ih =>
  unfold fit at hf
  rw [fitL_iff] at hf
  exact .agg vs cs h1 (fun j hj => ih j hj (hf j hj)) h3
 | tup vs cs h1 h2 ih =>
  unfold fit at hf
  rw [fitL_iff] at hf
  exact .tup vs cs h1 (fun j hj => ih j hj (hf j hj))
theorem VR.fits {c : Cx} {w : World} {x : V} {v : Value} (h : VR c w x v) : fit c.ρ.length c.τ.length x = true := by
 induction h with
 | own rows t a cap i h ht hr hn hl => simpa [fit] using (List.getElem?_eq_some_iff.1 ht).1
 | ptr i k b h hT => simpa [fit] using (List.getElem?_eq_some_iff.1 h).1
 | bx i k cap b h hn hm hT => simpa [fit] using (List.getElem?_eq_some_iff.1 h).1
 | mp i b h => simpa [fit] using (List.getElem?_eq_some_iff.1 h).1
 | self i T b v h hT hv => simpa [fit] using (List.getElem?_eq_some_iff.1 h).1
 | buf rows t T v h hT ih => simpa [fit] using ih
 | func f first caps cf cc h1 h2 h3 h4 ih1 ih2 => unfold fit; rw [Bool.and_eq_true, fitL_iff, fitL_iff]; exact ⟨ih1, ih2⟩
 | agg vs cs h1 h2 h3 ih => unfold fit; rw [fitL_iff]; exact ih
 | tup vs cs h1 h2 ih => unfold fit; rw [fitL_iff]; exact ih
 | _ => simp [fit]
theorem BoxR.cut_fit {c : Cx} {w : World} (n m : Nat) {o : Obj} {vs : List V} (h : BoxR c w o vs) (hf : ∀ (j : Nat) (h : j < vs.length), fit n m vs[j] = true) : BoxR (c.cut n m) w o vs := by
 cases h with
 | cells cs T vs h1 h2 => exact .cells cs T vs h1 fun j hj => ⟨(h2 j hj).1.cut_fit n m (hf j hj), (h2 j hj).2⟩
 | map es ck ks us h0 h1 h2 =>
  have hf := hf 0 (by simp)
  simp only [List.getElem_cons_zero, fit] at hf
  rw [fitL_iff] at hf
  refine .map es ck ks us h0 h1 fun j k v hj hv => (h2 j k v hj hv).imp fun e he => ⟨he.1, he.2.1, he.2.2.cut_fit n m ?_⟩
  obtain ⟨hlt, rfl⟩ := List.getElem?_eq_some_iff.1 hv
  exact hf j hlt
theorem BoxR.fits {c : Cx} {w : World} {o : Obj} {vs : List V} (h : BoxR c w o vs) : ∀ (j : Nat) (h : j < vs.length), fit c.ρ.length c.τ.length vs[j] = true := by
 cases h with
 | cells cs T vs h1 h2 => exact fun j hj => (h2 j hj).1.fits
 | map es ck ks us h0 h1 h2 =>
  intro j hj
  obtain rfl : j = 0 := by simpa using hj
  simp only [List.getElem_cons_zero, fit]
  rw [fitL_iff]
  intro q hq
  obtain ⟨e, _, _, hv⟩ := h2 q (ks[q]'(by omega)) us[q] (by simp [show q < ks.length by omega]) (by simp [hq])
  exact hv.fits
def FitC (n m : Nat) (B L : List (List V)) : Prop := ∀ (i : Nat) (vs : List V), L[i]? = some vs → ∀ v ∈ vs, (∃ us, B[i]? = some us ∧ v ∈ us) ∨ fit n m v = true
def FitL (n m : Nat) (B L : List (List V)) : Prop := ∀ (i : Nat) (vs : List V), L[i]? = some vs → B[i]? = some vs ∨ vs.all (fit n m) = true
theorem FitL.cells {n m : Nat} {B L : List (List V)} (h : FitL n m B L) : FitC n m B L := fun i vs hi v hv => (h i vs hi).elim (fun h => .inl ⟨vs, h, hv⟩) fun h => .inr (List.all_eq_true.1 h v hv)
theorem FitL.refl (n m : Nat) (B : List (List V)) : FitL n m B B := fun _ _ h => .inl h
theorem FitL.set {n m : Nat} {B L : List (List V)} (h : FitL n m B L) (i : Nat) {vs : List V} (hv : vs.all (fit n m) = true) : FitL n m B (L.set i vs) := by
 intro j us hj
 by_cases e : j = i
 ·subst e
  rw [List.getElem?_set_self'] at hj
  cases hl : L[j]? with
  | none => rw [hl] at hj; cases hj
  | some _ =>
   rw [hl] at hj
   obtain rfl : vs = us := by simpa using hj
   exact .inr hv
 ·rw [List.getElem?_set_ne (fun h => e h.symm)] at hj
  exact h j us hj
theorem prefix_take {c0 c : Cx} {w0 w : World} (hk : Keeps c0 w0 c w) : c.ρ.take c0.ρ.length = c0.ρ := by
 apply List.ext_getElem?
 intro i
 rcases Nat.lt_or_ge i c0.ρ.length with h | h
 ·rw [List.getElem?_take, if_pos h, List.getElem?_eq_getElem h]
  exact hk.ρ i _ (List.getElem?_eq_getElem h)
 ·rw [List.getElem?_take, if_neg (by omega), List.getElem?_eq_none h]
theorem forget {c0 c : Cx} {w0 w : World} {S : Mem} {v : V} {x : Value} {L J : List (List V)} {T K : List (Nat × Nat)} (h0 : Rep c0 w0 S) (hx : Ext c0 w0 c w) (h : Rep c w ⟨L ++ J, T ++ K⟩) (hv : VR c w v x) (hL : L.length = S.boxes.length) (hT : T.length = S.toks.length) (hf : FitC S.boxes.length S.toks.length S.boxes L) :
 Rep (c.cut S.boxes.length S.toks.length) w ⟨L, T⟩ ∧ Ext c0 w0 (c.cut S.boxes.length S.toks.length) w ∧ VR (c.cut S.boxes.length S.toks.length) w (wk S.boxes.length S.toks.length v) x := by
 have e1 : S.boxes.length = c0.ρ.length := h0.len
 have e2 : S.toks.length = c0.τ.length := by rw [h0.toks]; simp
 have hp := prefix_take hx.keeps
 have hn : c0.ρ.length ≤ c.ρ.length := by
  have := congrArg List.length hp
  simp at this; omega
 refine ⟨⟨by rw [show (c.cut S.boxes.length S.toks.length).B = c.B from rfl]; exact h.hB, ?_, fun i b hi => ?_, fun i j b hi hj => ?_, ?_, fun t i ht => ?_, fun t t' i i' g off off' ht ht' => ?_, h.inv⟩, ⟨⟨fun g k v hm hv => ?_, fun i b hi => ?_, fun t i hi => ?_, hx.B, hx.keeps.ty⟩, hx.B, hx.I, hx.X, hx.below⟩, hv.cut _ _⟩
 ·show L.length = (c.ρ.take S.boxes.length).length
  simp; omega
 ·have hi' : (c.ρ.take S.boxes.length)[i]? = some b := hi
  rw [List.getElem?_take] at hi'
  split at hi'
  case isFalse => cases hi'
  rename_i hlt
  obtain ⟨a, o, hh, vs, g1, g2⟩ := h.box i b hi'
  have g1' : L[i]? = some vs := by
   have : (L ++ J)[i]? = some vs := g1
   rwa [List.getElem?_append_left (by omega)] at this
  refine ⟨a, o, hh, vs, g1', g2.cut_fit _ _ fun j hj => ?_⟩
  rcases hf i vs g1' _ (List.getElem_mem hj) with ⟨us, hold, hm⟩ | hfit
  ·obtain ⟨b0, hb0⟩ : ∃ b0, c0.ρ[i]? = some b0 := ⟨_, List.getElem?_eq_getElem (by omega)⟩
   obtain ⟨_, o0, _, vs0, k1, k3⟩ := h0.box i b0 hb0
   rw [hold] at k1
   obtain rfl := Option.some.inj k1
   obtain ⟨q, hq, e⟩ := List.mem_iff_getElem.1 hm
   have := k3.fits q hq
   rw [← e1, ← e2, e] at this
   exact this
  ·exact hfit
 ·have hi' : (c.ρ.take S.boxes.length)[i]? = some b := hi
  have hj' : (c.ρ.take S.boxes.length)[j]? = some b := hj
  rw [List.getElem?_take] at hi' hj'
  split at hi'
  case isFalse => cases hi'
  split at hj'
  case isFalse => cases hj'
  exact h.inj i j b hi' hj'
 ·show T = (c.τ.take S.toks.length).map _
  have := h.toks
  have h2 : T ++ K = c.τ.map fun i => (i.n, i.sz) := this
  rw [List.map_take, ← h2, ← hT]
  simp
 ·have ht' : (c.τ.take S.toks.length)[t]? = some i := ht
  rw [List.getElem?_take] at ht'
  split at ht'
  case isFalse => cases ht'
  obtain ⟨a1, a2, a3, a4, a5⟩ := h.tok t i ht'
  refine ⟨a1, a2, a3, a4, fun hlt g off ha => ?_⟩
  obtain ⟨b1, b2, b3⟩ := a5 hlt g off ha
  exact ⟨b1, fun hm => b2 (List.mem_of_mem_take hm), b3⟩
 ·have ht1 : (c.τ.take S.toks.length)[t]? = some i := ht
  have ht2 : (c.τ.take S.toks.length)[t']? = some i' := ht'
  rw [List.getElem?_take] at ht1 ht2
  split at ht1
  case isFalse => cases ht1
  split at ht2
  case isFalse => cases ht2
  exact h.disj t t' i i' g off off' ht1 ht2
 ·exact ⟨fun h => (hx.keeps.cell g k v hm hv).1 (cut_M h), (hx.keeps.cell g k v hm hv).2⟩
 ·exact get_take (hx.keeps.ρ i b hi) (by have := (List.getElem?_eq_some_iff.1 hi).1; omega)
 ·obtain ⟨i', a1, a2⟩ := hx.keeps.τ t i hi
  exact ⟨i', get_take a1 (by have := (List.getElem?_eq_some_iff.1 hi).1; omega), a2⟩
def Left (S : Mem) (R : V → Mem → Prop) (v : V) (S' : Mem) : Prop :=
 ∃ L J T K, S' = ⟨L ++ J, T ++ K⟩ ∧ L.length = S.boxes.length ∧ T.length = S.toks.length ∧ FitC S.boxes.length S.toks.length S.boxes L ∧ R (wk S.boxes.length S.toks.length v) ⟨L, T⟩
theorem AFn.left {P : Program} {I : Inv} {f : FuncId} {args : List V} {S : Mem} {R : V → Mem → Prop} (h : AFn P I f args S (Left S R)) : AFn P I f args S R := by
 refine ⟨h.1, fun c w xs h1 h2 h3 hI cs => ?_⟩
 obtain ⟨e, w', fr, ⟨v, x, S', c', a1, ⟨L, J, T, K, rfl, b2, b3, b4, b5⟩, a3, a4, a5⟩, h⟩ := h.2 c w xs h1 h2 h3 hI cs
 obtain ⟨r1, r2, r3⟩ := forget h3 a4 a3 a5 b2 b3 b4
 exact ⟨e, w', fr, ⟨_, x, _, _, a1, b5, r1, r2, r3⟩, h⟩
theorem Left.ofC {B L J : List (List V)} {T U K : List (Nat × Nat)} {R : V → Mem → Prop} {v : V} (h1 : L.length = B.length) (h2 : U.length = T.length) (h3 : FitC B.length T.length B L) (h : R (wk B.length T.length v) ⟨L, U⟩) : Left ⟨B, T⟩ R v ⟨L ++ J, U ++ K⟩ := ⟨L, J, U, K, rfl, h1, h2, h3, h⟩
theorem Left.of {B L J : List (List V)} {T U K : List (Nat × Nat)} {R : V → Mem → Prop} {v : V} (h1 : L.length = B.length) (h2 : U.length = T.length) (h3 : FitL B.length T.length B L) (h : R (wk B.length T.length v) ⟨L, U⟩) : Left ⟨B, T⟩ R v ⟨L ++ J, U ++ K⟩ := Left.ofC h1 h2 h3.cells h
theorem Left.all {B J : List (List V)} {T K : List (Nat × Nat)} {R : V → Mem → Prop} {v : V} (h : R (wk B.length T.length v) ⟨B, T⟩) : Left ⟨B, T⟩ R v ⟨B ++ J, T ++ K⟩ := .of rfl rfl (.refl _ _ _) h
theorem Left.box {B J : List (List V)} {T : List (Nat × Nat)} {R : V → Mem → Prop} {v : V} (h : R (wk B.length T.length v) ⟨B, T⟩) : Left ⟨B, T⟩ R v ⟨B ++ J, T⟩ := by
 have := Left.all (J := J) (K := []) h
 rwa [List.append_nil] at this
theorem Left.tok {B : List (List V)} {T K : List (Nat × Nat)} {R : V → Mem → Prop} {v : V} (h : R (wk B.length T.length v) ⟨B, T⟩) : Left ⟨B, T⟩ R v ⟨B, T ++ K⟩ := by
 have := Left.all (J := []) (K := K) h
 rwa [List.append_nil] at this
theorem Left.none {B : List (List V)} {T : List (Nat × Nat)} {R : V → Mem → Prop} {v : V} (h : R (wk B.length T.length v) ⟨B, T⟩) : Left ⟨B, T⟩ R v ⟨B, T⟩ := by
 have := Left.box (J := []) h
 rwa [List.append_nil] at this
theorem Left.set {B J : List (List V)} {T : List (Nat × Nat)} {R : V → Mem → Prop} {v : V} {i : Nat} {vs : List V} (hf : vs.all (fit B.length T.length) = true) (h : R (wk B.length T.length v) ⟨B.set i vs, T⟩) : Left ⟨B, T⟩ R v ⟨B.set i vs ++ J, T⟩ := by
 have := Left.of (B := B) (J := J) (T := T) (K := []) (L := B.set i vs) (by simp) rfl ((FitL.refl _ _ _).set i hf) h
 rwa [List.append_nil] at this
theorem Left.set0 {B : List (List V)} {T : List (Nat × Nat)} {R : V → Mem → Prop} {v : V} {i : Nat} {vs : List V} (hf : vs.all (fit B.length T.length) = true) (h : R (wk B.length T.length v) ⟨B.set i vs, T⟩) : Left ⟨B, T⟩ R v ⟨B.set i vs, T⟩ := by
 have := Left.set (J := []) hf h
 rwa [List.append_nil] at this
theorem Left.setAll {B J : List (List V)} {T K : List (Nat × Nat)} {R : V → Mem → Prop} {v : V} {i : Nat} {vs : List V} (hf : vs.all (fit B.length T.length) = true) (h : R (wk B.length T.length v) ⟨B.set i vs, T⟩) : Left ⟨B, T⟩ R v ⟨B.set i vs ++ J, T ++ K⟩ :=
 Left.of (by simp) rfl ((FitL.refl _ _ _).set i hf) h
theorem AFn.body {P : Program} {I : Inv} {fn : FuncId} {f : Func} {body : Code} {args : List V} {S : Mem} {R : V → Mem → Prop} (hf : P.funcs[fn]? = some f) (hb : f.body = some body) (hname : (f.name == "runtime.NumGoroutine") = false)
 (h : ARun P I (S.boxes.length, S.toks.length) fn [.code body] (args ++ List.replicate (f.ntmps - args.length) .undef) S (Left S R)) : AFn P I fn args S R := AFn.left (AFn.enter hf hb hname h)
theorem AFn.of_calls {P : Program} {I : Inv} {f : FuncId} {args : List V} {S : Mem} {R : V → Mem → Prop} {fn : Func} (hf : P.funcs[f]? = some fn) (hb : fn.body.isSome = true) (hname : (fn.name == "runtime.NumGoroutine") = false)
 (h : ∀ (c : Cx) (w : World) (xs : Array Value), xs.size = args.length → (∀ j (h : j < args.length), VR c w args[j] (xs.getD j undef)) → Rep c w S → I.holds w → Calls P f xs w fun e w' => ∃ v x, e = .returned x ∧ R v S ∧ Below w.heap.size w w' ∧ VR c w' v x) : AFn P I f args S R := by
 have hn : ¬ fn.name = "runtime.NumGoroutine" := by simpa using hname
 obtain ⟨body, hb⟩ := Option.isSome_iff_exists.1 hb
 refine ⟨fun xs w => by simp [callFunc, hf, hn, hb], fun c w xs h1 h2 h3 hI cs => ?_⟩
 obtain ⟨e, w', fr, ⟨v, x, a1, a2, a3, a4⟩, r⟩ := h c w xs h1 h2 h3 (by rw [← hI]; exact h3.I) cs
 obtain ⟨q1, q2⟩ := h3.under a3
 exact ⟨e, w', fr, ⟨v, x, S, c, a1, a2, q1, q2, a4⟩, r⟩
section
variable {α : Type} {L m : List α} {n k i : Nat} {x : α}
theorem bx_loc (h : L.length = n) : (L ++ m)[n + k]? = m[k]? := by rw [← h, List.getElem?_append_right (by omega), Nat.add_sub_cancel_left]
theorem bx_loc0 (h : L.length = n) : (L ++ m)[n]? = m[0]? := by have := bx_loc (m := m) (k := 0) h; simpa using this
theorem bx_old (h : i < L.length) : (L ++ m)[i]? = L[i]? := List.getElem?_append_left h
theorem bx_set_loc (h : L.length = n) : (L ++ m).set (n + k) x = L ++ m.set k x := by rw [← h, List.set_append_right _ _ (by omega), Nat.add_sub_cancel_left]
theorem bx_set_loc0 (h : L.length = n) : (L ++ m).set n x = L ++ m.set 0 x := by have := bx_set_loc (m := m) (k := 0) (x := x) h; simpa using this
theorem bx_set_old (h : i < L.length) : (L ++ m).set i x = L.set i x ++ m := List.set_append_left _ _ h
theorem bx_get (h : i < L.length) : (L.set i x)[i]? = some x := by simp [h]
end
section
variable {P : Program} {I : Inv} {ops : Array Oper} {S : Mem}
theorem evalV_set {env : List V} {d : Tmp} {v : V} {x : Operand} (h : x ≠ .tmp d) : evalV I (env.set d v) x = evalV I env x := by
 cases x with
 | tmp t =>
  have hne : d ≠ t := fun e => h (e ▸ rfl)
  simp [evalV, List.getD, hne]
 | _ => rfl
theorem mapParts_congr {ev ev' : Operand → V} {ps : Array (Nat × Operand)} (h : ∀ x ∈ (ps.toList.map (·.2)).toArray, ev x = ev' x) : mapParts ev ps = mapParts ev' ps := by
 unfold mapParts
 refine List.map_congr_left fun p hp => ?_
 rw [h p.2 (by simp only [List.mem_toArray, List.mem_map]; exact ⟨p, hp, rfl⟩)]
theorem op1_congr {ev ev' : Operand → V} (op : Op) (h : ∀ x ∈ op.operands, ev x = ev' x) : op1 P ev S op = op1 P ev' S op := by
 have h0 := h
 cases op <;> simp only [Op.operands, List.mem_toArray, List.mem_cons, List.not_mem_nil, or_false, forall_eq_or_imp, forall_eq] at h <;> simp only [op1]
 case move x => rw [h]
 case assign x => rw [h]
 case pick c a b => rw [h.1, h.2.1, h.2.2]
 case box t x => rw [h]
 case build t ps => rw [mapParts_congr (by simpa using h)]
 case buildSlice t n ps => rw [mapParts_congr (by simpa using h)]
 case load t x => rw [h]
 case field s x f => rw [h]
 case store t x y => rw [h.1, h.2]
 case nilCheck x => rw [h]
 case binOp o t x y u => rw [h.1, h.2]
 case unOp o t x => rw [h]
 case convert s d x => rw [h]
 case makeFunc fn first caps =>
  cases fn <;> try rfl
  have h1 : first.toList.map ev = first.toList.map ev' := List.map_congr_left fun x hx => h x (by simp only [Array.mem_append]; exact .inl (by simpa using hx))
  have h2 : caps.toList.map ev = caps.toList.map ev' := List.map_congr_left fun x hx => h x (by simp only [Array.mem_append]; exact .inr (by simpa using hx))
  simp only
  rw [h1, h2]
 case slice t x lo hi mx =>
  cases mx <;> try rfl
  have h1 : lo.map ev = lo.map ev' := by
   cases lo with
   | none => rfl
   | some a => simp only [Option.map_some]; rw [h0 a (by simp [Op.operands])]
  have h2 : hi.map ev = hi.map ev' := by
   cases hi with
   | none => rfl
   | some a => simp only [Option.map_some]; rw [h0 a (by simp [Op.operands])]
  simp only
  rw [h0 x (by simp [Op.operands]), h1, h2]
 case fieldAddr s x f => rw [h]
 case indexAddr t x i => rw [h.1, h.2]
 case index t x i => rw [h.1, h.2]
 case extract x i => rw [h]
 case call q =>
  unfold opCall
  have ha : ∀ x ∈ q.args.toList, ev x = ev' x := fun x hx => h x (by unfold Call.operands; simp only [Array.mem_append]; exact .inr (by simpa using hx))
  split
  ·rename_i x t _ h2 _
   rw [ha x (by rw [h2]; simp)]
  ·rename_i s x t u _ h2 _
   rw [ha s (by rw [h2]; simp), ha x (by rw [h2]; simp)]
  ·rename_i s x t u _ h2 _
   rw [ha s (by rw [h2]; simp), ha x (by rw [h2]; simp)]
  ·rename_i s x t u _ h2 _
   rw [ha s (by rw [h2]; simp), ha x (by rw [h2]; simp)]
  ·rename_i s x t u _ h2 _
   rw [ha s (by rw [h2]; simp), ha x (by rw [h2]; simp)]
  ·rfl
 case makeMap t r => cases r <;> rfl
 case lookup t m k ok => rw [h.1, h.2]
 case mapUpdate t m k x => rw [h.1, h.2.1, h.2.2]
def QOp (P : Program) (I : Inv) (o : Oper) (env : List V) (S : Mem) (v : V) : Prop :=
 op1 P (evalV I env) S o.op = some (v, S) ∨ ∃ q f g first caps, o.op = .call q ∧ q.callee = .value f ∧ evalV I env f = .func g first caps ∧ AFn P I g (first ++ q.args.toList.map (evalV I env) ++ caps) S fun r S' => r = v ∧ S' = S
def YA (P : Program) (I : Inv) (ops : Array Oper) (o : Oper) (env : List V) (S : Mem) (v : V) : Prop :=
 (Wants env ops o ∧ QOp P I o env S v) ∨ (Skips env ops o ∧ v = .tup [])
theorem guardV_set {env : List V} {d : Tmp} {x : V} {j : Nat} (h : (ops[j]?).bind (·.dst) ≠ some d) : guardV (env.set d x) ops j = guardV env ops j := by
 unfold guardV
 cases ho : (ops[j]?).bind (·.dst) with
 | none => rfl
 | some t =>
  have hne : d ≠ t := fun e => h (by rw [ho, e])
  simp [List.getD, hne]
theorem looks_op {o : Oper} {d : Tmp} (h : d ∉ o.looksAt ops) : ∀ x ∈ o.op.operands, x ≠ .tmp d := by
 intro x hx e
 subst e
 refine h ?_
 unfold Oper.looksAt
 rw [List.mem_append]
 exact .inl (List.mem_filterMap.2 ⟨_, by simpa using hx, rfl⟩)
theorem looks_guard {o : Oper} {d : Tmp} (h : d ∉ o.looksAt ops) {j : Nat} {t : Bool} (hg : o.guard = some (j, t)) : (ops[j]?).bind (·.dst) ≠ some d := by
 intro e
 refine h ?_
 unfold Oper.looksAt
 rw [List.mem_append, hg]
 simp only
 exact .inr (by rw [e]; simp)
theorem wants_congr {o : Oper} {env : List V} {d : Tmp} {x : V} (h : d ∉ o.looksAt ops) : Wants (env.set d x) ops o ↔ Wants env ops o := by
 unfold Wants
 constructor
 ·rintro (h1 | ⟨j, t, h1, h2⟩)
  ·exact .inl h1
  ·exact .inr ⟨j, t, h1, by rw [← guardV_set (looks_guard h h1)]; exact h2⟩
 ·rintro (h1 | ⟨j, t, h1, h2⟩)
  ·exact .inl h1
  ·exact .inr ⟨j, t, h1, by rw [guardV_set (looks_guard h h1)]; exact h2⟩
theorem skips_congr {o : Oper} {env : List V} {d : Tmp} {x : V} (h : d ∉ o.looksAt ops) : Skips (env.set d x) ops o ↔ Skips env ops o := by
 unfold Skips
 refine exists_congr fun j => exists_congr fun want => ?_
 constructor
 ·rintro ⟨h1, h2⟩
  rw [guardV_set (looks_guard h h1)] at h2
  exact ⟨h1, h2⟩
 ·rintro ⟨h1, h2⟩
  rw [← guardV_set (looks_guard h h1)] at h2
  exact ⟨h1, h2⟩
theorem wants_skips {o : Oper} {env : List V} (h : Wants env ops o) (h' : Skips env ops o) : False := by
 obtain ⟨j, want, h1, h2⟩ := h'
 rcases h with h | ⟨j', t, h3, h4⟩
 ·rw [h] at h1; cases h1
 ·rw [h3] at h1
  obtain ⟨rfl, rfl⟩ := Prod.mk.inj (Option.some.inj h1)
  rcases h2 with ⟨t', h5, h6⟩ | h5
  ·rw [h4] at h5
   cases h5
   simp at h6
  ·rw [h4] at h5; cases h5
theorem YA.congr {o : Oper} {env : List V} {d : Tmp} {x v : V} (h : d ∉ o.looksAt ops) : YA P I ops o (env.set d x) S v ↔ YA P I ops o env S v := by
 have he : ∀ y ∈ o.op.operands, evalV I (env.set d x) y = evalV I env y := fun y hy => evalV_set (looks_op h y hy)
 have hw : Wants (env.set d x) ops o ↔ Wants env ops o := by
  unfold Wants
  constructor
  ·rintro (h1 | ⟨j, t, h1, h2⟩)
   ·exact .inl h1
   ·exact .inr ⟨j, t, h1, by rw [← guardV_set (looks_guard h h1)]; exact h2⟩
  ·rintro (h1 | ⟨j, t, h1, h2⟩)
   ·exact .inl h1
   ·exact .inr ⟨j, t, h1, by rw [guardV_set (looks_guard h h1)]; exact h2⟩
 have hq : QOp P I o (env.set d x) S v ↔ QOp P I o env S v := by
  unfold QOp
  rw [op1_congr o.op he]
  refine or_congr Iff.rfl ?_
  refine exists_congr fun q => exists_congr fun f => exists_congr fun g => exists_congr fun first => exists_congr fun caps => ?_
  constructor
  ·rintro ⟨h1, h2, h3, h4⟩
   have hop : ∀ y ∈ q.operands, evalV I (env.set d x) y = evalV I env y := fun y hy => he y (by rw [h1]; exact hy)
   have h5 : q.args.toList.map (evalV I (env.set d x)) = q.args.toList.map (evalV I env) := List.map_congr_left fun y hy => hop y (by unfold Call.operands; simp only [Array.mem_append]; exact .inr (by simpa using hy))
   have h6 : evalV I (env.set d x) f = evalV I env f := hop f (by unfold Call.operands; rw [h2]; simp)
   exact ⟨h1, h2, by rw [← h6]; exact h3, by rw [← h5]; exact h4⟩
  ·rintro ⟨h1, h2, h3, h4⟩
   have hop : ∀ y ∈ q.operands, evalV I (env.set d x) y = evalV I env y := fun y hy => he y (by rw [h1]; exact hy)
   have h5 : q.args.toList.map (evalV I (env.set d x)) = q.args.toList.map (evalV I env) := List.map_congr_left fun y hy => hop y (by unfold Call.operands; simp only [Array.mem_append]; exact .inr (by simpa using hy))
   have h6 : evalV I (env.set d x) f = evalV I env f := hop f (by unfold Call.operands; rw [h2]; simp)
   exact ⟨h1, h2, by rw [h6]; exact h3, by rw [h5]; exact h4⟩
 unfold YA
 rw [hw, hq]
 refine or_congr Iff.rfl (and_congr ?_ Iff.rfl)
 unfold Skips
 refine exists_congr fun j => exists_congr fun want => ?_
 constructor
 ·rintro ⟨h1, h2⟩
  rw [guardV_set (looks_guard h h1)] at h2
  exact ⟨h1, h2⟩
 ·rintro ⟨h1, h2⟩
  rw [← guardV_set (looks_guard h h1)] at h2
  exact ⟨h1, h2⟩
theorem YA.congr' {o : Oper} {env : List V} {d : Option Tmp} {x v : V} (h : ∀ t, d = some t → t ∉ o.looksAt ops) : YA P I ops o (setV env d x) S v ↔ YA P I ops o env S v := by
 cases d with
 | none => rfl
 | some t => exact YA.congr (h t rfl)
theorem setV_comm (env : List V) {x y : Option Tmp} (v u : V) (h : ∀ d, x = some d → y ≠ some d) : setV (setV env x v) y u = setV (setV env y u) x v := by
 cases x with
 | none => rfl
 | some d =>
  cases y with
  | none => rfl
  | some e =>
   have hne : d ≠ e := fun he => h d rfl (he ▸ rfl)
   simp only [setV]
   exact List.set_comm _ _ hne
def anyA (P : Program) (I : Inv) (ops : Array Oper) (S : Mem) (K : List V → Prop) : Nat → Array Bool → List V → Prop
 | 0, listed, env => Region.ready .any ops listed = [] ∧ K env
 | n + 1, listed, env => (Region.ready .any ops listed = [] → K env) ∧ ∀ i ∈ Region.ready .any ops listed, ∃ o v, ops[i]? = some o ∧ YA P I ops o env S v ∧ anyA P I ops S K n (listed.setIfInBounds i true) (setV env o.dst v)
theorem anyA_first {K : List V → Prop} {i : Nat} {oi : Oper} {v : V} (hi : ops[i]? = some oi) : ∀ (n : Nat) (listed : Array Bool) (env : List V),
 (∀ j oj, ops[j]? = some oj → j ≠ i → listed.getD j true = false → (∀ e ∈ oj.after, Region.binds .any e = true → e.on ≠ i) → oi.apart ops oj = true) →
 i ∈ Region.ready .any ops listed → YA P I ops oi env S v → anyA P I ops S K n (listed.setIfInBounds i true) (setV env oi.dst v) → anyA P I ops S K (n + 1) listed env := by
 intro n
 induction n with
 | zero =>
  intro listed env _ hr hy H
  refine ⟨fun h => (by rw [h] at hr; cases hr), fun j hj => ?_⟩
  by_cases hji : j = i
  ·subst hji; exact ⟨oi, v, hi, hy, H⟩
  ·have := ready_mono hj hji
   rw [H.1] at this
   cases this
 | succ n ih =>
  intro listed env hfree hr hy H
  refine ⟨fun h => (by rw [h] at hr; cases hr), fun j hj => ?_⟩
  by_cases hji : j = i
  ·subst hji; exact ⟨oi, v, hi, hy, H⟩
  ·obtain ⟨oj, u, hoj, hyj, h1⟩ := H.2 j (ready_mono hj hji)
   obtain ⟨hjun, oj', hoj', hall⟩ := mem_ready.1 hj
   rw [hoj] at hoj'
   obtain rfl := Option.some.inj hoj'
   have hnot : ∀ e ∈ oj.after, Region.binds .any e = true → e.on ≠ i := fun e he hb heq => by
    have h1 := hall e he hb
    have h0 := (mem_ready.1 hr).1
    rw [heq] at h1
    rcases Nat.lt_or_ge i listed.size with h' | h'
    ·simp [h'] at h0 h1; rw [h0] at h1; cases h1
    ·simp [Array.getElem?_eq_none h'] at h1
   obtain ⟨a1, a2, a3⟩ := Oper.apart_spec (hfree j oj hoj hji hjun hnot)
   have hyj' : YA P I ops oj env S u := (YA.congr' a1).1 hyj
   have hyi' : YA P I ops oi (setV env oj.dst u) S v := (YA.congr' a3).2 hy
   have hfree' : ∀ k ok, ops[k]? = some ok → k ≠ i → (listed.setIfInBounds j true).getD k true = false →
    (∀ e ∈ ok.after, Region.binds .any e = true → e.on ≠ i) → oi.apart ops ok = true := fun k ok hk hki hun hno => by
    refine hfree k ok hk hki ?_ hno
    by_cases hjk : j = k
    ·subst hjk; exact hjun
    ·rw [getD_set_ne true hjk] at hun; exact hun
   refine ⟨oj, u, hoj, hyj', ih (listed.setIfInBounds j true) (setV env oj.dst u) hfree' (ready_mono hr (Ne.symm hji)) hyi' ?_⟩
   rw [Array.setIfInBounds_comm _ _ hji, ← setV_comm env v u a2]
   exact h1
def lexA (P : Program) (I : Inv) (ops : Array Oper) (S : Mem) (K : List V → Prop) : List Oper → List V → Prop
 | [], env => K env
 | o :: l, env => ∃ v, YA P I ops o env S v ∧ lexA P I ops S K l (setV env o.dst v)
theorem anyA_lex {K : List V → Prop} : ∀ (l : List Oper) (k : Nat) (listed : Array Bool) (env : List V), (∀ j, l[j]? = ops[k + j]?) →
 Region.lexFrom .any ops l.length k listed = true → lexA P I ops S K l env → anyA P I ops S K l.length listed env
 | [], _, _, _, _, hB, h => ⟨by simpa [Region.lexFrom] using hB, h⟩
 | o :: l, k, listed, env, hl, hB, h => by
  have h0 : ops[k]? = some o := by simpa using (hl 0).symm
  simp only [List.length_cons, Region.lexFrom, Bool.and_eq_true] at hB
  obtain ⟨⟨hr, hf⟩, hB'⟩ := hB
  obtain ⟨v, hy, hK⟩ := h
  exact anyA_first h0 l.length listed env (Region.free_spec h0 hf) (by simpa using hr) hy
   (anyA_lex l (k + 1) _ _ (fun j => by have := hl (j + 1); simpa [Nat.add_assoc, Nat.add_comm 1 j] using this) hB' hK)
theorem YA.step {z : Nat × Nat} {fn : FuncId} {k : List Item} {R : V → Mem → Prop} {i : Nat} {rest : List Nat} {o : Oper} {env : List V} {v : V} (ho : ops[i]? = some o) (hy : YA P I ops o env S v) (h : ARun P I z fn (.inRegion ops rest :: k) (setV env o.dst v) S R) : ARun P I z fn (.inRegion ops (i :: rest) :: k) env S R := by
 rcases hy with ⟨hw, hq | ⟨q, f, g, first, caps, h1, h2, h3, h4⟩⟩ | ⟨h1, rfl⟩
 ·exact .op ho hw hq h
 ·exact .call ho hw h1 h2 h3 (h4.mono fun r S' ⟨e1, e2⟩ => by subst e1 e2; exact h)
 ·exact .opSkip ho h1 h
theorem anyA_run {z : Nat × Nat} {fn : FuncId} {k : List Item} {R : V → Mem → Prop} : ∀ (n t : Nat) (listed : Array Bool) (env : List V), anyA P I ops S (fun env => ARun P I z fn k env S R) n listed env → ARun P I z fn (.inRegion ops (Region.linearise.go .any ops n t listed []) :: k) env S R
 | 0, t, listed, env, h => by
  simp only [Region.linearise.go, List.reverse_nil]
  exact .regionEnd h.2
 | n + 1, t, listed, env, h => by
  obtain ⟨h₀, h₁⟩ := h
  simp only [Region.linearise.go]
  change ARun P I z fn (.inRegion ops (match (Region.ready .any ops listed)[t % (Region.ready .any ops listed).length]? with
   | some i => Region.linearise.go .any ops n (t / (Region.ready .any ops listed).length) (listed.setIfInBounds i true) [i]
   | none => [].reverse) :: k) env S R
  cases hi : (Region.ready .any ops listed)[t % (Region.ready .any ops listed).length]? with
  | none =>
   have hnil : Region.ready .any ops listed = [] := by
    cases hr : Region.ready .any ops listed with
    | nil => rfl
    | cons x xs =>
     rw [hr] at hi
     have hlt : t % (x :: xs).length < (x :: xs).length := Nat.mod_lt _ (by simp)
     simp at hi
     simp at hlt
     omega
   exact .regionEnd (h₀ hnil)
  | some i =>
   simp only []
   rw [linearise_go_acc, List.reverse_singleton, List.singleton_append]
   obtain ⟨o, v, ho, hy, hn⟩ := h₁ i (List.mem_of_getElem? hi)
   exact YA.step ho hy (anyA_run n _ _ _ hn)
theorem ARun.draw {z : Nat × Nat} {fn : FuncId} {k : List Item} {R : V → Mem → Prop} {id : Nat} {env : List V} (hm : P.follows .mixedOrders = true) (hB : Region.lexB .any ops = true) (h : lexA P I ops S (fun env => ARun P I z fn k env S R) ops.toList env) : ARun P I z fn (.code (.region id ops true) :: k) env S R := by
 intro b a c w c0 w0 h1 h2 h3 h4 h5 h6 hI cs
 have hd : Below w.heap.size w { w with drawn := w.drawn + 1 } := ⟨rfl, rfl, rfl, Nat.le_refl _, fun _ _ => rfl⟩
 obtain ⟨r1, r2⟩ := h5.under hd
 simp only [Region.lexB, Bool.and_eq_true] at hB
 have hany := anyA_lex (P := P) (I := I) (S := S) (K := fun env => ARun P I z fn k env S R) ops.toList 0 (Array.replicate ops.size false) env (by simp) (by simpa using hB.2) h
 have hrun := anyA_run (fn := fn) (k := k) (R := R) ops.toList.length (w.tape w.drawn (.order b.fn id)) _ _ hany
 obtain ⟨e, w', fr, g1, g2, g3⟩ := hrun b a c _ c0 w0 h1 h2 h3 (h4.ext r2) r1 (h6.trans r2) ⟨r2.I.trans hI.1, hI.2⟩ cs
 refine ⟨e, w', fr, g1, .of_steps (.one ?_) g2, g3⟩
 have := step_region_draw (P := P) (b := b) (a := a) (k := k) (cs := cs) (w := w) (ops := ops) (id := id)
 rw [this]
 simp only [Region.schedule, hm, Bool.true_or, if_true, Region.linearise, Array.length_toList]
abbrev LCont := List Oper → List V → Prop
def bindQ (next : LCont) (S : Mem) (r : Option (V × Mem)) (l : List Oper) (d : Option Tmp) (env : List V) : Prop :=
 match r with
 | some (v, S') => S' = S ∧ next l (setV env d v)
 | none => False
def callQ (P : Program) (I : Inv) (next : LCont) (S : Mem) (q : Call) (f : V) (args : List V) (l : List Oper) (d : Option Tmp) (env : List V) : Prop :=
 match q.callee, f with
 | .value _, .func g first caps => ∃ v, AFn P I g (first ++ args ++ caps) S (fun r S' => r = v ∧ S' = S) ∧ next l (setV env d v)
 | _, _ => False
def opQ (P : Program) (I : Inv) (next : LCont) (S : Mem) (o : Oper) (l : List Oper) (env : List V) : Prop :=
 match o.op with
 | .call q => match q.callee with
  | .value f => callQ P I next S q (evalV I env f) (q.args.toList.map (evalV I env)) l o.dst env
  | _ => bindQ next S (opCall P (evalV I env) S q) l o.dst env
 | op => bindQ next S (op1 P (evalV I env) S op) l o.dst env
def guardQ (P : Program) (I : Inv) (next : LCont) (S : Mem) (t want : Bool) (o : Oper) (l : List Oper) (env : List V) : Prop :=
 if (t == want) = true then opQ P I next S o l env else next l (setV env o.dst (.tup []))
def stepQ (P : Program) (I : Inv) (ops : Array Oper) (next : LCont) (S : Mem) (o : Oper) (l : List Oper) (env : List V) : Prop :=
 match o.guard with
 | none => opQ P I next S o l env
 | some (j, want) => match guardV env ops j with
  | .d (.bool t) => guardQ P I next S t want o l env
  | .tup [] => next l (setV env o.dst (.tup []))
  | _ => False
def lexQ (P : Program) (I : Inv) (ops : Array Oper) (S : Mem) (K : List V → Prop) : Nat → List Oper → List V → Prop
 | _, [], env => K env
 | 0, _ :: _, _ => False
 | n + 1, o :: l, env => stepQ P I ops (lexQ P I ops S K n) S o l env
theorem lexQ_nil (K : List V → Prop) (n : Nat) (env : List V) : lexQ P I ops S K n [] env = K env := by cases n <;> rfl
theorem lexQ_cons (K : List V → Prop) (n : Nat) (o : Oper) (l : List Oper) (env : List V) : lexQ P I ops S K (n + 1) (o :: l) env = stepQ P I ops (lexQ P I ops S K n) S o l env := rfl
theorem bindQ_some (next : LCont) (v : V) (l : List Oper) (d : Option Tmp) (env : List V) : bindQ next S (some (v, S)) l d env = next l (setV env d v) := by simp [bindQ]
theorem guardQ_yes (next : LCont) (b : Bool) (o : Oper) (l : List Oper) (env : List V) : guardQ P I next S b b o l env = opQ P I next S o l env := by simp [guardQ]
theorem guardQ_tf (next : LCont) (o : Oper) (l : List Oper) (env : List V) : guardQ P I next S true false o l env = next l (setV env o.dst (.tup [])) := by simp [guardQ]
theorem guardQ_ft (next : LCont) (o : Oper) (l : List Oper) (env : List V) : guardQ P I next S false true o l env = next l (setV env o.dst (.tup [])) := by simp [guardQ]
theorem lexQ_ok {K : List V → Prop} : ∀ (n : Nat) (l : List Oper) (env : List V), lexQ P I ops S K n l env → lexA P I ops S K l env := by
 intro n
 induction n with
 | zero =>
  intro l env h
  cases l with
  | nil => exact h
  | cons o l => exact h.elim
 | succ n ih =>
  intro l env h
  cases l with
  | nil => exact h
  | cons o l =>
   have hop : Wants env ops o → opQ P I (lexQ P I ops S K n) S o l env → lexA P I ops S K (o :: l) env := by
    intro hw h
    have hb : ∀ r, op1 P (evalV I env) S o.op = r → bindQ (lexQ P I ops S K n) S r l o.dst env → lexA P I ops S K (o :: l) env := by
     intro r hr hb
     cases r with
     | none => exact hb.elim
     | some p =>
      obtain ⟨v, S'⟩ := p
      obtain ⟨rfl, hb⟩ := hb
      exact ⟨v, .inl ⟨hw, .inl hr⟩, ih l _ hb⟩
    unfold opQ at h
    split at h
    ·rename_i q hq
     split at h
     ·rename_i f hf
      unfold callQ at h
      rw [hf] at h
      split at h
      ·rename_i g first caps he hg
       obtain ⟨v, hv, hn⟩ := h
       exact ⟨v, .inl ⟨hw, .inr ⟨q, f, g, first, caps, hq, hf, hg, hv⟩⟩, ih l _ hn⟩
      ·exact h.elim
     ·exact hb _ (by rw [hq]; rfl) h
    ·exact hb _ rfl h
   have h' : stepQ P I ops (lexQ P I ops S K n) S o l env := h
   unfold stepQ at h'
   split at h'
   ·rename_i hg
    exact hop (.inl hg) h'
   ·rename_i j want hg
    split at h'
    ·rename_i t ht
     unfold guardQ at h'
     split at h'
     ·rename_i hw
      have : t = want := by simpa using hw
      subst this
      exact hop (.inr ⟨j, t, hg, ht⟩) h'
     ·rename_i hw
      exact ⟨.tup [], .inr ⟨⟨j, want, hg, .inl ⟨t, ht, by simpa using hw⟩⟩, rfl⟩, ih l _ h'⟩
    ·rename_i ht
     exact ⟨.tup [], .inr ⟨⟨j, want, hg, .inr ht⟩, rfl⟩, ih l _ h'⟩
    ·exact h'.elim
end
def EnvLe (n m : Nat) : List V → List V → Prop
 | [], [] => True
 | a :: aa, b :: bs => (a = .undef ∨ (a = b ∧ fit n m b = true)) ∧ EnvLe n m aa bs
 | _, _ => False
theorem EnvLe.get {n m : Nat} : ∀ {aa bs : List V}, EnvLe n m aa bs → aa.length = bs.length ∧ ∀ t (h : t < aa.length) (h' : t < bs.length), aa[t] = .undef ∨ (aa[t] = bs[t] ∧ fit n m bs[t] = true)
 | [], [], _ => ⟨rfl, fun t h => by simp at h⟩
 | a :: aa, b :: bs, h => by
  obtain ⟨h1, h2⟩ := h
  obtain ⟨h3, h4⟩ := EnvLe.get h2
  refine ⟨by simp [h3], fun t ht ht' => ?_⟩
  cases t with
  | zero => exact h1
  | succ t => exact h4 t (by simpa using ht) (by simpa using ht')
 | [], _ :: _, h => h.elim
 | _ :: _, [], h => h.elim
def Fits (S : Mem) : Prop := ∀ vs ∈ S.boxes, vs.all (fit S.boxes.length S.toks.length) = true
theorem Fits.of_rep {c : Cx} {w : World} {S : Mem} (h : Rep c w S) : Fits S := by
 intro vs hvs
 obtain ⟨i, hi⟩ := List.mem_iff_getElem?.1 hvs
 have hlt := (List.getElem?_eq_some_iff.1 hi).1
 obtain ⟨b, hb⟩ : ∃ b, c.ρ[i]? = some b := ⟨_, List.getElem?_eq_getElem (by rw [← h.len]; exact hlt)⟩
 obtain ⟨_, o, _, vs', e1, e3⟩ := h.box i b hb
 rw [hi] at e1
 obtain rfl := Option.some.inj e1
 rw [List.all_eq_true]
 intro v hv
 obtain ⟨j, hj, rfl⟩ := List.mem_iff_getElem.1 hv
 have := e3.fits j hj
 rw [h.len, h.toks, List.length_map]
 exact this
mutual
theorem fit_mono {n m n' m' : Nat} (hn : n ≤ n') (hm : m ≤ m') : ∀ v : V, fit n m v = true → fit n' m' v = true
 | .undef, _ => rfl
 | .d _, _ => rfl
 | .sl _ .full, _ => rfl
 | .sl _ (.own t), h => by simp only [fit, decide_eq_true_iff] at h ⊢; omega
 | .ptr i _, h => by simp only [fit, decide_eq_true_iff] at h ⊢; omega
 | .bx i _ _, h => by simp only [fit, decide_eq_true_iff] at h ⊢; omega
 | .mp i, h => by simp only [fit, decide_eq_true_iff] at h ⊢; omega
 | .kvs _ vs, h => by simp only [fit] at h ⊢; exact fitL_mono hn hm vs h
 | .self i _, h => by simp only [fit, decide_eq_true_iff] at h ⊢; omega
 | .buf _ _ _, h => by simp only [fit, decide_eq_true_iff] at h ⊢; omega
 | .eptr _ _, _ => rfl
 | .nilp, _ => rfl
 | .nilf, _ => rfl
 | .func _ a b, h => by
  simp only [fit, Bool.and_eq_true] at h ⊢
  exact ⟨fitL_mono hn hm a h.1, fitL_mono hn hm b h.2⟩
 | .agg vs, h => by simp only [fit] at h ⊢; exact fitL_mono hn hm vs h
 | .tup vs, h => by simp only [fit] at h ⊢; exact fitL_mono hn hm vs h
theorem fitL_mono {n m n' m' : Nat} (hn : n ≤ n') (hm : m ≤ m') : ∀ vs : List V, fitL n m vs = true → fitL n' m' vs = true
 | [], _ => rfl
 | v :: vs, h => by
  simp only [fitL, Bool.and_eq_true] at h ⊢
  exact ⟨fit_mono hn hm v h.1, fitL_mono hn hm vs h.2⟩
end
theorem all_mono {n m n' m' : Nat} (hn : n ≤ n') (hm : m ≤ m') {vs : List V} (h : vs.all (fit n m) = true) : vs.all (fit n' m') = true := by
 rw [List.all_eq_true] at h ⊢
 exact fun v hv => fit_mono hn hm v (h v hv)
theorem Fits.more {B X : List (List V)} {T Y : List (Nat × Nat)} (h : Fits ⟨B, T⟩) (hx : ∀ vs ∈ X, vs.all (fit (B ++ X).length (T ++ Y).length) = true) : Fits ⟨B ++ X, T ++ Y⟩ := by
 intro vs hvs
 rcases List.mem_append.1 hvs with h' | h'
 ·exact all_mono (by simp) (by simp) (h vs h')
 ·exact hx vs h'
theorem Fits.set {B : List (List V)} {T : List (Nat × Nat)} (h : Fits ⟨B, T⟩) {i : Nat} {vs : List V} (hv : vs.all (fit B.length T.length) = true) : Fits ⟨B.set i vs, T⟩ := by
 intro us hus
 simp only [List.length_set]
 rcases List.mem_or_eq_of_mem_set hus with h' | rfl
 ·exact h us h'
 ·exact hv
theorem Fits.toks {B : List (List V)} {T T' : List (Nat × Nat)} (h : Fits ⟨B, T⟩) (he : T'.length = T.length) : Fits ⟨B, T'⟩ := by
 intro us hus
 rw [show (⟨B, T'⟩ : Mem).toks.length = T.length from he]
 exact h us hus
section
variable {P : Program} {I : Inv} {z : Nat × Nat} {fn : FuncId} {R : V → Mem → Prop}
theorem ARun.at {k : List Item} {env env' : List V} {L J : List (List V)} {T K : List (Nat × Nat)} (hz : z.1 ≤ L.length ∧ z.2 ≤ T.length) (hf : Fits ⟨L, T⟩) (he : EnvLe L.length T.length env' env) (h : ARun P I z fn k env' ⟨L, T⟩ R) : ARun P I z fn k env ⟨L ++ J, T ++ K⟩ R := by
 intro b a c w c0 w0 h1 h2 h3 h4 h5 h6 hI
 have hn : c.ρ.length = L.length + J.length := by rw [← h5.len]; simp
 have hm : c.τ.length = T.length + K.length := by
  have := congrArg List.length h5.toks
  simp at this; omega
 have hrep : Rep (c.cut L.length T.length) w ⟨L, T⟩ := by
  refine ⟨h5.hB, by simp [Cx.cut]; omega, fun i b hi => ?_, fun i j b hi hj => ?_, ?_, fun t i ht => ?_, fun t t' i i' g off off' ht ht' => ?_, h5.inv⟩
  ·have hi' : (c.ρ.take L.length)[i]? = some b := hi
   rw [List.getElem?_take] at hi'
   split at hi'
   case isFalse => cases hi'
   rename_i hlt
   obtain ⟨a, o, hh, vs, g1, g2⟩ := h5.box i b hi'
   have g1' : L[i]? = some vs := by
    have : (L ++ J)[i]? = some vs := g1
    rwa [List.getElem?_append_left hlt] at this
   exact ⟨a, o, hh, vs, g1', g2.cut_fit _ _ fun j hj => List.all_eq_true.1 (hf vs (List.mem_of_getElem? g1')) _ (List.getElem_mem hj)⟩
  ·have hi' : (c.ρ.take L.length)[i]? = some b := hi
   have hj' : (c.ρ.take L.length)[j]? = some b := hj
   rw [List.getElem?_take] at hi' hj'
   split at hi'
   case isFalse => cases hi'
   split at hj'
   case isFalse => cases hj'
   exact h5.inj i j b hi' hj'
  ·show T = (c.τ.take T.length).map _
   have h2 : T ++ K = c.τ.map fun i => (i.n, i.sz) := h5.toks
   rw [List.map_take, ← h2]
   simp
  ·have ht' : (c.τ.take T.length)[t]? = some i := ht
   rw [List.getElem?_take] at ht'
   split at ht'
   case isFalse => cases ht'
   obtain ⟨a1, a2, a3, a4, a5⟩ := h5.tok t i ht'
   refine ⟨a1, a2, a3, a4, fun hlt g off ha => ?_⟩
   obtain ⟨b1, b2, b3⟩ := a5 hlt g off ha
   exact ⟨b1, fun hm => b2 (List.mem_of_mem_take hm), b3⟩
  ·have ht1 : (c.τ.take T.length)[t]? = some i := ht
   have ht2 : (c.τ.take T.length)[t']? = some i' := ht'
   rw [List.getElem?_take] at ht1 ht2
   split at ht1
   case isFalse => cases ht1
   split at ht2
   case isFalse => cases ht2
   exact h5.disj t t' i i' g off off' ht1 ht2
 obtain ⟨l1, l2⟩ := he.get
 have henv : EnvR (c.cut L.length T.length) w env' a.tmps := by
  refine ⟨by rw [l1]; exact h4.1, fun t ht => ?_⟩
  rcases l2 t ht (by omega) with hu | ⟨heq, hfit⟩
  ·rw [hu]; exact .undef _
  ·rw [heq]; exact (h4.2 t (by omega)).cut_fit _ _ hfit
 refine h b a (c.cut L.length T.length) w c0 w0 h1 h2 h3 henv hrep ⟨⟨fun g k v hm hv => ?_, fun i b hi => ?_, fun t i hi => ?_, h6.B, h6.keeps.ty⟩, h6.B, h6.I, h6.X, h6.below⟩ ⟨hI.1, hI.2⟩
 ·exact ⟨fun h => (h6.keeps.cell g k v hm hv).1 (cut_M h), (h6.keeps.cell g k v hm hv).2⟩
 ·have := (List.getElem?_eq_some_iff.1 hi).1
  exact get_take (h6.keeps.ρ i b hi) (by omega)
 ·obtain ⟨i', a1, a2⟩ := h6.keeps.τ t i hi
  have := (List.getElem?_eq_some_iff.1 hi).1
  exact ⟨i', get_take a1 (by omega), a2⟩
def EnvW : List V → List V → Prop
 | [], [] => True
 | a :: aa, b :: bs => (a = .undef ∨ a = b) ∧ EnvW aa bs
 | _, _ => False
theorem EnvW.get : ∀ {aa bs : List V}, EnvW aa bs → aa.length = bs.length ∧ ∀ t (h : t < aa.length) (h' : t < bs.length), aa[t] = .undef ∨ aa[t] = bs[t]
 | [], [], _ => ⟨rfl, fun t h => by simp at h⟩
 | a :: aa, b :: bs, h => by
  obtain ⟨h1, h2⟩ := h
  obtain ⟨h3, h4⟩ := EnvW.get h2
  refine ⟨by simp [h3], fun t ht ht' => ?_⟩
  cases t with
  | zero => exact h1
  | succ t => exact h4 t (by simpa using ht) (by simpa using ht')
 | [], _ :: _, h => h.elim
 | _ :: _, [], h => h.elim
theorem ARun.weak {k : List Item} {env env' : List V} {S : Mem} (he : EnvW env' env) (h : ARun P I z fn k env' S R) : ARun P I z fn k env S R := by
 intro b a c w c0 w0 h1 h2 h3 h4 h5 h6 hI
 obtain ⟨l1, l2⟩ := he.get
 refine h b a c w c0 w0 h1 h2 h3 ⟨by rw [l1]; exact h4.1, fun t ht => ?_⟩ h5 h6 hI
 rcases l2 t ht (by omega) with hu | heq
 ·rw [hu]; exact .undef _
 ·rw [heq]; exact h4.2 t (by omega)
def envOf (n : Nat) (l : List (Nat × V)) : List V := l.foldl (fun e p => e.set p.1 p.2) (List.replicate n .undef)
theorem ARun.fits {k : List Item} {env : List V} {S : Mem} (h : Fits S → ARun P I z fn k env S R) : ARun P I z fn k env S R :=
 fun b a c w c0 w0 h1 h2 h3 h4 h5 h6 hI => h (.of_rep h5) b a c w c0 w0 h1 h2 h3 h4 h5 h6 hI
theorem ARun.loopI {α : Type} (st : α → List V × Mem) (ok : α → Prop) (μ : α → Nat) {x : Code} {k : List Item} (hs : ∀ a, ok a → (∀ b, ok b → μ b < μ a → ARun P I z fn (.inLoop x :: k) (st b).1 (st b).2 R) → ARun P I z fn (.code x :: .inLoop x :: k) (st a).1 (st a).2 R) (a : α) (ha : ok a) : ARun P I z fn (.code (.loop x) :: k) (st a).1 (st a).2 R := by
 have key : ∀ n a, μ a = n → ok a → ARun P I z fn (.code x :: .inLoop x :: k) (st a).1 (st a).2 R := by
  intro n
  induction n using Nat.strongRecOn with
  | _ n ih =>
   intro a hn ha
   exact hs a ha fun b hb hlt => .inLoop (ih (μ b) (by omega) b rfl hb)
 exact .loop (key _ a rfl ha)
theorem ARun.loopW {α : Type} (st : α → List V × Mem) (ok : α → Prop) (μ : α → Nat) {x : Code} {k : List Item} {env : List V} {S : Mem} (a : α) (ha : ok a) (he : EnvW (st a).1 env) (hS : (st a).2 = S)
 (hs : ∀ a, ok a → (∀ b, ok b → μ b < μ a → ∀ env' S', EnvW (st b).1 env' → (st b).2 = S' → ARun P I z fn (.inLoop x :: k) env' S' R) → ARun P I z fn (.code x :: .inLoop x :: k) (st a).1 (st a).2 R) : ARun P I z fn (.code (.loop x) :: k) env S R := by
 refine ARun.weak he ?_
 rw [← hS]
 refine ARun.loopI st ok μ (fun a ha ih => hs a ha fun b hb hlt env' S' he' hS' => ?_) a ha
 refine ARun.weak he' ?_
 rw [← hS']
 exact ih b hb hlt
theorem ARun.loopA {α : Type} (st : α → List V × Mem) (ok : α → Prop) (μ : α → Nat) {x : Code} {k : List Item} {env : List V} {S : Mem} (a : α) (ha : ok a) (he : EnvW (st a).1 env) (hS : (st a).2 = S)
 (hs : ∀ a, ok a → (∀ b, ok b → μ b < μ a → ∀ env' L J T K, (st b).2 = ⟨L, T⟩ → z.1 ≤ L.length ∧ z.2 ≤ T.length → Fits ⟨L, T⟩ → EnvLe L.length T.length (st b).1 env' → ARun P I z fn (.inLoop x :: k) env' ⟨L ++ J, T ++ K⟩ R) → ARun P I z fn (.code x :: .inLoop x :: k) (st a).1 (st a).2 R) : ARun P I z fn (.code (.loop x) :: k) env S R := by
 refine ARun.weak he ?_
 rw [← hS]
 refine ARun.loopI st ok μ (fun a ha ih => hs a ha fun b hb hlt env' L J T K hb2 hz hf he' => ?_) a ha
 refine ARun.at hz hf he' ?_
 rw [← hb2]
 exact ih b hb hlt
end
theorem Left.fits {S S' : Mem} {R : V → Mem → Prop} {v : V} (hf : Fits S') (h1 : S'.boxes.length = S.boxes.length) (h2 : S'.toks.length = S.toks.length) (h : R (wk S.boxes.length S.toks.length v) S') : Left S R v S' := by
 refine ⟨S'.boxes, [], S'.toks, [], by simp, h1, h2, fun i vs hi v hv => .inr ?_, h⟩
 have := List.all_eq_true.1 (hf vs (List.mem_of_getElem? hi)) v hv
 rw [h1, h2] at this
 exact this
mutual
def sm : V → Bool
 | .d (.sl rows) => decide (rows.length ≤ 9223372036854775807)
 | .d (.str s) => decide (s.length ≤ 9223372036854775807)
 | .sl rows _ => decide (rows.length ≤ 9223372036854775807)
 | .agg vs => smL vs
 | _ => true
def smL : List V → Bool
 | [] => true
 | v :: vs => sm v && smL vs
end
theorem sm_int (k : IntKind) (n : Int) : sm (.d (.int k n)) = true := rfl
theorem sm_bool (b : Bool) : sm (.d (.bool b)) = true := rfl
theorem sm_ptr (i k : Nat) : sm (.ptr i k) = true := rfl
theorem sm_bx (i n c : Nat) : sm (.bx i n c) = true := rfl
theorem sm_nilp : sm .nilp = true := rfl
theorem sm_nilf : sm .nilf = true := rfl
theorem sm_func (f : FuncId) (a b : List V) : sm (.func f a b) = true := rfl
theorem sm_eptr (r : List D) (k : Nat) : sm (.eptr r k) = true := rfl
theorem sm_undef : sm .undef = true := rfl
theorem sm_tup (vs : List V) : sm (.tup vs) = true := rfl
theorem smL_iff : ∀ vs : List V, smL vs = true ↔ ∀ (j : Nat) (h : j < vs.length), sm vs[j] = true
 | [] => by simp [smL]
 | v :: vs => by
  simp only [smL, Bool.and_eq_true, smL_iff vs]
  constructor
  ·rintro ⟨h1, h2⟩ j hj
   cases j with
   | zero => exact h1
   | succ j => exact h2 j (by simpa using hj)
  ·exact fun h => ⟨h 0 (by simp), fun j hj => h (j + 1) (by simpa using hj)⟩
theorem DR.sm {M : Nat → Nat → Prop} {w : World} {x : D} {v : Value} (h : DR M w x v) : sm (.d x) = true := by
 cases h with
 | int k n => rfl
 | bool b => rfl
 | str s h => simpa [Ab.sm] using h
 | sl rows sz a cap f hsz hr hc hm hs hd => simp only [Ab.sm, decide_eq_true_iff]; omega
theorem VR.sm {c : Cx} {w : World} {x : V} {v : Value} (h : VR c w x v) : sm x = true := by
 induction h with
 | d x v h => exact h.sm
 | full rows a h ha => exact h.sm
 | own rows t a cap i h ht hr hn hl => exact h.sm
 | agg vs cs h1 h2 h3 ih => simp only [Ab.sm]; exact (smL_iff vs).2 ih
 | _ => rfl
theorem ARun.small {P : Program} {I : Inv} {z : Nat × Nat} {fn : FuncId} {R : V → Mem → Prop} {k : List Item} {env : List V} {S : Mem} (h : smL env = true → ARun P I z fn k env S R) : ARun P I z fn k env S R :=
 fun b a c w c0 w0 h1 h2 h3 h4 h5 h6 hI => h ((smL_iff env).2 fun j hj => (h4.2 j hj).sm) b a c w c0 w0 h1 h2 h3 h4 h5 h6 hI
theorem smL_pre {aa bs : List V} (h : smL (aa ++ bs) = true) : smL aa = true :=
 (smL_iff aa).2 fun j hj => by
  have := (smL_iff _).1 h j (by simp; omega)
  rwa [List.getElem_append_left hj] at this
theorem AFn.bodyS {P : Program} {I : Inv} {fn : FuncId} {f : Func} {body : Code} {args : List V} {S : Mem} {R : V → Mem → Prop} (hf : P.funcs[fn]? = some f) (hb : f.body = some body) (hname : (f.name == "runtime.NumGoroutine") = false)
 (h : smL args = true → ARun P I (S.boxes.length, S.toks.length) fn [.code body] (args ++ List.replicate (f.ntmps - args.length) .undef) S (Left S R)) : AFn P I fn args S R := AFn.body hf hb hname (ARun.small fun h1 => h (smL_pre h1))
theorem ARun.loopB {P : Program} {I : Inv} {z : Nat × Nat} {fn : FuncId} {R : V → Mem → Prop} {α : Type} (st : α → List V × Mem) (ok : α → Prop) (μ : α → Nat) {x : Code} {k : List Item} {env : List V} {S : Mem} (a : α) (ha : ok a) (he : EnvW (st a).1 env) (hS : (st a).2 = S)
 (hs : ∀ a, ok a → (∀ b, ok b → μ b < μ a → ∀ env' L J T, (st b).2 = ⟨L, T⟩ → z.1 ≤ L.length ∧ z.2 ≤ T.length → Fits ⟨L, T⟩ → EnvLe L.length T.length (st b).1 env' → ARun P I z fn (.inLoop x :: k) env' ⟨L ++ J, T⟩ R) → ARun P I z fn (.code x :: .inLoop x :: k) (st a).1 (st a).2 R) : ARun P I z fn (.code (.loop x) :: k) env S R := by
 refine ARun.loopA st ok μ a ha he hS fun a ha ih => hs a ha fun b hb hlt env' L J T h1 h2 h3 h4 => ?_
 have := ih b hb hlt env' L J T [] h1 h2 h3 h4
 rwa [List.append_nil] at this
theorem exitTo_app {id : Nat} {K : List Item} : ∀ {k k' : List Item}, exitTo id k = some k' → exitTo id (k ++ K) = some (k' ++ K)
 | [], _, h => by simp [exitTo] at h
 | i :: k, k', h => by
  cases i with
  | inBlock id' =>
   simp only [List.cons_append, exitTo] at h ⊢
   split at h
   ·rename_i he
    rw [if_pos he]
    obtain rfl := Option.some.inj h
    rfl
   ·rename_i he
    rw [if_neg he]
    exact exitTo_app h
  | _ =>
   simp only [List.cons_append, exitTo] at h ⊢
   exact exitTo_app h
section
variable {P : Program} {I : Inv} {z : Nat × Nat} {fn : FuncId} {R : V → Mem → Prop}
theorem itemJ_ok (K : List Item) {next stop : Cont} (hn : ∀ k env S, next k env S → ARun P I z fn (k ++ K) env S R) (hs : ∀ k env S, stop k env S → ARun P I z fn (k ++ K) env S R) (k : List Item) (env : List V) (S : Mem) (h : itemS P I next stop k env S) : ARun P I z fn (k ++ K) env S R := by
 have hdo : ∀ (ops : Array Oper) (i : Nat) (rest : List Nat) (o : Oper) (k : List Item) (env : List V) (S : Mem), ops[i]? = some o → Wants env ops o → doOp P I next stop ops rest o k env S → ARun P I z fn (.inRegion ops (i :: rest) :: (k ++ K)) env S R := by
  intro ops i rest o k env S ho hw hd
  have hb : ∀ r, op1 P (evalV I env) S o.op = r → bindS next r (.inRegion ops rest :: k) o.dst env → ARun P I z fn (.inRegion ops (i :: rest) :: (k ++ K)) env S R := by
   intro r hr hb
   cases r with
   | none => exact hb.elim
   | some p => exact .op ho hw hr (hn _ _ _ hb)
  unfold doOp at hd
  split at hd
  ·rename_i q hq
   split at hd
   ·rename_i f hf
    unfold callS at hd
    split at hd
    ·rename_i g first caps hg
     exact .call ho hw hq hf hg (hd.mono fun v S' h => hs _ _ _ h)
    ·exact hd.elim
   ·exact hb _ (by rw [hq]; rfl) hd
  ·exact hb _ rfl hd
 unfold itemS at h
 split at h
 ·rename_i c k
  unfold codeS at h
  split at h
  ·exact .seq (hn _ _ _ h)
  ·exact .skip (hn _ _ _ h)
  ·exact .label (hn _ _ _ h)
  ·exact .block (hn _ _ _ h)
  ·rw [upTo_ops] at h
   exact .region (hn _ _ _ h)
  ·rename_i x a b
   split at h
   ·rename_i t ht
    refine .cond ht ?_
    unfold condS at h
    split at h
    ·rename_i ht2; rw [ht2]; exact hn _ _ _ h
    ·rename_i ht2
     have : t = false := by simpa using ht2
     rw [this]; exact hn _ _ _ h
   ·exact h.elim
  ·split at h
   ·rename_i k' hk
    exact .exit (exitTo_app hk) (hn _ _ _ h)
   ·exact h.elim
  ·exact hs _ _ _ h
 ·exact .inBlock (hn _ _ _ h)
 ·exact .regionEnd (hn _ _ _ h)
 ·rename_i ops i rest k
  unfold regS at h
  split at h
  ·rename_i o ho
   split at h
   ·rename_i hg
    exact hdo _ _ _ _ _ _ _ ho (.inl hg) h
   ·rename_i j want hg
    unfold guardS at h
    split at h
    ·rename_i t ht
     unfold guardB at h
     split at h
     ·rename_i hw
      have : t = want := by simpa using hw
      subst this
      exact hdo _ _ _ _ _ _ _ ho (.inr ⟨j, t, hg, ht⟩) h
     ·rename_i hw
      exact .opSkip ho ⟨j, want, hg, .inl ⟨t, ht, by simpa using hw⟩⟩ (hn _ _ _ h)
    ·rename_i ht
     exact .opSkip ho ⟨j, want, hg, .inr ht⟩ (hn _ _ _ h)
    ·exact h.elim
  ·exact h.elim
 ·exact hs _ _ _ h
theorem stepsJ_ok (K : List Item) {stop : Cont} (hs : ∀ k env S, stop k env S → ARun P I z fn (k ++ K) env S R) : ∀ (n : Nat) (k : List Item) (env : List V) (S : Mem), steps P I n stop k env S → ARun P I z fn (k ++ K) env S R
 | 0, _, _, _, h => hs _ _ _ h
 | n + 1, k, env, S, h => itemJ_ok K (stepsJ_ok K hs n) hs k env S h
theorem ARun.goK (n : Nat) {k K : List Item} {env : List V} {S : Mem} (h : steps P I n (fun k env S => ARun P I z fn (k ++ K) env S R) k env S) : ARun P I z fn (k ++ K) env S R := stepsJ_ok K (fun _ _ _ h => h) n k env S h
theorem goXN {a b c : Item} {K : List Item} {env : List V} {S : Mem} (h : steps P I 200 (fun k env S => ARun P I z fn (k ++ K) env S R) [a, b, c] env S) : ARun P I z fn ([a, b, c] ++ K) env S R := ARun.goK 200 h
end
def lk : List (Nat × V) → Nat → V
 | [], _ => .undef
 | p :: l, t => cond (p.1 == t) p.2 (lk l t)
def envS (n : Nat) (u : List (Nat × V)) : List V := (List.range n).map (lk u)
theorem lk_cons (a : Nat) (v : V) (u : List (Nat × V)) (t : Nat) : lk ((a, v) :: u) t = cond (a == t) v (lk u t) := rfl
theorem lk_if (p : Nat × V) (u : List (Nat × V)) (t : Nat) : lk (p :: u) t = if p.1 = t then p.2 else lk u t := by
 rw [lk]
 by_cases h : p.1 = t
 ·rw [if_pos h, beq_iff_eq.2 h, cond_true]
 ·rw [if_neg h, beq_eq_false_iff_ne.2 h, cond_false]
theorem lk_nil (t : Nat) : lk [] t = .undef := rfl
theorem envS_get (n : Nat) (u : List (Nat × V)) (t : Nat) : (envS n u).getD t .undef = cond (t + 1 - n == 0) (lk u t) .undef := by
 unfold envS
 by_cases h : t < n
 ·have e : (t + 1 - n == 0) = true := beq_iff_eq.2 (by omega)
  rw [e, cond_true]
  simp [List.getD, h]
 ·have e : (t + 1 - n == 0) = false := beq_eq_false_iff_ne.2 (by omega)
  rw [e, cond_false]
  simp [List.getD, h]
theorem envS_eval (I : Inv) (n : Nat) (u : List (Nat × V)) (t : Nat) : evalV I (envS n u) (.tmp t) = cond (t + 1 - n == 0) (lk u t) .undef := envS_get n u t
theorem envS_put (n : Nat) (u : List (Nat × V)) (t : Nat) (v : V) : (envS n u).set t v = envS n ((t, v) :: u) := by
 unfold envS
 apply List.ext_getElem
 ·simp
 intro i h1 h2
 simp only [List.length_set, List.length_map, List.length_range] at h1
 rw [List.getElem_set]
 simp only [List.getElem_map, List.getElem_range, lk_if]
theorem envS_set (n : Nat) (u : List (Nat × V)) (t : Nat) (v : V) : setV (envS n u) (some t) v = envS n ((t, v) :: u) := envS_put n u t v
theorem envS_no (n : Nat) (u : List (Nat × V)) (v : V) : setV (envS n u) none v = envS n u := rfl
def numbered : Nat → List V → List (Nat × V)
 | _, [] => []
 | i, v :: l => (i, v) :: numbered (i + 1) l
theorem numbered_lk : ∀ (l : List V) (i t : Nat), lk (numbered i l) t = if i ≤ t then l.getD (t - i) .undef else .undef
 | [], i, t => by simp [numbered, lk, List.getD]
 | v :: l, i, t => by
  rw [numbered, lk_if, numbered_lk l (i + 1) t]
  by_cases h : i = t
  ·subst h; simp
  ·rw [if_neg h]
   by_cases h2 : i ≤ t
   ·have h3 : i + 1 ≤ t := by omega
    have h4 : t - i = (t - (i + 1)) + 1 := by omega
    rw [if_pos h3, if_pos h2, h4]
    simp [List.getD]
   ·rw [if_neg h2, if_neg (by omega)]
theorem envS_args (n : Nat) (args : List V) (h : args.length ≤ n) : args ++ List.replicate (n - args.length) .undef = envS n (numbered 0 args) := by
 unfold envS
 apply List.ext_getElem
 ·simp; omega
 intro i h1 h2
 simp only [List.length_map, List.length_range] at h2
 simp only [List.getElem_map, List.getElem_range, numbered_lk, Nat.zero_le, if_true, Nat.sub_zero]
 rw [List.getElem_append]
 split
 ·rename_i h3
  simp [List.getD, h3]
 ·rename_i h3
  simp only [List.getElem_replicate, List.getD]
  rw [List.getElem?_eq_none (by omega)]
  rfl
theorem AFn.bodyE {P : Program} {I : Inv} {fn : FuncId} {f : Func} {body : Code} {args : List V} {S : Mem} {R : V → Mem → Prop} (n : Nat) (hf : P.funcs[fn]? = some f) (hb : f.body = some body) (hname : (f.name == "runtime.NumGoroutine") = false) (hn : f.ntmps = n) (hl : args.length ≤ n)
 (h : smL args = true → ARun P I (S.boxes.length, S.toks.length) fn [.code body] (envS n (numbered 0 args)) S (Left S R)) : AFn P I fn args S R :=
 AFn.bodyS hf hb hname fun hs => by
  rw [hn, envS_args n args hl]
  exact h hs
def Agree (u : List (Nat × V)) : List (Nat × V) → Prop
 | [] => True
 | p :: l => lk u p.1 = p.2 ∧ Agree u l
theorem Agree.lk {u : List (Nat × V)} : ∀ {l : List (Nat × V)}, Agree u l → ∀ t, lk l t = .undef ∨ lk l t = Ab.lk u t
 | [], _, t => .inl rfl
 | p :: l, h, t => by
  rw [lk_if]
  by_cases e : p.1 = t
  ·rw [if_pos e, ← h.1, e]; exact .inr rfl
  ·rw [if_neg e]; exact Agree.lk h.2 t
theorem envW_map (f g : Nat → V) (h : ∀ t, f t = .undef ∨ f t = g t) : ∀ l : List Nat, EnvW (l.map f) (l.map g)
 | [] => trivial
 | t :: l => ⟨h t, envW_map f g h l⟩
theorem Agree.env {u l : List (Nat × V)} (n : Nat) (h : Agree u l) : EnvW (envS n l) (envS n u) := envW_map _ _ h.lk _
def AgreeF (a b : Nat) (u : List (Nat × V)) : List (Nat × V) → Prop
 | [] => True
 | p :: l => (lk u p.1 = p.2 ∧ fit a b p.2 = true) ∧ AgreeF a b u l
theorem AgreeF.lk {a b : Nat} {u : List (Nat × V)} : ∀ {l : List (Nat × V)}, AgreeF a b u l → ∀ t, lk l t = .undef ∨ (lk l t = Ab.lk u t ∧ fit a b (Ab.lk u t) = true)
 | [], _, t => .inl rfl
 | p :: l, h, t => by
  rw [lk_if]
  by_cases e : p.1 = t
  ·rw [if_pos e, ← e, h.1.1]; exact .inr ⟨rfl, h.1.2⟩
  ·rw [if_neg e]; exact AgreeF.lk h.2 t
theorem envLe_map (a b : Nat) (f g : Nat → V) (h : ∀ t, f t = .undef ∨ (f t = g t ∧ fit a b (g t) = true)) : ∀ l : List Nat, EnvLe a b (l.map f) (l.map g)
 | [] => trivial
 | t :: l => ⟨h t, envLe_map a b f g h l⟩
theorem AgreeF.env {a b : Nat} {u l : List (Nat × V)} (n : Nat) (h : AgreeF a b u l) : EnvLe a b (envS n l) (envS n u) := envLe_map a b _ _ h.lk _
theorem agree_nil (u : List (Nat × V)) : Agree u [] = True := rfl
theorem agree_cons (u : List (Nat × V)) (t : Nat) (v : V) (l : List (Nat × V)) : Agree u ((t, v) :: l) = (lk u t = v ∧ Agree u l) := rfl
theorem agreeF_nil (a b : Nat) (u : List (Nat × V)) : AgreeF a b u [] = True := rfl
theorem agreeF_cons (a b : Nat) (u : List (Nat × V)) (t : Nat) (v : V) (l : List (Nat × V)) : AgreeF a b u ((t, v) :: l) = ((lk u t = v ∧ fit a b v = true) ∧ AgreeF a b u l) := rfl
def rgt : Code → Code
 | .seq _ b => b
 | .cond _ _ b => b
 | c => c
def bodyOf (f : Func) : Code :=
 match f.body with
 | some c => c
 | none => .skip
def opsOf : Code → Array Oper
 | .region _ o _ => o
 | _ => #[]
def opAt (a : Array Oper) (i : Nat) : Oper :=
 match a[i]? with
 | some o => o
 | none => ⟨none, .move (.tmp 0), 0, "", #[], none⟩
def condV (next : Cont) (v : V) (a b : Code) (k : List Item) (env : List V) (S : Mem) : Prop :=
 match v with
 | .d (.bool t) => condS next t (.code a :: k) env (.code b :: k) env S
 | _ => False
theorem condV_b (next : Cont) (t : Bool) (a b : Code) (k : List Item) (env : List V) (S : Mem) : condV next (.d (.bool t)) a b k env S = condS next t (.code a :: k) env (.code b :: k) env S := rfl
def exitV (next : Cont) (r : Option (List Item)) (env : List V) (S : Mem) : Prop :=
 match r with
 | some k => next k env S
 | none => False
theorem exitV_some (next : Cont) (k : List Item) (env : List V) (S : Mem) : exitV next (some k) env S = next k env S := rfl
def stepV (P : Program) (I : Inv) (next : LCont) (S : Mem) (v : V) (want : Bool) (o : Oper) (l : List Oper) (env : List V) : Prop :=
 match v with
 | .d (.bool t) => guardQ P I next S t want o l env
 | .tup [] => next l (setV env o.dst (.tup []))
 | _ => False
theorem stepV_b (P : Program) (I : Inv) (next : LCont) (S : Mem) (t want : Bool) (o : Oper) (l : List Oper) (env : List V) : stepV P I next S (.d (.bool t)) want o l env = guardQ P I next S t want o l env := rfl
theorem stepV_g (P : Program) (I : Inv) (next : LCont) (S : Mem) (want : Bool) (o : Oper) (l : List Oper) (env : List V) : stepV P I next S (.tup []) want o l env = next l (setV env o.dst (.tup [])) := rfl
def gdoV (v : V) (want : Bool) : V :=
 match v with
 | .d (.bool t) => .d (.bool (t == want))
 | .tup [] => .d (.bool false)
 | _ => .undef
def gdo (env : List V) (ops : Array Oper) (o : Oper) : V :=
 match o.guard with
 | none => .d (.bool true)
 | some (j, want) => gdoV (guardV env ops j) want
def nodesA : Code → List Code → List Code
 | .seq a b, l => .seq a b :: nodesA a (nodesA b l)
 | .cond x a b, l => .cond x a b :: nodesA a (nodesA b l)
 | .block i a, l => .block i a :: nodesA a l
 | .loop a, l => .loop a :: nodesA a l
 | c, l => c :: l
def nth : List Code → Nat → Code
 | [], _ => .skip
 | c :: _, 0 => c
 | _ :: l, i + 1 => nth l i
def csz : Code → Nat
 | .seq a b => csz a + csz b + 1
 | .cond _ a b => csz a + csz b + 1
 | .block _ a => csz a + 1
 | .loop a => csz a + 1
 | _ => 1
def kF (f : Func) (i : Nat) : Code := nth (nodesA (bodyOf f) []) i
inductive Kx where
 | S (a b c : Nat) | B (a b j : Nat) | C (a : Nat) (x : Operand) (b c : Nat) | L (a b : Nat) | E (a j : Nat) | T (a : Nat) | N (a : Nat) | R (a : Nat) (l : List Nat) | D (a j : Nat) (l : List Nat)
 | r (a j : Nat) (q : Op) (d : Option Tmp) | g (a j t : Nat) (b : Bool) (q : Op) (d : Option Tmp) | q (a j : Nat) (q : Op) (d : Option Tmp) | h (a j t : Nat) (b : Bool) (q : Op) (d : Option Tmp)
def doO (P : Program) (I : Inv) (next stop : Cont) (ops : Array Oper) (rest : List Nat) (q : Op) (d : Option Tmp) (k : List Item) (env : List V) (S : Mem) : Prop :=
 match q with
 | .call c => match c.callee with
  | .value f => callS P I stop (evalV I env f) (c.args.toList.map (evalV I env)) (.inRegion ops rest :: k) d env S
  | _ => bindS next (opCall P (evalV I env) S c) (.inRegion ops rest :: k) d env
 | op => bindS next (op1 P (evalV I env) S op) (.inRegion ops rest :: k) d env
def opO (P : Program) (I : Inv) (next : LCont) (S : Mem) (q : Op) (d : Option Tmp) (l : List Oper) (env : List V) : Prop :=
 match q with
 | .call c => match c.callee with
  | .value f => callQ P I next S c (evalV I env f) (c.args.toList.map (evalV I env)) l d env
  | _ => bindQ next S (opCall P (evalV I env) S c) l d env
 | op => bindQ next S (op1 P (evalV I env) S op) l d env
def tabO (i : Nat) (draw : Bool) (A : Array Oper) : Nat → List Oper → List Kx → List Kx
 | _, [], l => l
 | j, o :: m, l => match o.guard with
  | none => (cond draw (.q i j o.op o.dst) (.r i j o.op o.dst)) :: tabO i draw A (j + 1) m l
  | some (t, b) => match (A[t]?).bind (·.dst) with
   | some t => (cond draw (.h i j t b o.op o.dst) (.g i j t b o.op o.dst)) :: tabO i draw A (j + 1) m l
   | none => tabO i draw A (j + 1) m l
def tabC (i : Nat) : Code → List Kx → List Kx
 | .seq a b, l => .S i (i + 1) (i + csz a + 1) :: tabC (i + 1) a (tabC (i + csz a + 1) b l)
 | .cond x a b, l => .C i x (i + 1) (i + csz a + 1) :: tabC (i + 1) a (tabC (i + csz a + 1) b l)
 | .block j a, l => .B i (i + 1) j :: tabC (i + 1) a l
 | .loop a, l => .L i (i + 1) :: tabC (i + 1) a l
 | .exit j, l => .E i j :: l
 | .ret, l => .T i :: l
 | .skip, l => .N i :: l
 | .label _, l => .N i :: l
 | .region _ A false, l => .R i (upTo 0 A.toList) :: tabO i false A 0 A.toList l
 | .region j A true, l => .D i j (upTo 0 A.toList) :: tabO i true A 0 A.toList l
 | _, l => l
def KxP (n : Nat → Code) : Kx → Prop
 | .S a b c => ∀ (I : Inv) (next stop : Cont) (k : List Item) (env : List V) (S : Mem), codeS I next stop (n a) k env S = next (.code (n b) :: .code (n c) :: k) env S
 | .B a b j => ∀ (I : Inv) (next stop : Cont) (k : List Item) (env : List V) (S : Mem), codeS I next stop (n a) k env S = next (.code (n b) :: .inBlock j :: k) env S
 | .C a x b c => ∀ (I : Inv) (next stop : Cont) (k : List Item) (env : List V) (S : Mem), codeS I next stop (n a) k env S = condV next (evalV I env x) (n b) (n c) k env S
 | .L a b => ∀ (I : Inv) (next stop : Cont) (k : List Item) (env : List V) (S : Mem), codeS I next stop (n a) k env S = stop (.code (.loop (n b)) :: k) env S
 | .E a j => ∀ (I : Inv) (next stop : Cont) (k : List Item) (env : List V) (S : Mem), codeS I next stop (n a) k env S = exitV next (exitTo j k) env S
 | .T a => ∀ (I : Inv) (next stop : Cont) (k : List Item) (env : List V) (S : Mem), codeS I next stop (n a) k env S = stop (.code .ret :: k) env S
 | .N a => ∀ (I : Inv) (next stop : Cont) (k : List Item) (env : List V) (S : Mem), codeS I next stop (n a) k env S = next k env S
 | .R a l => ∀ (I : Inv) (next stop : Cont) (k : List Item) (env : List V) (S : Mem), codeS I next stop (n a) k env S = next (.inRegion (opsOf (n a)) l :: k) env S
 | .D a j l => (∀ (I : Inv) (next stop : Cont) (k : List Item) (env : List V) (S : Mem), codeS I next stop (n a) k env S = stop (.code (.region j (opsOf (n a)) true) :: k) env S) ∧ (opsOf (n a)).toList = l.map (opAt (opsOf (n a)))
 | .r a j q d => ∀ (P : Program) (I : Inv) (next stop : Cont) (rest : List Nat) (k : List Item) (env : List V) (S : Mem), regS P I next stop (opsOf (n a)) j rest k env S = doO P I next stop (opsOf (n a)) rest q d k env S
 | .g a j t b q d => (∀ (P : Program) (I : Inv) (next stop : Cont) (rest : List Nat) (k : List Item) (env : List V) (S : Mem), regS P I next stop (opsOf (n a)) j rest k env S = guardS P I next stop (env.getD t .undef) b (opsOf (n a)) rest (opAt (opsOf (n a)) j) k env S) ∧ (∀ (P : Program) (I : Inv) (next stop : Cont) (rest : List Nat) (k : List Item) (env : List V) (S : Mem), doOp P I next stop (opsOf (n a)) rest (opAt (opsOf (n a)) j) k env S = doO P I next stop (opsOf (n a)) rest q d k env S) ∧ (opAt (opsOf (n a)) j).dst = d
 | .q a j q d => (∀ (P : Program) (I : Inv) (nq : LCont) (S : Mem) (l : List Oper) (env : List V), stepQ P I (opsOf (n a)) nq S (opAt (opsOf (n a)) j) l env = opO P I nq S q d l env) ∧ (∀ env, gdo env (opsOf (n a)) (opAt (opsOf (n a)) j) = .d (.bool true)) ∧ (opAt (opsOf (n a)) j).op = q ∧ (opAt (opsOf (n a)) j).dst = d
 | .h a j t b q d => (∀ (P : Program) (I : Inv) (nq : LCont) (S : Mem) (l : List Oper) (env : List V), stepQ P I (opsOf (n a)) nq S (opAt (opsOf (n a)) j) l env = stepV P I nq S (env.getD t .undef) b (opAt (opsOf (n a)) j) l env) ∧ (∀ (P : Program) (I : Inv) (nq : LCont) (S : Mem) (l : List Oper) (env : List V), opQ P I nq S (opAt (opsOf (n a)) j) l env = opO P I nq S q d l env) ∧ (∀ env, gdo env (opsOf (n a)) (opAt (opsOf (n a)) j) = gdoV (env.getD t .undef) b) ∧ (opAt (opsOf (n a)) j).op = q ∧ (opAt (opsOf (n a)) j).dst = d
def KK (n : Nat → Code) : List Kx → Prop
 | [] => True
 | x :: l => KxP n x ∧ KK n l
theorem nodesA_app : ∀ (c : Code) (l : List Code), ∃ m, nodesA c l = c :: m ++ l ∧ m.length + 1 = csz c
 | .seq a b, l => by
  obtain ⟨m1, e1, n1⟩ := nodesA_app b l
  obtain ⟨m2, e2, n2⟩ := nodesA_app a (nodesA b l)
  exact ⟨a :: m2 ++ (b :: m1), by rw [nodesA, e2, e1]; simp, by simp [csz]; omega⟩
 | .cond x a b, l => by
  obtain ⟨m1, e1, n1⟩ := nodesA_app b l
  obtain ⟨m2, e2, n2⟩ := nodesA_app a (nodesA b l)
  exact ⟨a :: m2 ++ (b :: m1), by rw [nodesA, e2, e1]; simp, by simp [csz]; omega⟩
 | .block _ a, l => by
  obtain ⟨m, e, n⟩ := nodesA_app a l
  exact ⟨a :: m, by rw [nodesA, e]; simp, by simp [csz]; omega⟩
 | .loop a, l => by
  obtain ⟨m, e, n⟩ := nodesA_app a l
  exact ⟨a :: m, by rw [nodesA, e]; simp, by simp [csz]; omega⟩
 | .skip, _ | .region _ _ _, _ | .rangeFunc _ _ _ _, _ | .exit _, _ | .scope _, _ | .label _, _ | .goto _, _ | .ret, _ | .refuse _, _ => ⟨[], rfl, rfl⟩
theorem nth_drop : ∀ (L : List Code) (i : Nat) (c : Code) (m : List Code), L.drop i = c :: m → nth L i = c
 | [], i, c, m, h => by simp at h
 | x :: L, 0, c, m, h => by simp at h; exact h.1
 | x :: L, i + 1, c, m, h => nth_drop L i c m (by simpa using h)
theorem drop_more {L : List Code} {i : Nat} {a b : List Code} (h : L.drop i = a ++ b) : L.drop (i + a.length) = b := by
 rw [← List.drop_drop, h, List.drop_left]
theorem opAt_eq {A : Array Oper} {j : Nat} {o : Oper} (h : A[j]? = some o) : opAt A j = o := by unfold opAt; rw [h]
theorem tabO_ok {n : Nat → Code} {i : Nat} {draw : Bool} {A : Array Oper} (hA : opsOf (n i) = A) : ∀ (m : List Oper) (j : Nat) (l : List Kx), A.toList.drop j = m → KK n l → KK n (tabO i draw A j m l)
 | [], _, _, _, hl => hl
 | o :: m, j, l, hd, hl => by
  have hm : A.toList.drop (j + 1) = m := by rw [← List.drop_drop, hd]; rfl
  have ho : A[j]? = some o := by
   have h0 : (A.toList.drop j)[0]? = some o := by rw [hd]; rfl
   rw [List.getElem?_drop] at h0
   simpa using h0
  have ih := tabO_ok (draw := draw) hA m (j + 1) l hm hl
  have hp := opAt_eq ho
  unfold tabO
  split
  ·rename_i hg
   refine ⟨?_, ih⟩
   cases draw
   ·intro P I next stop rest k env S
    rw [hA]
    unfold regS
    rw [ho]
    simp only [hg]
    rfl
   ·refine ⟨?_, fun env => by rw [hA, hp]; unfold gdo; simp only [hg], by rw [hA, hp], by rw [hA, hp]⟩
    intro P I nq S l env
    rw [hA, hp]
    unfold stepQ
    simp only [hg]
    rfl
  ·rename_i t b hg
   split
   ·rename_i t2 ht
    have hv : ∀ env : List V, guardV env A t = env.getD t2 .undef := fun env => by unfold guardV; rw [ht]
    refine ⟨?_, ih⟩
    cases draw
    ·refine ⟨?_, ?_, by rw [hA, hp]⟩
     ·intro P I next stop rest k env S
      rw [hA, hp]
      unfold regS
      rw [ho]
      simp only [hg, hv]
     ·intro P I next stop rest k env S
      rw [hA, hp]
      rfl
    ·refine ⟨?_, ?_, fun env => by rw [hA, hp]; unfold gdo; simp only [hg, hv], by rw [hA, hp], by rw [hA, hp]⟩
     ·intro P I nq S l env
      rw [hA, hp]
      unfold stepQ
      simp only [hg, hv]
      rfl
     ·intro P I nq S l env
      rw [hA, hp]
      rfl
   ·exact ih
theorem upTo_map (A : Array Oper) : ∀ (l : List Oper) (i : Nat), A.toList.drop i = l → (upTo i l).map (opAt A) = l
 | [], _, _ => rfl
 | o :: m, i, h => by
  have hm : A.toList.drop (i + 1) = m := by rw [← List.drop_drop, h]; rfl
  have ho : A[i]? = some o := by
   have h0 : (A.toList.drop i)[0]? = some o := by rw [h]; rfl
   rw [List.getElem?_drop] at h0
   simpa using h0
  rw [upTo, List.map_cons, opAt_eq ho, upTo_map A m (i + 1) hm]
theorem tabC_ok (L : List Code) : ∀ (c : Code) (i : Nat) (rest : List Code) (l : List Kx), L.drop i = nodesA c rest → KK (nth L) l → KK (nth L) (tabC i c l)
 | .seq a b, i, rest, l, h, hl => by
  obtain ⟨m1, e1, n1⟩ := nodesA_app b rest
  obtain ⟨m2, e2, n2⟩ := nodesA_app a (nodesA b rest)
  have h1 : L.drop (i + 1) = nodesA a (nodesA b rest) := by rw [← List.drop_drop, h]; rfl
  have h2 : L.drop (i + csz a + 1) = nodesA b rest := by
   have := drop_more (h1.trans e2)
   rw [← this]; congr 1; simp; omega
  have k0 := nth_drop L i _ _ h
  have k1 := nth_drop L (i + 1) _ _ (h1.trans e2)
  have k2 := nth_drop L (i + csz a + 1) _ _ (h2.trans e1)
  refine ⟨?_, tabC_ok L a (i + 1) _ _ h1 (tabC_ok L b _ _ _ h2 hl)⟩
  intro I next stop k env S
  rw [k0, k1, k2]; rfl
 | .cond x a b, i, rest, l, h, hl => by
  obtain ⟨m1, e1, n1⟩ := nodesA_app b rest
  obtain ⟨m2, e2, n2⟩ := nodesA_app a (nodesA b rest)
  have h1 : L.drop (i + 1) = nodesA a (nodesA b rest) := by rw [← List.drop_drop, h]; rfl
  have h2 : L.drop (i + csz a + 1) = nodesA b rest := by
   have := drop_more (h1.trans e2)
   rw [← this]; congr 1; simp; omega
  have k0 := nth_drop L i _ _ h
  have k1 := nth_drop L (i + 1) _ _ (h1.trans e2)
  have k2 := nth_drop L (i + csz a + 1) _ _ (h2.trans e1)
  refine ⟨?_, tabC_ok L a (i + 1) _ _ h1 (tabC_ok L b _ _ _ h2 hl)⟩
  intro I next stop k env S
  rw [k0, k1, k2]; rfl
 | .block j a, i, rest, l, h, hl => by
  obtain ⟨m, e, n⟩ := nodesA_app a rest
  have h1 : L.drop (i + 1) = nodesA a rest := by rw [← List.drop_drop, h]; rfl
  have k0 := nth_drop L i _ _ h
  have k1 := nth_drop L (i + 1) _ _ (h1.trans e)
  refine ⟨?_, tabC_ok L a (i + 1) _ _ h1 hl⟩
  intro I next stop k env S
  rw [k0, k1]; rfl
 | .loop a, i, rest, l, h, hl => by
  obtain ⟨m, e, n⟩ := nodesA_app a rest
  have h1 : L.drop (i + 1) = nodesA a rest := by rw [← List.drop_drop, h]; rfl
  have k0 := nth_drop L i _ _ h
  have k1 := nth_drop L (i + 1) _ _ (h1.trans e)
  refine ⟨?_, tabC_ok L a (i + 1) _ _ h1 hl⟩
  intro I next stop k env S
  rw [k0, k1]; rfl
 | .region j A false, i, rest, l, h, hl => by
  have k0 := nth_drop L i _ _ h
  refine ⟨?_, tabO_ok (by rw [k0]; rfl) _ _ _ rfl hl⟩
  intro I next stop k env S
  rw [k0]; rfl
 | .region j A true, i, rest, l, h, hl => by
  have k0 := nth_drop L i _ _ h
  refine ⟨⟨?_, ?_⟩, tabO_ok (by rw [k0]; rfl) _ _ _ rfl hl⟩
  ·intro I next stop k env S
   rw [k0]; rfl
  ·rw [k0]; exact (upTo_map A _ 0 rfl).symm
 | .skip, i, rest, l, h, hl => ⟨fun I next stop k env S => by rw [nth_drop L i _ _ h]; rfl, hl⟩
 | .label _, i, rest, l, h, hl => ⟨fun I next stop k env S => by rw [nth_drop L i _ _ h]; rfl, hl⟩
 | .ret, i, rest, l, h, hl => ⟨fun I next stop k env S => by rw [nth_drop L i _ _ h]; rfl, hl⟩
 | .exit j, i, rest, l, h, hl => ⟨fun I next stop k env S => by rw [nth_drop L i _ _ h]; unfold codeS exitV; rfl, hl⟩
 | .rangeFunc _ _ _ _, _, _, _, _, hl | .scope _, _, _, _, _, hl | .goto _, _, _, _, _, hl | .refuse _, _, _, _, _, hl => hl
theorem KK_of (f : Func) {t : List Kx} (h : tabC 0 (bodyOf f) [] = t) : KK (kF f) t := by
 subst h
 exact tabC_ok _ _ 0 [] [] rfl trivial
def FnIs (P : Program) (fn : FuncId) (f : Func) (n : Nat) : Prop := P.funcs[fn]? = some f ∧ (f.body, f.name == "runtime.NumGoroutine", f.ntmps) = (some (kF f 0), false, n)
theorem FnIs.run {P : Program} {I : Inv} {fn : FuncId} {f : Func} {n : Nat} (b : FnIs P fn f n) {args : List V} {S : Mem} {R : V → Mem → Prop} (hl : Nat.ble args.length n = true)
 (h : smL args = true → ARun P I (S.boxes.length, S.toks.length) fn [.code (kF f 0)] (envS n (numbered 0 args)) S (Left S R)) : AFn P I fn args S R :=
 AFn.bodyE n b.1 (Prod.mk.inj b.2).1 (Prod.mk.inj (Prod.mk.inj b.2).2).1 (Prod.mk.inj (Prod.mk.inj b.2).2).2 (Nat.le_of_ble_eq_true hl) h
theorem FnIs.go {P : Program} {I : Inv} {fn : FuncId} {f : Func} {n : Nat} (b : FnIs P fn f n) {args : List V} {S : Mem} {R : V → Mem → Prop} (m : Nat) (hl : Nat.ble args.length n = true)
 (h : smL args = true → steps P I m (fun k env S' => ARun P I (S.boxes.length, S.toks.length) fn k env S' (Left S R)) [.code (kF f 0)] (envS n (numbered 0 args)) S) : AFn P I fn args S R :=
 b.run hl fun hs => ARun.go m (h hs)
theorem KB {P : Program} {fn : FuncId} {f : Func} {Q : Prop} {t : List Kx} (h : P.funcs[fn]? = some f) (n : Nat) (e : (f.body, f.name == "runtime.NumGoroutine", f.ntmps) = (some (kF f 0), false, n) := by kernel_rfl) (c : tabC 0 (bodyOf f) [] = t := by conv => lhs; cbv) (k : KK (kF f) t → Q := by intro c; dsimp only [KK, KxP, doO, opO, List.map_cons, List.map_nil, List.toList_toArray] at c; exact c) : FnIs P fn f n ∧ Q :=
 ⟨⟨h, e⟩, k (KK_of f c)⟩
section
variable {P : Program} {I : Inv} {z : Nat × Nat} {fn : FuncId} {f : Func} {n : Nat} {Q : Prop} {R : V → Mem → Prop} {S : Mem}
theorem enS (b : FnIs P fn f n ∧ Q) {args : List V} (h : smL args = true → steps P I 200 (fun k env S' => ARun P I (S.boxes.length, S.toks.length) fn k env S' (Left S R)) [.code (kF f 0)] (envS n (numbered 0 args)) S) (hl : Nat.ble args.length n = true := by rfl) : AFn P I fn args S R := b.1.go 200 hl h
theorem enN (b : FnIs P fn f n ∧ Q) {args : List V} (h : steps P I 200 (fun k env S' => ARun P I (S.boxes.length, S.toks.length) fn k env S' (Left S R)) [.code (kF f 0)] (envS n (numbered 0 args)) S) (hl : Nat.ble args.length n = true := by rfl) : AFn P I fn args S R := b.1.go 200 hl fun _ => h
theorem retN (b : FnIs P fn f n ∧ Q) {k : List Item} {env : List V} {v : V} (hR : R v S) (hv : resV P S env f.results.toList = some v := by exact rfl) : ARun P I z fn (.code .ret :: k) env S R := ARun.ret b.1.1 hv hR
end
theorem envA {u l : List (Nat × V)} {n : Nat} (h : Agree u l := by first | (simp only [agw, seval, hn]; done) | (simp only [agw, seval]; done) | (simp only [agw, seval, hn]; all_goals rfl) | (simp only [agw, seval]; all_goals rfl)) : EnvW (envS n l) (envS n u) := Agree.env n h
theorem finA {p : Prop} (h : p := by (try clear ih); (try simp only [dnw] at *); simp only [fnw, seval, Same] <;> simp [*]) : p := h
abbrev Same (v : V) (S : Mem) : V → Mem → Prop := fun v' S' => v' = v ∧ S' = S
def Cx.bare (c : Cx) (w : World) (hM : ∀ g k, c.M g k → c.I.top ≤ g ∧ g < w.heap.size) : Cx := ⟨w.heap.size, [], [], c.I, c.M, hM⟩
theorem Rep.M_in {c : Cx} {w : World} {S : Mem} (h : Rep c w S) (g k : Nat) (hm : c.M g k) : c.I.top ≤ g ∧ g < w.heap.size := by
 refine ⟨?_, ?_⟩
 ·have hB := h.hB.1
  rcases hm with (hm | hm) | ⟨t, i, off, ht, ha, h1, h2⟩
  ·exact (c.hX _ _ hm).1
  ·obtain ⟨i, hi⟩ := mem_ρ.1 hm
   have := (h.box i g hi).1
   omega
  ·obtain ⟨a1, a2, a3, a4, a5⟩ := h.tok t i ht
   have hlt : i.n < i.cap := by
    rcases Nat.lt_or_ge i.n i.cap with h' | h'
    ·exact h'
    ·have := Nat.mul_le_mul_right i.sz h'
     omega
   have := (a5 hlt g off ha).1
   omega
 ·rcases Nat.lt_or_ge g w.heap.size with h' | h'
  ·exact h'
  ·exact absurd hm (h.notM_new h')
theorem VR.move {c c' : Cx} {w : World} {v : V} {x : Value} (h : VR c w v x) (hM : ∀ g k, c'.M g k → c.M g k) : VR c' w (wk 0 0 v) x := by
 have hd : ∀ {d : D} {x : Value}, DR c.M w d x → DR c'.M w d x := fun h => h.mono fun _ _ _ hm hv => ⟨fun h => hm (hM _ _ h), hv⟩
 induction h with
 | undef v => unfold wk; exact .undef v
 | d x v h => unfold wk; exact .d x v (hd h)
 | full rows a h ha => unfold wk; exact .d _ _ (hd h)
 | own rows t a cap i h ht hr hn hl =>
  unfold wk
  rw [if_neg (by omega)]
  exact .d _ _ (hd h)
 | ptr i k b h hT =>
  unfold wk
  rw [if_neg (by omega)]
  exact .undef _
 | bx i k cap b h hn hm hT =>
  unfold wk
  rw [if_neg (by omega)]
  exact .undef _
 | mp i b h =>
  unfold wk
  rw [if_neg (by omega)]
  exact .undef _
 | self i T b v h hT hv =>
  unfold wk
  rw [if_neg (by omega)]
  exact .undef _
 | buf rows t T v h hT ih =>
  unfold wk at ih ⊢
  rw [if_neg (by omega)] at ih ⊢
  exact ih
 | eptr row k g o f h =>
  unfold wk
  refine .eptr row k g o f fun q hq => ?_
  obtain ⟨a, b, d⟩ := h q hq
  exact ⟨fun h => a (hM _ _ h), b, hd d⟩
 | nilp => unfold wk; exact .nilp
 | nilf => unfold wk; exact .nilf
 | func f first caps cf cc h1 h2 h3 h4 ih1 ih2 =>
  unfold wk
  rw [wkL_map, wkL_map]
  exact .func f _ _ cf cc (by simpa using h1) (by simpa using h2) (fun j hj => by simpa using ih1 j (by simpa using hj)) (fun j hj => by simpa using ih2 j (by simpa using hj))
 | agg vs cs h1 h2 h3 ih =>
  unfold wk
  rw [wkL_map]
  exact .agg _ cs (by simpa using h1) (fun j hj => by simpa using ih j (by simpa using hj)) (fun j hj => h3 j (by simpa using hj))
 | tup vs cs h1 h2 ih =>
  unfold wk
  rw [wkL_map]
  exact .tup _ cs (by simpa using h1) (fun j hj => by simpa using ih j (by simpa using hj))
theorem AFn.frame {P : Program} {I : Inv} {f : FuncId} {args : List V} {R : V → Mem → Prop} (h : AFn P I f (wkL 0 0 args) ⟨[], []⟩ R) (S : Mem) : AFn P I f args S fun v S' => S' = S ∧ ∃ v0 S0, R v0 S0 ∧ v = wk 0 0 v0 := by
 refine ⟨h.1, fun c w xs h1 h2 h3 hI cs => ?_⟩
 have hM := h3.M_in
 have hc1 : ∀ g k, (c.bare w hM).M g k ↔ c.M g k := by
  intro g k
  constructor
  ·rintro ((h' | h') | ⟨t, i, off, ht, _⟩)
   ·exact h'
   ·simp [Cx.bare] at h'
   ·simp [Cx.bare] at ht
  ·exact fun h' => .inl (.inl h')
 have hr : Rep (c.bare w hM) w ⟨[], []⟩ :=
  ⟨⟨by have := h3.hB; show c.I.top ≤ w.heap.size; omega, Nat.le_refl _⟩, rfl, fun i b h => by simp [Cx.bare] at h, fun i j b h => by simp [Cx.bare] at h, rfl, fun t i h => by simp [Cx.bare] at h, fun t t' i i' g off off' h => by simp [Cx.bare] at h,
    fun w' hw => h3.inv w' (hw.mono h3.hB.2)⟩
 have hwl : (wkL 0 0 args).length = args.length := by rw [wkL_map, List.length_map]
 obtain ⟨e, w', fr, ⟨v, x, S0, c', rfl, a2, a3, a4, a5⟩, r⟩ := h.2 (c.bare w hM) w xs (by rw [hwl]; exact h1) (fun j hj => by
  have hj' : j < args.length := by rw [← hwl]; exact hj
  have e : (wkL 0 0 args)[j] = wk 0 0 args[j] := by simp [wkL_map]
  rw [e]
  exact (h2 j hj').move fun g k h' => (hc1 g k).1 h') hr hI cs
 have hb : Below w.heap.size w w' := a4.below
 obtain ⟨q1, q2⟩ := h3.under hb
 refine ⟨.returned x, w', fr, ⟨wk 0 0 v, x, S, c, rfl, ⟨rfl, v, S0, a2, rfl⟩, q1, q2, ?_⟩, r⟩
 refine a5.move fun g k hm => ?_
 have hX : c'.X = c.M := a4.X
 refine .inl (.inl ?_)
 show c'.X g k
 rw [hX]
 exact hm
theorem AFn.same {P : Program} {I : Inv} {f : FuncId} {args : List V} {v : V} (h : AFn P I f args ⟨[], []⟩ (Same v ⟨[], []⟩)) (hd : wkL 0 0 args = args) (hv : wk 0 0 v = v) (S : Mem) : AFn P I f args S (Same v S) :=
 AFn.mono (AFn.frame (R := Same v ⟨[], []⟩) (by rw [hd]; exact h) S) fun v' S' h => by
  obtain ⟨h1, v0, S0, ⟨h2, _⟩, h3⟩ := h
  exact ⟨by rw [h3, h2, hv], h1⟩
end Go.Ab
namespace Go.Av
def simQ : Bool → List UInt8 → Bool
 | st, [] => !st
 | st, c :: r => (letterB c || (!st && digitB c)) && simQ false r
def fullQ : Bool → List UInt8 → Bool
 | st, [] => !st
 | st, c :: r => if c.toNat = 46 then !st && fullQ true r else (letterB c || (!st && digitB c)) && fullQ false r
def simpleS (l : List UInt8) : Bool := simQ true l
def SimpleS (l : List UInt8) : Bool := decide (l.length ≤ 100) && simpleS l
def fullP (l : List UInt8) : Bool := fullQ true l
def FullS (l : List UInt8) : Bool := decide (l.length ≤ 100) && fullP l
def noDot (l : List UInt8) : Prop := ∀ c ∈ l, ¬ c.toNat = 46
theorem dot_of {c : UInt8} (h : c.toNat = 46) : c = 46 := by
 apply UInt8.toNat.inj
 rw [h]
 rfl
theorem fullQ_sim (st : Bool) (l : List UInt8) (h : noDot l) : fullQ st l = simQ st l := by
 induction l generalizing st with
 | nil => rfl
 | cons c r ih =>
  unfold fullQ simQ
  rw [if_neg (h c (List.mem_cons_self ..)), ih _ fun d hd => h d (List.mem_cons_of_mem _ hd)]
theorem fullQ_join (st : Bool) (a b : List UInt8) : fullQ st (a ++ 46 :: b) = (fullQ st a && fullQ true b) := by
 induction a generalizing st with
 | nil => simp [fullQ]
 | cons c r ih =>
  rw [List.cons_append]
  show (if c.toNat = 46 then !st && fullQ true (r ++ 46 :: b) else (letterB c || (!st && digitB c)) && fullQ false (r ++ 46 :: b)) = ((if c.toNat = 46 then !st && fullQ true r else (letterB c || (!st && digitB c)) && fullQ false r) && fullQ true b)
  rw [ih, ih]
  split
  ·rw [Bool.and_assoc]
  ·rw [Bool.and_assoc]
theorem fullP_sim (l : List UInt8) (h : noDot l) : fullP l = simpleS l := fullQ_sim _ _ h
theorem fullP_join (a b : List UInt8) : fullP (a ++ 46 :: b) = (fullP a && fullP b) := fullQ_join _ _ _
def lastTo (l : List UInt8) : Nat → Int
 | 0 => -1
 | k + 1 => if (l.getD k 0).toNat = 46 then k else lastTo l k
def lastDot (l : List UInt8) : Int := lastTo l l.length
theorem lastTo_hit (l : List UInt8) (k : Nat) (h : (l.getD k 0).toNat = 46) : lastTo l (k + 1) = k := if_pos h
theorem lastTo_miss (l : List UInt8) (k : Nat) (h : ¬ (l.getD k 0).toNat = 46) : lastTo l (k + 1) = lastTo l k := if_neg h
theorem lastTo_prop (l : List UInt8) : ∀ k, k ≤ l.length → (lastTo l k = -1 ∧ noDot (l.take k)) ∨ ∃ m : Nat, lastTo l k = (m : Int) ∧ m < k ∧ l = l.take m ++ 46 :: l.drop (m + 1) ∧ noDot ((l.take k).drop (m + 1))
 | 0, _ => .inl ⟨rfl, by intro c hc; simp at hc⟩
 | k + 1, hk => by
  have hlt : k < l.length := hk
  have ht : l.take (k + 1) = l.take k ++ [l[k]] := (List.take_succ_eq_append_getElem hlt)
  by_cases h : (l.getD k 0).toNat = 46
  ·right
   refine ⟨k, lastTo_hit l k h, by omega, ?_, ?_⟩
   ·have : l[k] = 46 := dot_of (by simpa [List.getD, hlt] using h)
    conv => lhs; rw [← List.take_append_drop k l, List.drop_eq_getElem_cons hlt, this]
   ·intro c hc
    rw [List.drop_eq_nil_of_le (by rw [List.length_take]; omega)] at hc
    cases hc
  ·rw [lastTo_miss l k h]
   have hne : ∀ c ∈ [l[k]], ¬ c.toNat = 46 := by
    intro c hc
    rw [List.mem_singleton.1 hc]
    simpa [List.getD, hlt] using h
   rcases lastTo_prop l k (by omega) with ⟨h1, h2⟩ | ⟨m, h1, h2, h3, h4⟩
   ·refine .inl ⟨h1, ?_⟩
    rw [ht]
    intro c hc
    rcases List.mem_append.1 hc with hc | hc
    ·exact h2 c hc
    ·exact hne c hc
   ·refine .inr ⟨m, h1, by omega, h3, ?_⟩
    rw [ht, List.drop_append_of_le_length (by rw [List.length_take]; omega)]
    intro c hc
    rcases List.mem_append.1 hc with hc | hc
    ·exact h4 c hc
    ·exact hne c hc
theorem lastDot_prop (l : List UInt8) : (lastDot l = -1 ∧ noDot l) ∨ ∃ m : Nat, lastDot l = (m : Int) ∧ m < l.length ∧ l = l.take m ++ 46 :: l.drop (m + 1) ∧ noDot (l.drop (m + 1)) := by
 have := lastTo_prop l l.length (Nat.le_refl _)
 rw [List.take_length] at this
 exact this
def wordsN : List (List UInt8) := [[], [110, 117, 108, 108], [98, 111, 111, 108, 101, 97, 110], [105, 110, 116], [108, 111, 110, 103], [102, 108, 111, 97, 116], [100, 111, 117, 98, 108, 101], [98, 121, 116, 101, 115], [115, 116, 114, 105, 110, 103], [114, 101, 99, 111, 114, 100], [101, 110, 117, 109], [97, 114, 114, 97, 121], [109, 97, 112], [], [102, 105, 120, 101, 100]]
def wordS (k : Int) : List UInt8 := if 0 ≤ k ∧ k < 15 then wordsN.getD k.toNat [] else []
def kindF (l : List UInt8) : Nat → Nat
 | 0 => 0
 | n + 1 => if wordsN.getD (14 - n) [] = l ∧ ¬ l = [] then 14 - n else kindF l n
def kindS (l : List UInt8) : Nat := kindF l 15
theorem kindS_14 (l : List UInt8) : kindS l = kindF l 14 := by
 show (if wordsN.getD (14 - 14) [] = l ∧ ¬ l = [] then 14 - 14 else kindF l 14) = _
 rw [if_neg]
 rintro ⟨h, h'⟩
 exact h' h.symm
end Go.Av
namespace Go.Proofs.YtkgbbcnjkojocaaGreatDoor
open Go.RowKit Go.Av
theorem str_nil (s : ByteArray) : (s.toList == []) = decide (s.size = 0) := by
 rw [ByteArray.toList_eq, Bool.eq_iff_iff, beq_iff_eq, decide_eq_true_iff, ← List.length_eq_zero_iff]
 have : s.data.toList.length = s.size := by simp
 rw [this]
theorem str_at (s : ByteArray) (k : Nat) (h : k < s.size) : s.data.toList[k]? = some s[k] := by
 rw [List.getElem?_eq_getElem (by simpa using h)]
 rfl
set_option maxRecDepth 100000 in
set_option maxHeartbeats 400000 in
theorem nLetter (c : UInt8) (x : Int) (hx : (c.toNat : Int) = x) (w : World) : Calls Tryz.prog 79 #[.int .u8 x] w fun e w' => e = .returned (.bool (letterB c)) ∧ w = w' := by
 have hc : x < 256 := by have := c.toNat_lt; omega
 have hr : letterB c = true ↔ (97 ≤ x ∧ x ≤ 122 ∨ 65 ≤ x ∧ x ≤ 90 ∨ x = 95) := by
  unfold letterB
  rw [decide_eq_true_iff]
  omega
 generalize letterB c = r at hr ⊢
 have h0 : 0 ≤ x := by omega
 clear hx
 by_cases h1 : 97 ≤ x <;> by_cases h2 : x ≤ 122 <;> by_cases h3 : 65 ≤ x <;> by_cases h4 : x ≤ 90 <;> by_cases h5 : x = 95 <;> first | omega | skip
 all_goals
  first | (have e5 : (x == 95) = true := by simpa using h5) | (have e5 : (x == 95) = false := by simpa using h5)
  cases r <;> simp [h1, h2, h3, h4, h5] at hr
  go_enter Tryz.func79, Tryz.ntmps79
  go_wp2_with fail
  go_ret
  exact ⟨rfl, rfl⟩
set_option maxRecDepth 100000 in
set_option maxHeartbeats 400000 in
theorem nrLetter (c : UInt8) (x : Int) (hx : (c.toNat : Int) = x) (w : World) : Calls Tryz.prog 94 #[.int .u8 x] w fun e w' => e = .returned (.bool (letterB c)) ∧ w = w' := by
 have hc : x < 256 := by have := c.toNat_lt; omega
 have hr : letterB c = true ↔ (97 ≤ x ∧ x ≤ 122 ∨ 65 ≤ x ∧ x ≤ 90 ∨ x = 95) := by
  unfold letterB
  rw [decide_eq_true_iff]
  omega
 generalize letterB c = r at hr ⊢
 have h0 : 0 ≤ x := by omega
 clear hx
 by_cases h1 : 97 ≤ x <;> by_cases h2 : x ≤ 122 <;> by_cases h3 : 65 ≤ x <;> by_cases h4 : x ≤ 90 <;> by_cases h5 : x = 95 <;> first | omega | skip
 all_goals
  first | (have e5 : (x == 95) = true := by simpa using h5) | (have e5 : (x == 95) = false := by simpa using h5)
  cases r <;> simp [h1, h2, h3, h4, h5] at hr
  go_enter Tryz.func94, Tryz.ntmps94
  go_wp2_with fail
  go_ret
  exact ⟨rfl, rfl⟩
set_option maxRecDepth 100000 in
set_option maxHeartbeats 400000 in
theorem nrDigit (c : UInt8) (x : Int) (hx : (c.toNat : Int) = x) (w : World) : Calls Tryz.prog 95 #[.int .u8 x] w fun e w' => e = .returned (.bool (digitB c)) ∧ w = w' := by
 have hc : x < 256 := by have := c.toNat_lt; omega
 have hr : digitB c = true ↔ (48 ≤ x ∧ x ≤ 57) := by
  unfold digitB
  rw [decide_eq_true_iff]
  omega
 generalize digitB c = r at hr ⊢
 have h0 : 0 ≤ x := by omega
 clear hx
 by_cases h1 : 48 ≤ x <;> by_cases h2 : x ≤ 57 <;> first | omega | skip
 all_goals
  cases r <;> simp [h1, h2] at hr
  go_enter Tryz.func95, Tryz.ntmps95
  go_wp2_with fail
  go_ret
  exact ⟨rfl, rfl⟩
theorem simQ_step (l : List UInt8) (k : Nat) (st : Bool) (c : UInt8) (h : l[k]? = some c) : simQ st (l.drop k) = ((letterB c || (!st && digitB c)) && simQ false (l.drop (k + 1))) := by
 rw [drop_cons_of h]
 rfl
set_option maxRecDepth 100000 in
set_option maxHeartbeats 400000 in
theorem nsimple (s : ByteArray) (w : World) (hs : s.size ≤ 9223372036854775807) : Calls Tryz.prog 58 #[.string s] w fun e w' => e = .returned (.bool (simpleS s.data.toList)) ∧ w = w' := by
 go_enter Tryz.func58, Tryz.ntmps58
 go_wp2_with fail
 go_loop [6] (fun i => ∃ k : Nat, i = .int .i64 k ∧ k ≤ s.size ∧ Hid (simpleS s.data.toList = simQ (decide (k = 0)) (s.data.toList.drop k))) (fun i => (s.size - intOf i).toNat)
 case atStart => exact ⟨0, rfl, by omega, Lib.hid rfl⟩
 case round =>
  obtain ⟨k, rfl, hk, HR⟩ := hrel
  by_cases hlt : k < s.size
  ·have hst := simQ_step s.data.toList k (decide (k = 0)) s[k] (str_at s k hlt)
   rw [← HR.out] at hst
   have HST := Lib.hid hst
   clear hst HR
   have hc : (s[k].toNat : Int) < 256 := by have := s[k].toNat_lt; omega
   by_cases hl : letterB s[k] = true
   ·go_wp2_with fail
    refine (nLetter s[k] _ rfl _).mono ?_
    rintro e w1 ⟨rfl, rfl⟩
    rw [hl]
    have HG : Hid (simpleS s.data.toList = simQ (decide (k + 1 = 0)) (s.data.toList.drop (k + 1))) := by
     unfold Hid
     rw [HST.out, hl]
     rfl
    clear hl
    go_wp2_with fail
    go_round
    case rel => exact ⟨k + 1, by go_num, by omega, HG⟩
    case measure => simp [intOf]; omega
   ·have hl' : letterB s[k] = false := by simpa using hl
    have hnd : (48 ≤ (s[k].toNat : Int) ∧ (s[k].toNat : Int) ≤ 57) ↔ digitB s[k] = true := by
     unfold digitB
     rw [decide_eq_true_iff]
     omega
    by_cases hk0 : k = 0
    ·subst hk0
     have HB : Hid (simpleS s.data.toList = false) := by
      unfold Hid
      rw [HST.out, hl']
      rfl
     clear hnd
     go_wp2_with fail
     refine (nLetter s[0] _ rfl _).mono ?_
     rintro e w1 ⟨rfl, rfl⟩
     rw [hl']
     go_wp2_with fail
     go_ret
     exact ⟨by rw [HB.out]; rfl, rfl⟩
    ·have hdk : decide (k = 0) = false := by simpa using hk0
     rw [hdk, hl'] at HST
     have hk0' : ((k : Int) == 0) = false := by simp; omega
     by_cases hd : digitB s[k] = true
     ·have hd2 := hnd.2 hd
      have h1 : ¬ (s[k].toNat : Int) < 48 := by omega
      have h2 : ¬ (s[k].toNat : Int) > 57 := by omega
      have HG : Hid (simpleS s.data.toList = simQ (decide (k + 1 = 0)) (s.data.toList.drop (k + 1))) := by
       unfold Hid
       rw [HST.out, hd]
       rfl
      clear hd hnd HST
      go_wp2_with fail
      refine (nLetter s[k] _ rfl _).mono ?_
      rintro e w1 ⟨rfl, rfl⟩
      rw [hl']
      clear hl' hl
      go_wp2_with fail
      go_round
      case rel => exact ⟨k + 1, by go_num, by omega, HG⟩
      case measure => simp [intOf]; omega
     ·have hd' : digitB s[k] = false := by simpa using hd
      have hdn : (s[k].toNat : Int) < 48 ∨ (¬ (s[k].toNat : Int) < 48) ∧ (s[k].toNat : Int) > 57 := by
       have := mt hnd.1 hd
       omega
      have HB : Hid (simpleS s.data.toList = false) := by
       unfold Hid
       rw [HST.out, hd']
       rfl
      clear hd hd' hnd HST
      rcases hdn with h1 | ⟨h1, h2⟩
      all_goals
       go_wp2_with fail
       refine (nLetter s[k] _ rfl _).mono ?_
       rintro e w1 ⟨rfl, rfl⟩
       rw [hl']
       go_wp2_with fail
       go_ret
       exact ⟨by rw [HB.out]; rfl, rfl⟩
  ·have HR' : simpleS s.data.toList = !(decide (k = 0)) := by
    rw [HR.out, List.drop_eq_nil_of_le (by simp; omega)]
    rfl
   have hke : k = s.size := by omega
   subst hke
   by_cases h0 : s.size = 0
   ·have e : (s.toList == []) = true := by rw [str_nil]; simpa using h0
    have HE : Hid (simpleS s.data.toList = false) := by
     unfold Hid
     rw [HR']
     simpa using h0
    clear HR HR' h0
    go_wp2_with fail
    go_ret
    exact ⟨by rw [HE.out]; first | done | rfl, rfl⟩
   ·have e : (s.toList == []) = false := by rw [str_nil]; simpa using h0
    have HE : Hid (simpleS s.data.toList = true) := by
     unfold Hid
     rw [HR']
     simpa using h0
    clear HR HR' h0
    go_wp2_with fail
    go_ret
    exact ⟨by rw [HE.out]; first | done | rfl, rfl⟩
set_option maxRecDepth 100000 in
set_option maxHeartbeats 400000 in
theorem nSimple (s : ByteArray) (w : World) (hs : s.size ≤ 9223372036854775807) : Calls Tryz.prog 55 #[.string s] w fun e w' => e = .returned (.bool (SimpleS s.data.toList)) ∧ w = w' := by
 have hsz : s.data.toList.length = s.size := by simp
 by_cases h : s.size ≤ 100
 ·have HS : Hid (SimpleS s.data.toList = simpleS s.data.toList) := by
   unfold Hid SimpleS
   rw [decide_eq_true (by omega)]
   rfl
  rw [HS.out]
  go_enter Tryz.func55, Tryz.ntmps55
  go_wp2_with fail
  refine (nsimple s _ hs).mono ?_
  rintro e w1 ⟨rfl, rfl⟩
  go_wp2_with fail
  go_ret
  exact ⟨rfl, rfl⟩
 ·have HS : Hid (SimpleS s.data.toList = false) := by
   unfold Hid SimpleS
   rw [decide_eq_false (by omega)]
   rfl
  rw [HS.out]
  go_enter Tryz.func55, Tryz.ntmps55
  go_wp2_with fail
  go_ret
  exact ⟨rfl, rfl⟩
theorem simQ_first (l : List UInt8) (c : UInt8) (h : l[0]? = some c) (hc : letterB c = true) : simQ true l = simQ false l := by
 have := simQ_step l 0 true c h
 have := simQ_step l 0 false c h
 simp_all
set_option maxRecDepth 100000 in
set_option maxHeartbeats 400000 in
theorem nrSimple (s : ByteArray) (w : World) (hs : s.size ≤ 9223372036854775807) : Calls Tryz.prog 82 #[.string s] w fun e w' => e = .returned (.bool (SimpleS s.data.toList)) ∧ w = w' := by
 have hsz : s.data.toList.length = s.size := by simp
 by_cases h0 : s.size = 0
 ·have HS : Hid (SimpleS s.data.toList = false) := by
   have : s.data.toList = [] := by simpa [← List.length_eq_zero_iff] using h0
   unfold Hid
   rw [this]
   rfl
  rw [HS.out]
  have h0' : ((s.size : Int) == 0) = true := by simpa using h0
  clear HS
  go_enter Tryz.func82, Tryz.ntmps82
  go_wp2_with fail
  go_ret
  exact ⟨rfl, rfl⟩
 have h0' : ((s.size : Int) == 0) = false := beq_eq_false_iff_ne.2 (by omega)
 by_cases h : s.size > 100
 ·have HS : Hid (SimpleS s.data.toList = false) := by
   unfold Hid SimpleS
   rw [decide_eq_false (by omega)]
   rfl
  rw [HS.out]
  clear HS
  go_enter Tryz.func82, Tryz.ntmps82
  go_wp2_with fail
  go_ret
  exact ⟨rfl, rfl⟩
 have HS : Hid (SimpleS s.data.toList = simQ true s.data.toList) := by
  unfold Hid SimpleS
  rw [decide_eq_true (by omega)]
  rfl
 have hlt0 : 0 < s.size := by omega
 have hst := simQ_step s.data.toList 0 true s[0] (str_at s 0 hlt0)
 rw [List.drop_zero] at hst
 by_cases hl : letterB s[0] = true
 ·have HR0 : Hid (SimpleS s.data.toList = simQ false s.data.toList) := by
   unfold Hid
   rw [HS.out]
   exact simQ_first _ _ (str_at s 0 hlt0) hl
  clear HS hst
  go_enter Tryz.func82, Tryz.ntmps82
  go_wp2_with fail
  refine (nrLetter s[0] _ rfl _).mono ?_
  rintro e w1 ⟨rfl, rfl⟩
  rw [hl]
  clear hl
  go_wp2_with fail
  go_loop [3] (fun i => ∃ k : Nat, i = .int .i64 k ∧ k ≤ s.size ∧ Hid (SimpleS s.data.toList = simQ false (s.data.toList.drop k))) (fun i => (s.size - intOf i).toNat)
  case atStart => exact ⟨0, rfl, by omega, HR0⟩
  case round =>
   obtain ⟨k, rfl, hk, HR⟩ := hrel
   by_cases hlt : k < s.size
   ·have hst := simQ_step s.data.toList k false s[k] (str_at s k hlt)
    rw [← HR.out] at hst
    have HST := Lib.hid hst
    clear hst HR HR0
    by_cases hl : letterB s[k] = true
    ·have HG : Hid (SimpleS s.data.toList = simQ false (s.data.toList.drop (k + 1))) := by
      unfold Hid
      rw [HST.out, hl]
      rfl
     go_wp2_with fail
     refine (nrLetter s[k] _ rfl _).mono ?_
     rintro e w1 ⟨rfl, rfl⟩
     rw [hl]
     clear hl
     go_wp2_with fail
     go_round
     case rel => exact ⟨k + 1, by go_num, by omega, HG⟩
     case measure => simp [intOf]; omega
    ·have hl' : letterB s[k] = false := by simpa using hl
     clear hl
     go_wp2_with fail
     refine (nrLetter s[k] _ rfl _).mono ?_
     rintro e w1 ⟨rfl, rfl⟩
     rw [hl']
     go_wp2_with fail
     refine (nrDigit s[k] _ rfl _).mono ?_
     rintro e w1 ⟨rfl, rfl⟩
     by_cases hd : digitB s[k] = true
     ·have HG : Hid (SimpleS s.data.toList = simQ false (s.data.toList.drop (k + 1))) := by
       unfold Hid
       rw [HST.out, hl', hd]
       rfl
      rw [hd]
      clear hd hl'
      go_wp2_with fail
      go_round
      case rel => exact ⟨k + 1, by go_num, by omega, HG⟩
      case measure => simp [intOf]; omega
     ·have hd' : digitB s[k] = false := by simpa using hd
      have HB : Hid (SimpleS s.data.toList = false) := by
       unfold Hid
       rw [HST.out, hl', hd']
       rfl
      rw [hd']
      go_wp2_with fail
      go_ret
      exact ⟨by rw [HB.out]; rfl, rfl⟩
   ·have HE : Hid (SimpleS s.data.toList = true) := by
     unfold Hid
     rw [HR.out, List.drop_eq_nil_of_le (by simp; omega)]
     rfl
    clear HR HR0
    go_wp2_with fail
    go_ret
    exact ⟨by rw [HE.out]; first | done | rfl, rfl⟩
 ·have hl' : letterB s[0] = false := by simpa using hl
  have HB : Hid (SimpleS s.data.toList = false) := by
   unfold Hid
   rw [HS.out, hst, hl']
   rfl
  clear hl HS hst
  go_enter Tryz.func82, Tryz.ntmps82
  go_wp2_with fail
  refine (nrLetter s[0] _ rfl _).mono ?_
  rintro e w1 ⟨rfl, rfl⟩
  rw [hl']
  go_wp2_with fail
  go_ret
  exact ⟨by rw [HB.out]; rfl, rfl⟩
theorem str_getD (s : ByteArray) (k : Nat) (h : k < s.size) : s.data.toList.getD k 0 = s[k] := by
 rw [List.getD_eq_getElem?_getD, str_at s k h]
 rfl
theorem len_size (s : ByteArray) : s.data.toList.length = s.size := by simp
set_option maxRecDepth 100000 in
set_option maxHeartbeats 400000 in
theorem rDot (s : ByteArray) (w : World) (hs : s.size ≤ 9223372036854775807) : Calls Tryz.prog 81 #[.string s] w fun e w' => e = .returned (.int .i64 (lastDot s.data.toList)) ∧ w = w' := by
 have h0 : Hid (lastDot s.data.toList = lastTo s.data.toList s.size) := by
  unfold Hid lastDot
  rw [len_size]
 go_enter Tryz.func81, Tryz.ntmps81
 go_wp2_with fail
 go_loop [3, 4] (fun a i => ∃ k : Nat, i = .int .i64 k ∧ k ≤ s.size ∧ Hid (a = .int .i64 (lastTo s.data.toList k))) (fun _ i => (s.size - intOf i).toNat)
 case atStart => exact ⟨0, rfl, by omega, Lib.hid rfl⟩
 case round =>
  obtain ⟨k, rfl, hk, HR⟩ := hrel
  by_cases hlt : k < s.size
  ·have hg := str_getD s k hlt
   by_cases hd : s[k].toNat = 46
   ·have HE := lastTo_hit s.data.toList k (by rw [hg]; exact hd)
    have HE := Lib.hid HE
    have e : ((s[k].toNat : Int) == 46) = true := beq_iff_eq.2 (by omega)
    clear hg hd
    go_wp2_with fail
    exact ⟨⟨k + 1, by go_num, by omega, by unfold Hid; rw [HE.out]⟩, by simp [intOf]; omega⟩
   ·have HE := lastTo_miss s.data.toList k (by rw [hg]; exact hd)
    have HE := Lib.hid HE
    have e : ((s[k].toNat : Int) == 46) = false := beq_eq_false_iff_ne.2 (by omega)
    clear hg hd
    go_wp2_with fail
    exact ⟨⟨k + 1, by go_num, by omega, by unfold Hid; rw [HE.out]; exact HR.out⟩, by simp [intOf]; omega⟩
  ·obtain rfl : k = s.size := by omega
   have HE : Hid (lastDot s.data.toList = lastTo s.data.toList s.size) := h0
   have HR' := HR.out
   rw [← HE.out] at HR'
   subst HR'
   clear HR h0 HE
   go_wp2_with fail
   go_ret
   exact ⟨rfl, rfl⟩
theorem take_str (s : ByteArray) (n : Nat) : s.extract 0 n = ⟨(s.data.toList.take n).toArray⟩ := by
 apply ByteArray.ext
 apply Array.ext'
 simp
set_option maxRecDepth 100000 in
set_option maxHeartbeats 400000 in
theorem idxDot (s : ByteArray) (w : World) : Calls Tryz.prog 93 #[.string s, .string ⟨#[46]⟩] w fun e w' => e = .returned (.int .i64 (Lib.indexByte s.data.toList 46)) ∧ w = w' := by
 by_cases h1 : s.data.toList = [46]
 ·have e1 : ([46] == s.toList) = true := by rw [ByteArray.toList_eq, h1]; rfl
  have H1 : Hid (Lib.indexByte s.data.toList 46 = 0) := by unfold Hid; rw [h1]; rfl
  rw [H1.out]
  clear h1 H1
  go_enter Tryz.func93, Tryz.ntmps93
  go_wp2_with fail
  go_ret
  exact ⟨rfl, rfl⟩
 have e1 : ([46] == s.toList) = false := by rw [ByteArray.toList_eq, beq_eq_false_iff_ne]; exact fun h => h1 h.symm
 clear h1
 go_enter Tryz.func93, Tryz.ntmps93
 go_wp2_with fail
 refine (indexByte0 s 46 _).mono ?_
 rintro e w1 ⟨rfl, rfl⟩
 go_wp2_with fail
 go_ret
 exact ⟨rfl, rfl⟩
theorem firstDot (l : List UInt8) : (Lib.indexByte l 46 = -1 ∧ noDot l) ∨ ∃ m : Nat, Lib.indexByte l 46 = (m : Int) ∧ m < l.length ∧ l = l.take m ++ 46 :: l.drop (m + 1) ∧ noDot (l.take m) := by
 induction l with
 | nil => exact .inl ⟨rfl, by intro c hc; cases hc⟩
 | cons c r ih =>
  by_cases h : c = 46
  ·subst h
   exact .inr ⟨0, by simp [Lib.indexByte], by simp, by simp, by intro c hc; simp at hc⟩
  ·have hn : ¬ c.toNat = 46 := fun e => h (dot_of e)
   rcases ih with ⟨h1, h2⟩ | ⟨m, h1, h2, h3, h4⟩
   ·refine .inl ⟨by simp [Lib.indexByte, h, h1], ?_⟩
    intro d hd
    rcases List.mem_cons.1 hd with rfl | hd
    ·exact hn
    ·exact h2 d hd
   ·refine .inr ⟨m + 1, ?_, by simp; omega, ?_, ?_⟩
    ·simp only [Lib.indexByte, h1]
     rw [if_neg (by simpa using h)]
     simp
     try omega
    ·simp only [List.take_succ_cons, List.cons_append, List.drop_succ_cons]
     rw [← h3]
    ·rw [List.take_succ_cons]
     intro d hd
     rcases List.mem_cons.1 hd with rfl | hd
     ·exact hn
     ·exact h4 d hd
set_option maxRecDepth 100000 in
set_option maxHeartbeats 400000 in
theorem cut_none (s : ByteArray) (w : World) (h : Lib.indexByte s.data.toList 46 = -1) : Calls Tryz.prog 57 #[.string s, .string ⟨#[46]⟩] w fun e w' => e = .returned (.tuple #[.string s, .string ⟨#[]⟩, .bool false]) ∧ w = w' := by
 have h0 : Calls Tryz.prog 78 #[.string s, .string ⟨#[46]⟩] w fun e w' => e = .returned (.tuple #[.string s, .string ⟨#[]⟩, .bool false]) ∧ w = w' := by
  have H := Lib.hid h
  clear h
  go_enter Tryz.func78, Tryz.ntmps78
  go_wp2_with fail
  refine (idxDot s _).mono ?_
  rintro e w1 ⟨rfl, rfl⟩
  rw [H.out]
  go_wp2_with fail
  exact bodyPost_ret (by simp [results, Tryz.results78, go_sem]) rfl ⟨rfl, rfl⟩
 clear h
 go_enter Tryz.func57, Tryz.ntmps57
 go_wp2_with fail
 refine h0.mono ?_
 rintro e w1 ⟨rfl, rfl⟩
 go_wp2_with fail
 exact bodyPost_ret (by simp [results, Tryz.results57, go_sem]) rfl ⟨rfl, rfl⟩
set_option maxRecDepth 100000 in
set_option maxHeartbeats 400000 in
theorem cut_some (s : ByteArray) (w : World) (hs : s.size ≤ 9223372036854775807) (m : Nat) (h : Lib.indexByte s.data.toList 46 = m) (hm : m < s.size) : Calls Tryz.prog 57 #[.string s, .string ⟨#[46]⟩] w fun e w' => e = .returned (.tuple #[.string (s.extract 0 m), .string (s.extract (m + 1) s.size), .bool true]) ∧ Below w.heap.size w w' := by
 have h0 : Calls Tryz.prog 78 #[.string s, .string ⟨#[46]⟩] w fun e w' => e = .returned (.tuple #[.string (s.extract 0 m), .string (s.extract (m + 1) s.size), .bool true]) ∧ Below w.heap.size w w' := by
  have H := Lib.hid h
  clear h
  go_enter Tryz.func78, Tryz.ntmps78
  go_wp2_with fail
  refine (idxDot s _).mono ?_
  rintro e w1 ⟨rfl, rfl⟩
  rw [H.out]
  go_wp2_with fail
  go_region
  go_wp2_with fail
  exact bodyPost_ret (by simp [results, Tryz.results78, go_sem]) rfl ⟨rfl, (Below.refl _ _).drew⟩
 clear h
 go_enter Tryz.func57, Tryz.ntmps57
 go_wp2_with fail
 refine h0.mono ?_
 rintro e w1 ⟨rfl, hb⟩
 go_wp2_with fail
 exact bodyPost_ret (by simp [results, Tryz.results57, go_sem]) rfl ⟨rfl, hb⟩
def strLen : Value → Nat | .string q => q.size | _ => 0
theorem FullS_small (l : List UInt8) (h : l.length ≤ 100) : FullS l = fullP l := by
 unfold FullS
 rw [decide_eq_true h]
 rfl
theorem FullS_big (l : List UInt8) (h : ¬ l.length ≤ 100) : FullS l = false := by
 unfold FullS
 rw [decide_eq_false h]
 rfl
set_option maxRecDepth 100000 in
set_option maxHeartbeats 400000 in
theorem nFull (s : ByteArray) (w : World) (hs : s.size ≤ 9223372036854775807) : Calls Tryz.prog 33 #[.string s] w fun e w' => e = .returned (.bool (FullS s.data.toList)) ∧ Below w.heap.size w w' := by
 by_cases h : s.size > 100
 ·have HS : Hid (FullS s.data.toList = false) := FullS_big _ (by rw [len_size]; omega)
  rw [HS.out]
  clear HS
  go_enter Tryz.func33, Tryz.ntmps33
  go_wp2_with fail
  go_ret
  exact ⟨rfl, Below.refl _ _⟩
 have HS : Hid (FullS s.data.toList = fullP s.data.toList) := FullS_small _ (by rw [len_size]; omega)
 go_enter Tryz.func33, Tryz.ntmps33
 go_wp2_with fail
 go_loopw [0] (fun v wr => ∃ q : ByteArray, v = .string q ∧ q.size ≤ s.size ∧ Hid (FullS s.data.toList = fullP q.data.toList) ∧ Below w.heap.size w wr) (fun v _ => strLen v)
 case atStart => exact ⟨s, rfl, Nat.le_refl _, HS, Below.refl _ _⟩
 case round =>
  obtain ⟨q, rfl, hq, HR, hb⟩ := hrel
  have hbs := hb.size
  clear HS
  have hqs : q.size ≤ 9223372036854775807 := by omega
  have hqc := fun wz => nsimple q wz hqs
  rcases firstDot q.data.toList with ⟨h1, h2⟩ | ⟨m, h1, h2, h3, h4⟩
  ·have HE : Hid (FullS s.data.toList = simpleS q.data.toList) := by
    unfold Hid
    rw [HR.out, fullP_sim _ h2]
   have H1 := Lib.hid h1
   have HQC := Lib.hid hqc
   clear h1 h2 HR hqc
   go_wp2_with fail
   refine (cut_none q _ H1.out).mono ?_
   rintro e w1 ⟨rfl, rfl⟩
   go_wp2_with fail
   refine (HQC.out _).mono ?_
   rintro e w1 ⟨rfl, rfl⟩
   cases hv : simpleS q.data.toList
   all_goals
    rw [hv] at HE
    clear hv
    go_wp2_with fail
    go_ret
    exact ⟨by rw [HE.out]; first | done | rfl, hb⟩
  ·rw [len_size] at h2
   have HL : Hid (FullS s.data.toList = (simpleS (q.extract 0 m).data.toList && fullP (q.extract (m + 1) q.size).data.toList)) := by
    unfold Hid
    have e1 : (q.extract 0 m).data.toList = q.data.toList.take m := by rw [take_str]
    have e2 : (q.extract (m + 1) q.size).data.toList = q.data.toList.drop (m + 1) := Lib.extract_to_end q (m + 1)
    rw [e1, e2, ← fullP_sim _ h4, ← fullP_join, ← h3]
    exact HR.out
   have H1 := Lib.hid h1
   have hx1 : (q.extract 0 m).size ≤ 9223372036854775807 := by simp; omega
   have hx2 : (q.extract (m + 1) q.size).size ≤ q.size - (m + 1) := by simp
   have HCUT := Lib.hid (fun wz => cut_some q wz hqs m h1 h2)
   clear h1 h3 h4 hqc HR
   generalize q.extract 0 m = qa at HL hx1 HCUT
   generalize q.extract (m + 1) q.size = qb at HL hx2 HCUT
   go_wp2_with fail
   refine (HCUT.out _).mono ?_
   rintro e w1 ⟨rfl, hb1⟩
   have hb2 := hb.trans (hb1.mono hbs)
   go_wp2_with fail
   refine (nsimple qa _ hx1).mono ?_
   rintro e w2 ⟨rfl, rfl⟩
   cases hv : simpleS qa.data.toList
   ·rw [hv] at HL
    clear hv
    go_wp2_with fail
    go_ret
    exact ⟨by rw [HL.out]; first | done | rfl, hb2⟩
   ·rw [hv] at HL
    clear hv
    go_wp2_with fail
    go_roundw
    case rel => exact ⟨qb, rfl, by omega, HL, hb2⟩
    case measure => simp [strLen]; omega
theorem SimpleS_small (l : List UInt8) (h : l.length ≤ 100) : SimpleS l = simpleS l := by
 unfold SimpleS
 rw [decide_eq_true h]
 rfl
set_option maxRecDepth 100000 in
set_option maxHeartbeats 400000 in
theorem nrFull (s : ByteArray) (w : World) (hs : s.size ≤ 9223372036854775807) : Calls Tryz.prog 60 #[.string s] w fun e w' => e = .returned (.bool (FullS s.data.toList)) ∧ w = w' := by
 by_cases h : s.size > 100
 ·have HS : Hid (FullS s.data.toList = false) := FullS_big _ (by rw [len_size]; omega)
  rw [HS.out]
  clear HS
  go_enter Tryz.func60, Tryz.ntmps60
  go_wp2_with fail
  go_ret
  exact ⟨rfl, rfl⟩
 have HS : Hid (FullS s.data.toList = fullP s.data.toList) := FullS_small _ (by rw [len_size]; omega)
 go_enter Tryz.func60, Tryz.ntmps60
 go_wp2_with fail
 go_loop [0] (fun v => ∃ q : ByteArray, v = .string q ∧ q.size ≤ s.size ∧ Hid (FullS s.data.toList = fullP q.data.toList)) (fun v => strLen v)
 case atStart => exact ⟨s, rfl, Nat.le_refl _, HS⟩
 case round =>
  obtain ⟨q, rfl, hq, HR⟩ := hrel
  clear HS
  have hqs : q.size ≤ 9223372036854775807 := by omega
  have hq100 : q.size ≤ 100 := by omega
  have HDOT := Lib.hid (fun wz => rDot q wz hqs)
  rcases lastDot_prop q.data.toList with ⟨h1, h2⟩ | ⟨m, h1, h2, h3, h4⟩
  ·have HE : Hid (FullS s.data.toList = SimpleS q.data.toList) := by
    unfold Hid
    rw [HR.out, fullP_sim _ h2, SimpleS_small _ (by rw [len_size]; exact hq100)]
   have H1 := Lib.hid h1
   clear h1 h2 HR
   go_wp2_with fail
   refine (HDOT.out _).mono ?_
   rintro e w1 ⟨rfl, rfl⟩
   rw [H1.out]
   go_wp2_with fail
   refine (nrSimple q _ hqs).mono ?_
   rintro e w1 ⟨rfl, rfl⟩
   go_wp2_with fail
   go_ret
   exact ⟨by rw [HE.out]; first | done | rfl, rfl⟩
  ·rw [len_size] at h2
   have HL : Hid (FullS s.data.toList = (fullP (q.extract 0 m).data.toList && SimpleS (q.extract (m + 1) q.size).data.toList)) := by
    unfold Hid
    have e1 : (q.extract 0 m).data.toList = q.data.toList.take m := by rw [take_str]
    have e2 : (q.extract (m + 1) q.size).data.toList = q.data.toList.drop (m + 1) := Lib.extract_to_end q (m + 1)
    rw [e1, e2, SimpleS_small _ (by rw [List.length_drop, len_size]; omega), ← fullP_sim _ h4, ← fullP_join, ← h3]
    exact HR.out
   have H1 := Lib.hid h1
   have hx1 : (q.extract 0 m).size ≤ m := by simp; omega
   have hx2 : (q.extract (m + 1) q.size).size ≤ 9223372036854775807 := by simp; omega
   clear h1 h3 h4 HR
   go_wp2_with fail
   refine (HDOT.out _).mono ?_
   rintro e w1 ⟨rfl, rfl⟩
   rw [H1.out]
   go_wp2_with fail
   refine (HDOT.out _).mono ?_
   rintro e w1 ⟨rfl, rfl⟩
   rw [H1.out]
   go_wp2_with fail
   refine (nrSimple _ _ hx2).mono ?_
   rintro e w1 ⟨rfl, rfl⟩
   cases hv : SimpleS (q.extract (m + 1) q.size).data.toList
   ·rw [hv] at HL
    have HL' : Hid (FullS s.data.toList = false) := by unfold Hid; rw [HL.out]; simp
    clear hv HL
    go_wp2_with fail
    go_ret
    exact ⟨by rw [HL'.out]; first | done | rfl, rfl⟩
   ·rw [hv] at HL
    have HL' : Hid (FullS s.data.toList = fullP (q.extract 0 m).data.toList) := by unfold Hid; rw [HL.out]; simp
    clear hv HL
    go_wp2_with fail
    refine (HDOT.out _).mono ?_
    rintro e w1 ⟨rfl, rfl⟩
    rw [H1.out]
    go_wp2_with fail
    go_round
    case rel => exact ⟨q.extract 0 m, rfl, by omega, HL'⟩
    case measure => simp [strLen]; omega
set_option maxRecDepth 100000 in
set_option maxHeartbeats 400000 in
theorem nrWord (k : Int) (w : World) : Calls Tryz.prog 83 #[.int .i64 k] w fun e w' => e = .returned (.string ⟨(wordS k).toArray⟩) ∧ w = w' := by
 by_cases h : k = 1 ∨ k = 2 ∨ k = 3 ∨ k = 4 ∨ k = 5 ∨ k = 6 ∨ k = 7 ∨ k = 8 ∨ k = 9 ∨ k = 10 ∨ k = 11 ∨ k = 12 ∨ k = 14
 ·rcases h with rfl | rfl | rfl | rfl | rfl | rfl | rfl | rfl | rfl | rfl | rfl | rfl | rfl
  all_goals
   go_enter Tryz.func83, Tryz.ntmps83
   go_wp2_with fail
   go_ret
   exact ⟨rfl, rfl⟩
 ·have hw : Hid (wordS k = []) := by
   unfold Hid wordS
   split
   ·have : k = 0 ∨ k = 13 := by omega
    rcases this with rfl | rfl <;> rfl
   ·rfl
  have e1 : (k == 1) = false := beq_eq_false_iff_ne.2 (by omega)
  have e2 : (k == 2) = false := beq_eq_false_iff_ne.2 (by omega)
  have e3 : (k == 3) = false := beq_eq_false_iff_ne.2 (by omega)
  have e4 : (k == 4) = false := beq_eq_false_iff_ne.2 (by omega)
  have e5 : (k == 5) = false := beq_eq_false_iff_ne.2 (by omega)
  have e6 : (k == 6) = false := beq_eq_false_iff_ne.2 (by omega)
  have e7 : (k == 7) = false := beq_eq_false_iff_ne.2 (by omega)
  have e8 : (k == 8) = false := beq_eq_false_iff_ne.2 (by omega)
  have e9 : (k == 9) = false := beq_eq_false_iff_ne.2 (by omega)
  have e10 : (k == 10) = false := beq_eq_false_iff_ne.2 (by omega)
  have e11 : (k == 11) = false := beq_eq_false_iff_ne.2 (by omega)
  have e12 : (k == 12) = false := beq_eq_false_iff_ne.2 (by omega)
  have e14 : (k == 14) = false := beq_eq_false_iff_ne.2 (by omega)
  rw [hw.out]
  clear h hw
  go_enter Tryz.func83, Tryz.ntmps83
  go_wp2_with fail
  go_ret
  exact ⟨rfl, rfl⟩
theorem kindF_step (l : List UInt8) (k : Nat) (hk : k < 15) : kindF l (15 - k) = if wordsN.getD k [] = l ∧ ¬ l = [] then k else kindF l (15 - (k + 1)) := by
 have : 15 - k = (14 - k) + 1 := by omega
 rw [this]
 show (if wordsN.getD (14 - (14 - k)) [] = l ∧ ¬ l = [] then 14 - (14 - k) else kindF l (14 - k)) = _
 have e : 14 - (14 - k) = k := by omega
 rw [e, show 15 - (k + 1) = 14 - k by omega]
set_option maxRecDepth 100000 in
set_option maxHeartbeats 400000 in
theorem nrKind (s : ByteArray) (w : World) : Calls Tryz.prog 61 #[.string s] w fun e w' => e = .returned (.int .i64 (kindS s.data.toList : Int)) ∧ w = w' := by
 have H0 : Hid (kindS s.data.toList = kindF s.data.toList (15 - 1)) := kindS_14 _
 go_enter Tryz.func61, Tryz.ntmps61
 go_wp2_with fail
 go_loop [3] (fun i => ∃ k : Nat, i = .int .i64 k ∧ k ≤ 15 ∧ 1 ≤ k ∧ Hid (kindS s.data.toList = kindF s.data.toList (15 - k))) (fun i => (15 - intOf i).toNat)
 case atStart => exact ⟨1, rfl, by omega, by omega, H0⟩
 case round =>
  obtain ⟨k, rfl, hk, hk1, HR⟩ := hrel
  clear H0
  by_cases hlt : k < 15
  ·have hst := kindF_step s.data.toList k hlt
   rw [← HR.out] at hst
   have hw : wordS k = wordsN.getD k [] := by
    unfold wordS
    rw [if_pos (by omega)]
    simp
   rw [← hw] at hst
   have HST := Lib.hid hst
   clear hst HR hw
   have hkk : (k : Int) ≤ 14 := by omega
   cases hn : (s.toList == [])
   ·have hn' : ¬ s.data.toList = [] := by
     rw [ByteArray.toList_eq, beq_eq_false_iff_ne] at hn
     exact hn
    have HN := Lib.hid hn'
    clear hn'
    cases hq : ((wordS k) == s.toList)
    ·have hq' : ¬ wordS k = s.data.toList := by
      rw [ByteArray.toList_eq, beq_eq_false_iff_ne] at hq
      exact hq
     have HG : Hid (kindS s.data.toList = kindF s.data.toList (15 - (k + 1))) := by
      unfold Hid
      rw [HST.out, if_neg (fun h => hq' h.1)]
     clear hq' HST
     go_wp2_with fail
     refine (nrWord k _).mono ?_
     rintro e w1 ⟨rfl, rfl⟩
     go_wp2_with fail
     go_round
     case rel => exact ⟨k + 1, by go_num, by omega, by omega, HG⟩
     case measure => simp [intOf]; omega
    ·have hq' : wordS k = s.data.toList := by
      rw [ByteArray.toList_eq, beq_iff_eq] at hq
      exact hq
     have HG : Hid (kindS s.data.toList = k) := by
      unfold Hid
      rw [HST.out, if_pos ⟨hq', HN.out⟩]
     clear hq' HST
     go_wp2_with fail
     refine (nrWord k _).mono ?_
     rintro e w1 ⟨rfl, rfl⟩
     go_wp2_with fail
     go_ret
     exact ⟨by rw [HG.out]; first | done | rfl, rfl⟩
   ·have hn' : s.data.toList = [] := by
     rw [ByteArray.toList_eq, beq_iff_eq] at hn
     exact hn
    have HG : Hid (kindS s.data.toList = kindF s.data.toList (15 - (k + 1))) := by
     unfold Hid
     rw [HST.out, if_neg (fun h => h.2 hn')]
    clear hn' HST
    go_wp2_with fail
    go_round
    case rel => exact ⟨k + 1, by go_num, by omega, by omega, HG⟩
    case measure => simp [intOf]; omega
  ·have HE : Hid (kindS s.data.toList = 0) := by
    unfold Hid
    rw [HR.out, show 15 - k = 0 by omega]
    rfl
   have hkk : ¬ (k : Int) ≤ 14 := by omega
   clear HR
   go_wp2_with fail
   go_ret
   exact ⟨by rw [HE.out]; first | done | rfl, rfl⟩
def textsV (l : List (List UInt8)) : Array Value := (l.map fun s => Value.string ⟨s.toArray⟩).toArray
def TabN (w : World) : Prop := ∃ t fr, w.heap[0]? = some (.cells (textsV wordsN) t fr)
theorem TabN.size {w : World} (h : TabN w) : 0 < w.heap.size := by
 obtain ⟨t, fr, h1⟩ := h
 exact (Array.getElem?_eq_some_iff.1 h1).1
theorem TabN.below {w w' : World} (h : TabN w) (hb : Below w.heap.size w w') : TabN w' := by
 have hs := h.size
 obtain ⟨t, fr, h1⟩ := h
 exact ⟨t, fr, by rw [hb.block _ hs]; exact h1⟩
theorem TabN.cell {w : World} (h : TabN w) (k : Nat) (hk : k < 15) : w.cell? ⟨0, k, none⟩ = some (.string ⟨(wordsN.getD k []).toArray⟩) := by
 obtain ⟨t, fr, h1⟩ := h
 simp only [World.cell?, h1]
 have : k = 0 ∨ k = 1 ∨ k = 2 ∨ k = 3 ∨ k = 4 ∨ k = 5 ∨ k = 6 ∨ k = 7 ∨ k = 8 ∨ k = 9 ∨ k = 10 ∨ k = 11 ∨ k = 12 ∨ k = 13 ∨ k = 14 := by omega
 rcases this with rfl | rfl | rfl | rfl | rfl | rfl | rfl | rfl | rfl | rfl | rfl | rfl | rfl | rfl | rfl <;> rfl
theorem idx_words (k : Nat) (hk : k < 15) : ∀ W, (Instr.index 122 (.agg (textsV wordsN)) (.int .i64 (k : Int))).run Tryz.prog W = .ok (.string ⟨(wordsN.getD k []).toArray⟩) W := by
 intro W
 have : k = 0 ∨ k = 1 ∨ k = 2 ∨ k = 3 ∨ k = 4 ∨ k = 5 ∨ k = 6 ∨ k = 7 ∨ k = 8 ∨ k = 9 ∨ k = 10 ∨ k = 11 ∨ k = 12 ∨ k = 13 ∨ k = 14 := by omega
 rcases this with rfl | rfl | rfl | rfl | rfl | rfl | rfl | rfl | rfl | rfl | rfl | rfl | rfl | rfl | rfl
 all_goals
  show _ = _
  kernel_rfl
set_option maxRecDepth 100000 in
set_option maxHeartbeats 400000 in
theorem nKind (s : ByteArray) (w : World) (ht : TabN w) : Calls Tryz.prog 51 #[.string s] w fun e w' => e = .returned (.int .i64 (kindS s.data.toList : Int)) ∧ w = w' := by
 obtain ⟨t, fr, hkeys⟩ := ht
 have HK := Lib.hid hkeys
 clear hkeys
 have hi := idx_words
 generalize hkv : textsV wordsN = kv at HK hi
 have hsz : (Tryz.prog.info? 122).map (·.size) = some kv.size := by rw [← hkv]; kernel_rfl
 have HS := Lib.hid hsz
 have HI := Lib.hid hi
 clear hkv hsz hi
 go_enter Tryz.func51, Tryz.ntmps51
 go_wp2_with (refine wpList_load_row rfl 122 _ rfl 0 rfl _ kv _ _ HK.out Tryz.underlying122 rfl HS.out ?_)
 go_loop [6] (fun i => ∃ k : Nat, i = .int .i64 k ∧ k ≤ 15 ∧ Hid (kindS s.data.toList = kindF s.data.toList (15 - k))) (fun i => (15 - intOf i).toNat)
 case atStart => exact ⟨0, rfl, by omega, Lib.hid rfl⟩
 case round =>
  obtain ⟨k, rfl, hk, HR⟩ := hrel
  by_cases hlt : k < 15
  ·have hik := HI.out k hlt
   have hst := kindF_step s.data.toList k hlt
   rw [← HR.out] at hst
   generalize wordsN.getD k [] = q at hik hst
   have HST := Lib.hid hst
   clear hst HR
   by_cases hq : q = s.data.toList
   ·have e : (q == s.toList) = true := by rw [ByteArray.toList_eq]; simpa using hq
    by_cases hn : s.data.toList = []
    ·have en : (s.toList == []) = true := by rw [ByteArray.toList_eq]; simpa using hn
     have HG : Hid (kindS s.data.toList = kindF s.data.toList (15 - (k + 1))) := by
      unfold Hid
      rw [HST.out, if_neg (fun h => h.2 hn)]
     clear hq hn HST
     go_wp2_with fail
     go_round
     case rel => exact ⟨k + 1, by go_num, by omega, HG⟩
     case measure => simp [intOf]; omega
    ·have en : (s.toList == []) = false := by rw [ByteArray.toList_eq]; simpa using hn
     have HG : Hid (kindS s.data.toList = k) := by
      unfold Hid
      rw [HST.out, if_pos ⟨hq, hn⟩]
     clear hq hn HST
     go_wp2_with fail
     go_ret
     exact ⟨by rw [HG.out]; first | done | rfl, rfl⟩
   ·have e : (q == s.toList) = false := by rw [ByteArray.toList_eq]; simpa using hq
    have HG : Hid (kindS s.data.toList = kindF s.data.toList (15 - (k + 1))) := by
     unfold Hid
     rw [HST.out, if_neg (fun h => hq h.1)]
    clear hq HST
    go_wp2_with fail
    go_round
    case rel => exact ⟨k + 1, by go_num, by omega, HG⟩
    case measure => simp [intOf]; omega
  ·have HE : Hid (kindS s.data.toList = 0) := by
    unfold Hid
    rw [HR.out, show 15 - k = 0 by omega]
    rfl
   clear HR
   go_wp2_with fail
   go_ret
   exact ⟨by rw [HE.out]; first | done | rfl, rfl⟩
end Go.Proofs.YtkgbbcnjkojocaaGreatDoor
namespace Go.Proofs.YtkgbbcnjkojocaaGreatDoor
open Go.RowKit Go.Av Go.Ab
def tabRow (l : List (List UInt8)) : List D := l.map .str
theorem tabRow_cell {w : World} {g : Nat} {l : List (List UInt8)} {t : TypeId} {fr : Nat × Nat} (h : w.heap[g]? = some (.cells (textsV l) t fr)) (hs : l.all (fun s => decide (s.length ≤ 9223372036854775807)) = true) (q : Nat) (hq : q < (tabRow l).length) : ∃ v, flatV (tabRow l)[q] = some v ∧ w.cell? ⟨g, q, none⟩ = some v := by
 have hq' : q < l.length := by simpa [tabRow] using hq
 have hsl := of_decide_eq_true (List.all_eq_true.1 hs l[q] (List.getElem_mem hq'))
 refine ⟨.string ⟨(l[q]).toArray⟩, ?_, ?_⟩
 ·simp [tabRow, flatV, hsl]
 ·simp [World.cell?, h, textsV, hq']
def tabG (g : Nat) : Option (List D) := bif g == 0 then some (tabRow wordsN) else none
def TabI : Inv := ⟨TabN, 0 + 1, tabG, by
 intro w g row h hg
 unfold tabG at hg
 by_cases e : (g == 0) = true
 ·rw [e, cond_true] at hg
  obtain rfl := Option.some.inj hg
  obtain rfl := eq_of_beq e
  obtain ⟨t, fr, h1⟩ := h
  exact ⟨by decide, fun q hq => tabRow_cell h1 (by kernel_rfl) q hq⟩
 ·rw [Bool.eq_false_iff.2 e, cond_false] at hg
  cases hg⟩
end Go.Proofs.YtkgbbcnjkojocaaGreatDoor
namespace Go.Ab
open Go.RowKit Go.Av
set_option maxRecDepth 100000
set_option linter.defProp false
def awC := And.intro @Go.Ab.steps_succ (And.intro @Go.Ab.steps_zero (And.intro @Go.Ab.itemS.eq_1 (And.intro @Go.Ab.itemS.eq_2 (And.intro @Go.Ab.itemS.eq_3 (And.intro @Go.Ab.itemS.eq_4 (And.intro @Go.Ab.itemS.eq_5 (And.intro @Go.Ab.guardS.eq_1 (And.intro @Go.Ab.guardS.eq_2 (And.intro @Go.Ab.guardS.eq_3 (And.intro @Go.Ab.guardV.eq_1 (And.intro @Go.Ab.guardB_yes (And.intro @Go.Ab.guardB_tf (And.intro @Go.Ab.guardB_ft (And.intro @Go.Ab.condS_true (And.intro @Go.Ab.condS_false (And.intro @Go.Ab.bindS_some (And.intro @Go.Ab.op1.eq_1 (And.intro @Go.Ab.op1.eq_2 (And.intro @Go.Ab.op1.eq_3 (And.intro @Go.Ab.op1.eq_4 (And.intro @Go.Ab.op1.eq_5 (And.intro @Go.Ab.op1.eq_6 (And.intro @Go.Ab.op1.eq_7 (And.intro @Go.Ab.op1.eq_8 (And.intro @Go.Ab.op1.eq_9 (And.intro @Go.Ab.op1.eq_10 (And.intro @Go.Ab.op1.eq_11 (And.intro @Go.Ab.op1.eq_12 (And.intro @Go.Ab.op1.eq_13 (And.intro @Go.Ab.op1.eq_14 (And.intro @Go.Ab.op1.eq_15 (And.intro @Go.Ab.op1.eq_16 (And.intro @Go.Ab.op1.eq_17 (And.intro @Go.Ab.op1.eq_18 (And.intro @Go.Ab.op1.eq_19 (And.intro @Go.Ab.op1.eq_20 (And.intro @Go.Ab.op1.eq_21 (And.intro @Go.Ab.opCall.eq_1 (And.intro @Go.Ab.opStore.eq_def (And.intro @Go.Ab.opLoad.eq_1 (And.intro @Go.Ab.opLoad.eq_2 (And.intro @Go.Ab.opLoad.eq_3 (And.intro @Go.Ab.loadV.eq_1 (And.intro @Go.Ab.loadD.eq_1 (And.intro @Go.Ab.opField.eq_1 (And.intro @Go.Ab.moveV.eq_1 (And.intro @Go.Ab.moveV.eq_2 (And.intro @Go.Ab.moveV.eq_3 (And.intro @Go.Ab.opIndexAddr.eq_def (And.intro @Go.Ab.opLen.eq_1 (And.intro @Go.Ab.opBuild.eq_1 (And.intro @Go.Ab.fillV.eq_1 (And.intro @Go.Ab.fillV.eq_2 (And.intro @Go.Ab.opBuildSlice.eq_1 (And.intro @Go.Ab.rep.eq_1 (And.intro @Go.Ab.rep.eq_2 (And.intro @Go.Ab.chunk.eq_1 (And.intro @Go.Ab.chunk.eq_2 (And.intro @Go.Ab.opSlice.eq_1 (And.intro @Go.Ab.bnd.eq_1 (And.intro @Go.Ab.bnd.eq_2 (And.intro @Go.Ab.bnd.eq_3 (And.intro @Go.Ab.opIndex.eq_def (And.intro @Go.Ab.binI.eq_1 (And.intro @Go.Ab.binI.eq_2 (And.intro @Go.Ab.binI.eq_3 (And.intro @Go.Ab.binI.eq_4 (And.intro @Go.Ab.binI.eq_5 (And.intro @Go.Ab.binI.eq_6 (And.intro @Go.Ab.binI.eq_7 (And.intro @Go.Ab.binI.eq_8 (And.intro @Go.Ab.binI.eq_9 (And.intro @Go.Ab.binI.eq_10 (And.intro @Go.Ab.binI.eq_11 (And.intro @Go.Ab.binI.eq_12 (And.intro @Go.Ab.binI.eq_13 (And.intro @Go.Ab.binI.eq_14 (And.intro @Go.Ab.binI.eq_15 (And.intro @Go.Ab.binI.eq_16 (And.intro @Go.Ab.binI.eq_17 (And.intro @Go.Ab.binI.eq_18 (And.intro @Go.Ab.binS.eq_1 (And.intro @Go.Ab.binS.eq_2 (And.intro @Go.Ab.binS.eq_3 (And.intro @Go.Ab.binS.eq_4 (And.intro @Go.Ab.binS.eq_5 (And.intro @Go.Ab.binS.eq_6 (And.intro @Go.Ab.binS.eq_7 (And.intro @Go.Ab.binS.eq_8 (And.intro @Go.Ab.opBin.eq_1 (And.intro @Go.Ab.opBin.eq_2 (And.intro @Go.Ab.opBin.eq_3 (And.intro @Go.Ab.opBin.eq_4 (And.intro @Go.Ab.opUn.eq_1 (And.intro @Go.Ab.opUn.eq_2 (And.intro @Go.Ab.opUn.eq_3 (And.intro @Go.Ab.opConv.eq_1 (And.intro @Go.Ab.newRows.eq_1 (And.intro @Go.Ab.opAppend.eq_1 (And.intro @Go.Ab.opAppend.eq_2 (And.intro @Go.Ab.opAppendT.eq_def (And.intro @Go.Ab.opAppendF.eq_1 (And.intro @Go.Ab.pickV.eq_1 (And.intro @Go.Ab.pickV.eq_2 (And.intro @Go.Ab.mapParts.eq_1 (And.intro @Go.Ab.still.eq_1 (And.intro @Go.Ab.cellsV.eq_1 (And.intro @Go.Ab.cellsV.eq_2 (And.intro @Go.Ab.cellsV.eq_3 (And.intro @Go.Ab.cellsV.eq_4 (And.intro @Go.Ab.toD.eq_1 (And.intro @Go.Ab.toD.eq_2 (And.intro @Go.Ab.toD.eq_3 (And.intro @Go.Ab.toD.eq_4 (And.intro @Go.Ab.evalV.eq_1 (And.intro @Go.Ab.evalV.eq_2 (And.intro @Go.Ab.evalV.eq_3 (And.intro @Go.Ab.evalV.eq_4 (And.intro @Go.Ab.ofVal.eq_1 (And.intro @Go.Ab.ofVal.eq_2 (And.intro @Go.Ab.ofVal1.eq_1 (And.intro @Go.Ab.ofVal1.eq_2 (And.intro @Go.Ab.ofVal1.eq_3 (And.intro @Go.Ab.ofVal1.eq_4 (And.intro @Go.Ab.ofVal1.eq_5 (And.intro @Go.Ab.ofVal1.eq_6 (And.intro @Go.Ab.ofVal1.eq_7 (And.intro @Go.Ab.setV.eq_1 (And.intro @Go.Ab.setV.eq_2 (And.intro @Go.Ab.upTo.eq_1 (And.intro @Go.Ab.upTo.eq_2 (And.intro @Go.exitTo.eq_1 (And.intro @Go.exitTo.eq_2 (And.intro @Go.exitTo.eq_3 (And.intro @List.getElem?_toArray.{0} (And.intro @List.getElem?_cons_zero.{0} (And.intro @List.getElem?_cons_succ.{0} (And.intro @List.set_cons_zero.{0} (And.intro @List.set_cons_succ.{0} (And.intro @Option.map_some.{0, 0} (And.intro @Option.map_none.{0, 0} (And.intro @Option.bind_some.{0, 0} (And.intro @if_true.{1} (And.intro @if_false.{1} (And.intro @ite_true.{1} (And.intro @ite_false.{1} (And.intro @Bool.false_eq_true (And.intro @eq_self.{1} (And.intro @beq_self_eq_true.{0} (And.intro @List.size_toArray.{0} (And.intro @List.length_cons.{0} (And.intro @List.length_nil.{0} (And.intro @List.length_append.{0} (And.intro @List.length_set.{0} (And.intro @List.length_map.{0, 0} (And.intro @List.take_succ_cons.{0} (And.intro @List.take_zero.{0} (And.intro @List.drop_succ_cons.{0} (And.intro @List.drop_zero.{0} (And.intro @List.nil_append.{0} (And.intro @List.cons_append.{0} (And.intro @List.append_nil.{0} (And.intro @List.append_assoc.{0} (And.intro @Nat.zero_add (And.intro @Nat.add_zero (And.intro @List.map_cons.{0, 0} (And.intro @List.map_nil.{0, 0} (And.intro @List.toList_toArray.{0} (And.intro @Array.toList_map.{0, 0} (And.intro @true_and (And.intro @and_true (And.intro @cond_true.{1} (And.intro @cond_false.{1} (And.intro @Go.Ab.bx_loc (And.intro @Go.Ab.bx_loc0 (And.intro @Go.Ab.bx_old (And.intro @Go.Ab.bx_set_loc (And.intro @Go.Ab.bx_set_loc0 (And.intro @Go.Ab.bx_set_old (And.intro @Go.Ab.bx_get (And.intro @List.set_set.{0} (And.intro @List.all_cons.{0} (And.intro @List.all_nil.{0} (And.intro @Bool.and_true (And.intro @Bool.true_and (And.intro @Int.natCast_one (And.intro @Int.natCast_zero (And.intro @Int.cast_ofNat_Int (And.intro @Int.toNat_natCast (And.intro @Int.natCast_nonneg (And.intro @decide_true (And.intro @decide_false (And.intro @Nat.le_refl (And.intro @Int.le_refl (And.intro @Int.natCast_add (And.intro @Int.toNat_zero (And.intro @Nat.sub_zero (And.intro @Go.Ab.lexQ_cons (And.intro @Go.Ab.lexQ_nil (And.intro @Go.Ab.bindQ_some (And.intro @Go.Ab.guardQ_yes (And.intro @Go.Ab.guardQ_tf (And.intro @Go.Ab.guardQ_ft (And.intro @Go.Ab.callQ.eq_def (And.intro @Bool.not_false (And.intro @Bool.not_true (And.intro @Go.Ab.opMin.eq_1 (And.intro @Go.Ab.opMin.eq_2 (And.intro @Go.Ab.opMax.eq_1 (And.intro @Go.Ab.opMax.eq_2 (And.intro @Go.Ab.opPtr.eq_1 (And.intro @Go.Ab.ptrEq.eq_1 (And.intro @Go.Ab.ptrEq.eq_2 (And.intro @Go.Ab.ptrEq.eq_3 (And.intro @Go.Ab.ptrEq.eq_4 (And.intro @Go.Ab.ptrEq.eq_5 (And.intro @Go.Ab.ptrEq.eq_6 (And.intro @Go.Ab.convSame.eq_1 (And.intro @Go.Ab.convSame.eq_2 (And.intro @Go.Ab.globV.eq_1 @Go.Ab.globV.eq_2))))))))))))))))))))))))))))))))))))))))))))))))))))))))))))))))))))))))))))))))))))))))))))))))))))))))))))))))))))))))))))))))))))))))))))))))))))))))))))))))))))))))))))))))))))))))))))))))))))))))))))))))))))))))))))
def awO := And.intro @Go.Ab.codeS.eq_1 (And.intro @Go.Ab.codeS.eq_2 (And.intro @Go.Ab.codeS.eq_3 (And.intro @Go.Ab.codeS.eq_4 (And.intro @Go.Ab.codeS.eq_5 (And.intro @Go.Ab.codeS.eq_6 (And.intro @Go.Ab.codeS.eq_7 (And.intro @Go.Ab.codeS.eq_8 (And.intro @Go.Ab.regS.eq_1 (And.intro @Go.Ab.doOp.eq_1 (And.intro @List.getD_cons_zero.{0} (And.intro @List.getD_cons_succ.{0} (And.intro @List.replicate_succ.{0} (And.intro @List.replicate_zero.{0} (And.intro @Go.Ab.envOf.eq_1 (And.intro @List.foldl_cons.{0, 0} (And.intro @List.foldl_nil.{0, 0} (And.intro @Go.Ab.stepQ.eq_1 @Go.Ab.opQ.eq_1)))))))))))))))))
def awN := And.intro @Go.Ab.exitV_some (And.intro @Go.Ab.envS_eval (And.intro @Go.Ab.envS_get (And.intro @Go.Ab.envS_put (And.intro @Go.Ab.envS_set (And.intro @Go.Ab.envS_no (And.intro @Go.Ab.lk_cons (And.intro @Go.Ab.lk_nil (And.intro @Go.Ab.numbered.eq_1 (And.intro @Go.Ab.numbered.eq_2 (And.intro @Go.Ab.condV_b (And.intro @Go.Ab.stepV_b @Go.Ab.stepV_g)))))))))))
end Go.Ab
namespace Go.Proofs.YtkgbbcnjkojocaaGreatDoor
open Go.RowKit Go.Av Go.Ab
set_option linter.unusedSimpArgs false
set_option maxRecDepth 100000
mutual
def tyD : TyT → List D
 | .mk k n es => [.int .i64 k, .str n, .sl (tyDs es)]
def tyDs : List TyT → List (List D)
 | [] => []
 | t :: l => tyD t :: tyDs l
end
theorem tyDs_map : ∀ l : List TyT, tyDs l = l.map tyD
 | [] => by simp [tyDs]
 | t :: l => by simp [tyDs, tyDs_map l]
theorem tyD_eq (t : TyT) : tyD t = [.int .i64 t.kind, .str t.name, .sl (t.elem.map tyD)] := by
 cases t
 rw [tyD, tyDs_map]
 rfl
def ssD (l : List (List UInt8)) : List (List D) := l.map fun s => [.str s]
mutual
def exD : ExT → List D
 | .mk k t i ty ns ks => [.int .i64 k, .str t, .int .u64 i, .int .i64 ty.kind, .str ty.name, .sl (ty.elem.map tyD), .sl (ssD ns), .sl (exDs ks)]
def exDs : List ExT → List (List D)
 | [] => []
 | x :: l => exD x :: exDs l
end
theorem exDs_map : ∀ l : List ExT, exDs l = l.map exD
 | [] => by simp [exDs]
 | t :: l => by simp [exDs, exDs_map l]
theorem exD_eq (x : ExT) : exD x = [.int .i64 x.kind, .str x.text, .int .u64 x.int, .int .i64 x.type.kind, .str x.type.name, .sl (x.type.elem.map tyD), .sl (ssD x.names), .sl (x.kids.map exD)] := by
 cases x
 rw [exD, exDs_map]
 rfl
mutual
def stD : StT → List D
 | .mk k ns ty ls es b e cs => [.int .i64 k, .sl (ssD ns), .int .i64 ty.kind, .str ty.name, .sl (ty.elem.map tyD), .sl (ls.map exD), .sl (es.map exD), .sl (stDs b), .sl (stDs e), .sl (caDs cs)]
def stDs : List StT → List (List D)
 | [] => []
 | x :: l => stD x :: stDs l
def caD : CaT → List D
 | .mk i b => [.int .u64 i, .sl (stDs b)]
def caDs : List CaT → List (List D)
 | [] => []
 | x :: l => caD x :: caDs l
end
theorem stDs_map : ∀ l : List StT, stDs l = l.map stD
 | [] => by simp [stDs]
 | t :: l => by simp [stDs, stDs_map l]
theorem caDs_map : ∀ l : List CaT, caDs l = l.map caD
 | [] => by simp [caDs]
 | t :: l => by simp [caDs, caDs_map l]
theorem caD_eq (c : CaT) : caD c = [.int .u64 c.int, .sl (c.body.map stD)] := by
 cases c
 rw [caD, stDs_map]
 rfl
theorem stD_eq (s : StT) : stD s = [.int .i64 s.kind, .sl (ssD s.names), .int .i64 s.type.kind, .str s.type.name, .sl (s.type.elem.map tyD), .sl (s.lefts.map exD), .sl (s.exprs.map exD), .sl (s.body.map stD), .sl (s.els.map stD), .sl (s.cases.map caD)] := by
 cases s
 rw [stD, stDs_map, stDs_map, caDs_map]
 rfl
def paD (p : PaT) : List D := [.str p.name, .int .i64 p.type.kind, .str p.type.name, .sl (p.type.elem.map tyD)]
def suD (s : SuT) : List D := [.str s.name, .sl (s.fields.map paD)]
def fuD (f : FuT) : List D := [.str f.name, .sl (f.params.map paD), .sl (f.results.map tyD), .sl (f.body.map stD)]
theorem paD_eq (p : PaT) : paD p = [.str p.name, .int .i64 p.type.kind, .str p.type.name, .sl (p.type.elem.map tyD)] := rfl
theorem suD_eq (s : SuT) : suD s = [.str s.name, .sl (s.fields.map paD)] := rfl
theorem fuD_eq (f : FuT) : fuD f = [.str f.name, .sl (f.params.map paD), .sl (f.results.map tyD), .sl (f.body.map stD)] := rfl
def tyV (t : TyT) : V := .agg [.d (.int .i64 t.kind), .d (.str t.name), .d (.sl (t.elem.map tyD))]
def exV (x : ExT) : V := .agg [.d (.int .i64 x.kind), .d (.str x.text), .d (.int .u64 x.int), .d (.int .i64 x.type.kind), .d (.str x.type.name), .d (.sl (x.type.elem.map tyD)), .d (.sl (ssD x.names)), .d (.sl (x.kids.map exD))]
def stV (s : StT) : V := .agg [.d (.int .i64 s.kind), .d (.sl (ssD s.names)), .d (.int .i64 s.type.kind), .d (.str s.type.name), .d (.sl (s.type.elem.map tyD)), .d (.sl (s.lefts.map exD)), .d (.sl (s.exprs.map exD)), .d (.sl (s.body.map stD)), .d (.sl (s.els.map stD)), .d (.sl (s.cases.map caD))]
def caV (c : CaT) : V := .agg [.d (.int .u64 c.int), .d (.sl (c.body.map stD))]
def paV (p : PaT) : V := .agg [.d (.str p.name), .d (.int .i64 p.type.kind), .d (.str p.type.name), .d (.sl (p.type.elem.map tyD))]
def suV (s : SuT) : V := .agg [.d (.str s.name), .d (.sl (s.fields.map paD))]
def fuV (f : FuT) : V := .agg [.d (.str f.name), .d (.sl (f.params.map paD)), .d (.sl (f.results.map tyD)), .d (.sl (f.body.map stD))]
def prV (p : PrT) : V := .agg [.d (.sl (p.structs.map suD)), .d (.sl (p.funcs.map fuD))]
theorem rowsSz_ss (l : List (List UInt8)) : rowsSz 1 (ssD l) = true := rowsSz_map (fun s : List UInt8 => [D.str s]) (fun _ => rfl) l
theorem rowsSz_ty (l : List TyT) : rowsSz 3 (l.map tyD) = true := rowsSz_map _ (fun x => by rw [tyD_eq]; rfl) l
theorem rowsSz_ex (l : List ExT) : rowsSz 8 (l.map exD) = true := rowsSz_map _ (fun x => by rw [exD_eq]; rfl) l
theorem rowsSz_st (l : List StT) : rowsSz 10 (l.map stD) = true := rowsSz_map _ (fun x => by rw [stD_eq]; rfl) l
theorem rowsSz_ca (l : List CaT) : rowsSz 2 (l.map caD) = true := rowsSz_map _ (fun x => by rw [caD_eq]; rfl) l
theorem rowsSz_pa (l : List PaT) : rowsSz 4 (l.map paD) = true := rowsSz_map paD (fun _ => rfl) l
theorem rowsSz_su (l : List SuT) : rowsSz 2 (l.map suD) = true := rowsSz_map suD (fun _ => rfl) l
theorem rowsSz_fu (l : List FuT) : rowsSz 4 (l.map fuD) = true := rowsSz_map fuD (fun _ => rfl) l
theorem ssD_length (l : List (List UInt8)) : (ssD l).length = l.length := by simp [ssD]
theorem ssD_get (l : List (List UInt8)) (i : Nat) : (ssD l)[i]? = (l[i]?).map fun s => [.str s] := by simp [ssD]
theorem ssD_take (l : List (List UInt8)) (n : Nat) : (ssD l).take n = ssD (l.take n) := by simp [ssD, List.map_take]
theorem ssD_drop (l : List (List UInt8)) (n : Nat) : (ssD l).drop n = ssD (l.drop n) := by simp [ssD, List.map_drop]
set_option linter.defProp false in
def awT := And.intro @rowsSz_ss ( And.intro @rowsSz_ty ( And.intro @rowsSz_ex ( And.intro @rowsSz_st ( And.intro @rowsSz_ca ( And.intro @rowsSz_pa ( And.intro @rowsSz_su ( And.intro @rowsSz_fu ( And.intro @ssD_length ( And.intro @ssD_get ( And.intro @ssD_take (@ssD_drop)))))))))))
set_option linter.defProp false
def W := And.intro awC (And.intro awN (And.intro awT tys))
def WO := And.intro awC (And.intro awO (And.intro awT tys))
def agb := And.intro @and_self (And.intro @true_and (And.intro @and_true (And.intro @eq_self.{1} (And.intro @Int.natCast_add (And.intro @Int.natCast_one (And.intro @Int.natCast_zero (And.intro @envS_get (And.intro @envS_eval (And.intro @lk_cons (And.intro @lk_nil (And.intro @cond_true.{1} (@cond_false.{1}))))))))))))
def agw := And.intro @agree_cons (And.intro @agree_nil agb)
def agf := And.intro @agreeF_cons (And.intro @agreeF_nil (And.intro @Bool.and_true (And.intro @Bool.true_and (And.intro @Bool.and_self (And.intro @decide_true (And.intro @List.length_set.{0} (And.intro @fit.eq_1 (And.intro @fit.eq_2 (And.intro @fit.eq_3 (And.intro @fit.eq_4 (And.intro @fit.eq_5 (And.intro @fit.eq_6 (And.intro @fit.eq_7 (And.intro @fit.eq_8 (And.intro @fit.eq_9 (And.intro @fit.eq_10 (And.intro @fit.eq_11 (And.intro @fit.eq_12 (And.intro @fitL.eq_1 (And.intro @fitL.eq_2 (And.intro @fit.eq_15 (And.intro @fit.eq_16 (agb)))))))))))))))))))))))
def fnw := And.intro @List.getD_cons_zero.{0} (And.intro @List.getD_cons_succ.{0} (And.intro @wk.eq_1 (And.intro @wk.eq_2 (And.intro @wk.eq_3 (And.intro @wk.eq_4 (And.intro @wk.eq_5 (And.intro @wk.eq_6 (And.intro @wk.eq_7 (And.intro @wk.eq_8 (And.intro @wk.eq_9 (And.intro @wk.eq_10 (And.intro @wk.eq_11 (And.intro @wk.eq_12 (And.intro @wk.eq_15 (And.intro @wk.eq_16 (agb))))))))))))))))
def dnw := And.intro @decide_eq_true_eq (And.intro @decide_eq_false_iff_not (And.intro @Bool.not_eq_true' @Bool.not_eq_false'))
def smw := And.intro @smL.eq_1 (And.intro @smL.eq_2 (And.intro @sm.eq_1 (And.intro @sm.eq_2 (And.intro @sm.eq_3 (And.intro @sm.eq_4 (And.intro @sm_int (And.intro @sm_bool (And.intro @sm_ptr (And.intro @sm_bx (And.intro @sm_nilp (And.intro @sm_nilf (And.intro @sm_func (And.intro @sm_eptr (And.intro @sm_undef (And.intro @sm_tup (And.intro @exV.eq_1 (And.intro @stV.eq_1 (And.intro @tyV.eq_1 (And.intro @caV.eq_1 (And.intro @paV.eq_1 (And.intro @suV.eq_1 (And.intro @fuV.eq_1 (And.intro @prV.eq_1 (And.intro @Bool.and_eq_true (And.intro @decide_eq_true_eq (And.intro @and_true (And.intro @true_and (And.intro @List.length_map.{0, 0} (@ssD_length)))))))))))))))))))))))))))))
theorem wrap_in (n : Int) (h : -9223372036854775808 ≤ n ∧ n ≤ 9223372036854775807) : IntKind.i64.wrap n = n := IntWalk.i64_in _ h
end Go.Proofs.YtkgbbcnjkojocaaGreatDoor
namespace Go.Proofs.YtkgbbcnjkojocaaGreatDoor
open Go.RowKit Go.Av
theorem slBytes : SlTy Tryz.prog 113 5 1 1 (.int .u8 0) := ⟨Tryz.underlying113, by kernel_rfl, rfl⟩
theorem own_setCell {w : World} {B e : Nat} {g off cap n : Nat} {xs : List Value} (h : Own w B e 1 (.slice (some ⟨g, off, none⟩) n cap) n xs) (j : Nat) (u : Value) (hj : j < n) :
 Own (w.setCell ⟨g, off + j, none⟩ u) B e 1 (.slice (some ⟨g, off, none⟩) n cap) n (xs.set j u) := by
 obtain ⟨h1, h2⟩ := h
 refine ⟨by simpa using h1, ?_⟩
 rcases h2 with ⟨h2, _⟩ | ⟨g', off', cap', cur, fz, hv, hb, hg, hn, hc, hs, hf, ht⟩
 ·simp at h2
 ·simp at hv
  obtain ⟨⟨rfl, rfl⟩, rfl⟩ := hv
  refine .inr ⟨g, off, cap, cur.setIfInBounds (off + j) u, fz, rfl, hb, ?_, hn, hc, by simpa using hs, hf, ?_⟩
  ·simp only [World.setCell, Array.getElem?_modify, hg]
   simp
  ·have h1' : n ≤ cur.size - off := by omega
   rw [← ht]
   apply List.ext_getElem?
   intro k
   simp only [Array.toList_setIfInBounds, List.getElem?_take, List.getElem?_drop, List.getElem?_set, List.length_drop, List.length_take, Array.length_toList]
   have hl : n * 1 = n := by omega
   rw [hl]
   by_cases hk : k < n
   ·by_cases hjk : j = k
    ·subst hjk
     simp only [hk, if_true]
     rw [if_pos (by omega), if_pos (by omega)]
    ·simp [hk, hjk]
   ·have : ¬ j = k := by omega
    simp [hk, this]
theorem grew_setCell {w w' : World} {v : Value} {g off cap n : Nat} (h : Grew w v w' (.slice (some ⟨g, off, none⟩) n cap)) (j : Nat) (u : Value) :
 Grew w v (w'.setCell ⟨g, off + j, none⟩ u) (.slice (some ⟨g, off, none⟩) n cap) :=
 h.trans ⟨⟨rfl, rfl, rfl, by simp [World.setCell], fun k _ hk => Below.heap_setCell _ _ _ _ (fun e => hk (by simp [Value.ownBlock, e]))⟩, .inl rfl⟩
theorem own_free {w : World} {B e : Nat} {g off cap n : Nat} {xs : List Value} (h : Own w B e 1 (.slice (some ⟨g, off, none⟩) n cap) n xs) (j : Nat) (hj : j < n) : w.frozen? ⟨g, off + j, none⟩ = false := by
 rcases h.2 with ⟨h2, _⟩ | ⟨g', off', cap', cur, fz, hv, hb, hg, hn, hc, hs, hf, ht⟩
 ·simp at h2
 ·simp at hv
  obtain ⟨⟨rfl, rfl⟩, rfl⟩ := hv
  simp only [World.frozen?, hg]
  simp
  omega
def Turned (xs ys : List UInt8) (k : Nat) : Prop := ys.length = xs.length ∧ ∀ p, p < xs.length → ys[p]? = if p < k ∨ xs.length ≤ p + k then xs[xs.length - 1 - p]? else xs[p]?
theorem Turned.start (xs : List UInt8) : Turned xs xs 0 := ⟨rfl, fun p hp => by rw [if_neg (by omega)]⟩
theorem Turned.step {xs ys : List UInt8} {k m : Nat} (h : Turned xs ys k) (hn : k + m + 1 = xs.length) (hk : k < m) (a b : UInt8) (ha : ys[k]? = some a) (hb : ys[m]? = some b) :
 Turned xs ((ys.set k b).set m a) (k + 1) := by
 obtain ⟨h1, h2⟩ := h
 refine ⟨by simpa using h1, fun p hp => ?_⟩
 have hk' := h2 k (by omega)
 have hm' := h2 m (by omega)
 rw [if_neg (by omega), ha] at hk'
 rw [if_neg (by omega), hb] at hm'
 simp only [List.getElem?_set, List.length_set]
 by_cases hpm : m = p
 ·subst hpm
  rw [if_pos rfl, if_pos (by omega), if_pos (by omega), show xs.length - 1 - m = k by omega, hk']
 ·rw [if_neg hpm]
  by_cases hpk : k = p
  ·subst hpk
   rw [if_pos rfl, if_pos (by omega), if_pos (by omega), show xs.length - 1 - k = m by omega, hm']
  ·rw [if_neg hpk, h2 p hp]
   by_cases hc : p < k ∨ xs.length ≤ p + k
   ·rw [if_pos hc, if_pos (by omega)]
   ·rw [if_neg hc, if_neg (by omega)]
theorem Turned.stop {xs ys : List UInt8} {k m : Nat} (h : Turned xs ys k) (hn : k + m + 1 = xs.length) (hk : m ≤ k) (hkm : k ≤ m + 1) : ys = xs.reverse := by
 obtain ⟨h1, h2⟩ := h
 apply List.ext_getElem?
 intro p
 by_cases hp : p < xs.length
 ·rw [h2 p hp, List.getElem?_reverse hp]
  split
  ·rfl
  ·rw [show xs.length - 1 - p = p by omega]
 ·rw [List.getElem?_eq_none (by omega), List.getElem?_eq_none (by simp; omega)]
theorem bv_set (bs : List UInt8) (k : Nat) (a : UInt8) : (bv bs).set k (.int .u8 (a.toNat : Int)) = bv (bs.set k a) := by
 simp [bv, List.map_set]
theorem bv_get {bs : List UInt8} {k : Nat} {a : UInt8} (h : bs[k]? = some a) : (bv bs)[k]? = some (.int .u8 (a.toNat : Int)) := by
 simp [bv, h]
set_option maxHeartbeats 400000 in
theorem reverse_nil (w : World) : Calls Tryz.prog 98 #[.slice none 0 0] w fun e w' => e = .returned (.tuple #[]) ∧ w' = w := by
 go_enter Tryz.func98, Tryz.ntmps98
 go_wp2
 refine wp_loop_rounds 1 ?_
 rw [rounds_succ]
 go_wp2
 go_end0
 exact ⟨rfl, rfl⟩
set_option maxHeartbeats 400000 in
theorem reverse_zero (g off cap : Nat) (w : World) : Calls Tryz.prog 98 #[.slice (some ⟨g, off, none⟩) 0 cap] w fun e w' => e = .returned (.tuple #[]) ∧ w' = w := by
 go_enter Tryz.func98, Tryz.ntmps98
 go_wp2
 refine wp_loop_rounds 1 ?_
 rw [rounds_succ]
 go_wp2
 go_end0
 exact ⟨rfl, rfl⟩
set_option maxHeartbeats 400000 in
theorem reverse_own (B g off n cap : Nat) (xs : List UInt8) (w : World) (h : Own w B 5 1 (.slice (some ⟨g, off, none⟩) n cap) n (bv xs)) (h0 : 0 < n) (hn : n ≤ 9223372036854775807) :
 Calls Tryz.prog 98 #[.slice (some ⟨g, off, none⟩) n cap] w fun e w' => e = .returned (.tuple #[]) ∧ Own w' B 5 1 (.slice (some ⟨g, off, none⟩) n cap) n (bv xs.reverse) ∧ Grew w (.slice (some ⟨g, off, none⟩) n cap) w' (.slice (some ⟨g, off, none⟩) n cap) := by
 have hxl : xs.length = n := by have := h.1; rw [bv_length] at this; omega
 have hnn : (0 : Int) < n := by omega
 have HX := Lib.hid hxl; clear hxl
 go_enter Tryz.func98, Tryz.ntmps98
 go_wp2
 go_loopw [2, 3] (fun i j wr => ∃ k m : Nat, ∃ ys, i = .int .i64 k ∧ j = .int .i64 m ∧ Hid (k + m + 1 = n) ∧ k ≤ m + 1 ∧ Turned xs ys k ∧ Own wr B 5 1 (.slice (some ⟨g, off, none⟩) n cap) n (bv ys) ∧ Grew w (.slice (some ⟨g, off, none⟩) n cap) wr (.slice (some ⟨g, off, none⟩) n cap))
  (fun i j _ => (intOf j - intOf i + 1).toNat)
 case atStart => exact ⟨0, n - 1, xs, rfl, by congr; omega, by unfold Hid; omega, by omega, Turned.start xs, h, Grew.refl _ _⟩
 case round =>
  obtain ⟨k, m, ys, rfl, rfl, HK, hkm, ht, ho, hgr⟩ := hrel
  by_cases hlt : k < m
  ·have hm : m < n := by have := HK.out; omega
   have hk : k < n := by omega
   obtain ⟨a, ha⟩ : ∃ a, ys[k]? = some a := ⟨ys[k]'(by rw [ht.1, HX.out]; omega), by rw [List.getElem?_eq_getElem]⟩
   obtain ⟨b, hb⟩ : ∃ b, ys[m]? = some b := ⟨ys[m]'(by rw [ht.1, HX.out]; omega), by rw [List.getElem?_eq_getElem]⟩
   have hst := ht.step (by rw [HX.out]; exact HK.out) hlt a b ha hb
   have ca := ho.cells rfl k _ (bv_get ha)
   have cb := ho.cells rfl m _ (bv_get hb)
   have fa := own_free ho k hk
   have fb := own_free ho m hm
   have HO := Lib.hid ho; clear ho
   have HG := Lib.hid hgr; clear hgr
   have HS := Lib.hid hst; clear hst
   have HA := Lib.hid ha; clear ha
   have HB := Lib.hid hb; clear hb
   clear ht
   go_wp2
   go_region
   go_wp2
   go_roundw
   case rel =>
    have o1 := own_setCell HO.out k (.int .u8 (b.toNat : Int)) hk
    have o2 := own_setCell o1 m (.int .u8 (a.toNat : Int)) hm
    rw [bv_set, bv_set] at o2
    have g1 := grew_setCell HG.out k (.int .u8 (b.toNat : Int))
    have g2 := grew_setCell g1 m (.int .u8 (a.toNat : Int))
    exact ⟨k + 1, m - 1, _, by go_num, by congr; omega, by have := HK.out; unfold Hid; omega, by omega, HS.out, o2.drew, g2.drew⟩
   case measure => simp [intOf]; omega
  ·go_wp2
   go_end0
   exact ⟨rfl, by rw [← ht.stop (by rw [HX.out]; exact HK.out) (by omega) hkm]; exact ho, hgr⟩
theorem reverse_any (B : Nat) (v : Value) (n : Nat) (xs : List UInt8) (w : World) (h : Own w B 5 1 v n (bv xs)) (hn : n ≤ 9223372036854775807) :
 Calls Tryz.prog 98 #[v] w fun e w' => e = .returned (.tuple #[]) ∧ Own w' B 5 1 v n (bv xs.reverse) ∧ Grew w v w' v := by
 rcases h.2 with ⟨rfl, rfl⟩ | ⟨g, off, cap, cur, fz, rfl, _⟩
 ·have : xs = [] := List.eq_nil_of_length_eq_zero (by have := h.1; rw [bv_length] at this; omega)
  subst this
  exact (reverse_nil w).mono fun e w' ⟨he, hw⟩ => by subst hw; exact ⟨he, h, Grew.refl _ _⟩
 ·by_cases h0 : 0 < n
  ·exact reverse_own B g off n cap xs w h h0 hn
  ·have hn0 : n = 0 := by omega
   subst hn0
   have : xs = [] := List.eq_nil_of_length_eq_zero (by have := h.1; rw [bv_length] at this; omega)
   subst this
   exact (reverse_zero g off cap w).mono fun e w' ⟨he, hw⟩ => by subst hw; exact ⟨he, h, Grew.refl _ _⟩
end Go.Proofs.YtkgbbcnjkojocaaGreatDoor
namespace Go.Av
def decRev : Nat → Nat → List UInt8
 | 0, _ => []
 | f + 1, u => if u ≤ 9 then [UInt8.ofNat (48 + u)] else UInt8.ofNat (48 + u % 10) :: decRev f (u / 10)
def dec (u : Nat) : List UInt8 := (decRev 20 u).reverse
def worth : List UInt8 → Nat
 | [] => 0
 | c :: r => (c.toNat - 48) + 10 * worth r
theorem digit_toNat {d : Nat} (h : d < 10) : (UInt8.ofNat (48 + d)).toNat = 48 + d := by
 simp; omega
theorem decRev_length : ∀ (f u : Nat), (decRev f u).length ≤ f
 | 0, u => by simp [decRev]
 | f + 1, u => by
  unfold decRev
  split
  ·simp
  ·have := decRev_length f (u / 10)
   simp; omega
theorem dec_length (u : Nat) : (dec u).length ≤ 20 := by
 unfold dec
 rw [List.length_reverse]
 exact decRev_length 20 u
theorem decRev_step (f u : Nat) (h : 9 < u) : decRev (f + 1) u = UInt8.ofNat (48 + u % 10) :: decRev f (u / 10) := by
 rw [decRev, if_neg (by omega)]
theorem decRev_last (f u : Nat) (h : u ≤ 9) : decRev (f + 1) u = [UInt8.ofNat (48 + u)] := by
 rw [decRev, if_pos h]
end Go.Av
namespace Go.Proofs.YtkgbbcnjkojocaaGreatDoor
open Go.RowKit Go.Av
def OwnB (w : World) (B : Nat) (v : Value) (bs : List UInt8) : Prop := Own w B 5 1 v bs.length (bv bs)
def Puts (B : Nat) (bs : List UInt8) (w : World) (v : Value) (e : Ending) (w' : World) : Prop := ∃ v', e = .returned v' ∧ OwnB w' B v' bs ∧ Grew w v w' v'
def DigInv (n u : Nat) (ds : List UInt8) : Prop := ds ++ decRev (20 - ds.length) u = decRev 20 n ∧ ds.length < 20 ∧ u < 10 ^ (20 - ds.length)
theorem DigInv.start (n : Nat) (h : n < 10 ^ 20) : DigInv n n [] := ⟨rfl, by decide, h⟩
theorem DigInv.step {n u : Nat} {ds : List UInt8} (h : DigInv n u ds) (hu : 9 < u) : DigInv n (u / 10) (ds ++ [UInt8.ofNat (48 + u % 10)]) := by
 obtain ⟨h1, h2, h3⟩ := h
 obtain ⟨f, hf⟩ : ∃ f, 20 - ds.length = f + 1 := ⟨20 - ds.length - 1, by omega⟩
 have hf0 : f ≠ 0 := by rintro rfl; rw [hf] at h3; omega
 rw [hf] at h1 h3
 rw [decRev_step f u hu] at h1
 have e : 20 - (ds ++ [UInt8.ofNat (48 + u % 10)]).length = f := by simp; omega
 refine ⟨by rw [e, ← h1]; simp, by simp; omega, by rw [e]; rw [Nat.pow_succ] at h3; omega⟩
theorem DigInv.stop {n u : Nat} {ds : List UInt8} (h : DigInv n u ds) (hu : u ≤ 9) : ds ++ [UInt8.ofNat (48 + u)] = decRev 20 n := by
 obtain ⟨h1, h2, h3⟩ := h
 obtain ⟨f, hf⟩ : ∃ f, 20 - ds.length = f + 1 := ⟨20 - ds.length - 1, by omega⟩
 rw [hf, decRev_last f u hu] at h1
 exact h1
theorem digit_cell (u : Nat) : [Value.int .u8 (48 + (u : Int) % 10)] = bv [UInt8.ofNat (48 + u % 10)] := by
 have := digit_toNat (d := u % 10) (by omega)
 simp only [bv, List.map_cons, List.map_nil, this]
 congr
theorem digit_cell' (u : Nat) (h : u ≤ 9) : [Value.int .u8 (48 + (u : Int))] = bv [UInt8.ofNat (48 + u)] := by
 have := digit_toNat (d := u) (by omega)
 simp only [bv, List.map_cons, List.map_nil, this]
 congr
set_option maxHeartbeats 400000 in
theorem jnum (B : Nat) (v : Value) (bs : List UInt8) (n : Int) (w : World) (hown : OwnB w B v bs) (hB : B ≤ w.heap.size) (h0 : 0 ≤ n) (hn : n ≤ 9223372036854775807) (hl : bs.length ≤ 1099511627776) :
 Calls Tryz.prog 87 #[v, .int .i64 n] w (Puts B (bs ++ dec n.toNat) w v) := by
 obtain ⟨n, rfl⟩ := Int.eq_ofNat_of_zero_le h0
 have HO := Lib.hid hown; clear hown
 have hneg : ¬ ((n : Int) < 0) := by omega
 go_enter Tryz.func87, Tryz.ntmps87
 go_wp2
 go_loopw [5, 6] (fun a d wr => ∃ u : Nat, ∃ ds : List UInt8, a = .int .u64 u ∧ (u : Int) ≤ 9223372036854775807 ∧ Hid (DigInv n u ds) ∧ Hid (OwnB wr w.heap.size d ds) ∧ Below w.heap.size w wr) (fun a _ _ => (intOf a).toNat)
 case atStart => exact ⟨n, [], rfl, hn, Lib.hid (DigInv.start n (by omega)), Lib.hid (Own.nil _ _ _ _), Below.refl _ _⟩
 case round =>
  obtain ⟨u, ds, rfl, hu, HD, HW, hb⟩ := hrel
  have hd := HD.out.2.1
  have hs := hb.size
  by_cases h9 : 9 < u
  ·go_wp2_with (at_builtin; refine wpList_app_slice rfl slBytes (.tmp 18) (.tmp 23) rfl w.heap.size u6 ds.length (bv ds) rfl (HW.out.alloc _) _ 0 1 1 rfl [.int .u8 (48 + (u : Int) % 10)] rfl (news_lit _ _ _) (one_of rfl) (by unfold maxLen; omega) (by omega) (by simp; omega) ?_; intro v1 w1 ho1 hg1)
   go_roundw
   case rel =>
    rw [digit_cell, ← bv_append] at ho1
    refine ⟨u / 10, ds ++ [UInt8.ofNat (48 + u % 10)], by go_num, by omega, Lib.hid (HD.out.step h9), Lib.hid ?_, ?_⟩
    ·unfold OwnB; simpa using ho1
    ·exact (hb.alloc hs _).grown hg1.grown (by simp; omega) (fun k hk => ((HW.out.lt k hk).1))
   case measure => simp [intOf]; omega
  ·have h9' : (u : Int) ≤ 9 := by omega
   go_wp2_with (at_builtin; refine wpList_app_slice rfl slBytes (.tmp 27) (.tmp 31) rfl w.heap.size u6 ds.length (bv ds) rfl (HW.out.alloc _) _ 0 1 1 rfl [.int .u8 (48 + (u : Int))] rfl (news_lit _ _ _) (one_of rfl) (by unfold maxLen; omega) (by omega) (by simp; omega) ?_; intro v1 w1 ho1 hg1)
   rw [digit_cell' u (by omega), ← bv_append, HD.out.stop (by omega)] at ho1
   have hlen : ds.length + 1 = (decRev 20 n).length := by have := HD.out.stop (by omega); rw [← this]; simp
   have hb1 : Below w.heap.size w w1 := (hb.alloc hs _).grown hg1.grown (by simp; omega) (fun k hk => ((HW.out.lt k hk).1))
   refine (reverse_any w.heap.size v1 _ _ w1 ho1 (by omega)).mono ?_
   rintro e w2 ⟨rfl, ho2, hg2⟩
   have hb2 : Below w.heap.size w w2 := hb1.grown hg2.grown hb1.size (fun k hk => ((ho1.lt k hk).1))
   have ho3 := HO.out.below hb2
   have hB2 := Nat.le_trans hB hb2.size
   have HL := Lib.hid hlen; clear hlen
   go_wp2_with (at_builtin; refine wpList_app_own rfl slBytes (.tmp 35) (.tmp 36) rfl B v _ _ rfl ho3 v1 rfl w.heap.size _ _ ho2 (bv_one _) (by unfold maxLen; omega) (by omega) hB2 ?_; intro v2 w3 ho4 hg4)
   go_ret
   refine ⟨v2, rfl, ?_, ((Grew.refl w v).trans ⟨grownBy_of_below hb2 _, .inl rfl⟩).trans hg4⟩
   rw [← bv_append] at ho4
   unfold OwnB
   have e1 : dec n = (decRev 20 n).reverse := rfl
   rw [show ((n : Int)).toNat = n from rfl, e1]
   have e2 : (bs ++ (decRev 20 n).reverse).length = bs.length + (ds.length + 1) := by rw [List.length_append, List.length_reverse, ← HL.out]
   rw [e2]
   exact ho4
def decI (n : Int) : List UInt8 := if n < 0 then [] else dec n.toNat
theorem decI_length (n : Int) : (decI n).length ≤ 20 := by
 unfold decI
 split
 ·simp
 ·exact dec_length _
def Texts (bs : List UInt8) (w : World) (e : Ending) (w' : World) : Prop := e = .returned (.string ⟨bs.toArray⟩) ∧ Below w.heap.size w w'
set_option maxHeartbeats 400000 in
theorem mnumber (B : Nat) (v : Value) (bs : List UInt8) (n : Int) (w : World) (hown : OwnB w B v bs) (hB : B ≤ w.heap.size) (hn : n ≤ 9223372036854775807) (hl : bs.length ≤ 1099511627776) :
 Calls Tryz.prog 67 #[v, .int .i64 n] w (Puts B (bs ++ decI n) w v) := by
 by_cases h0 : n < 0
 ·have HO := Lib.hid hown; clear hown
  go_enter Tryz.func67, Tryz.ntmps67
  go_wp2_with fail
  go_ret
  refine ⟨v, rfl, ?_, Grew.refl _ _⟩
  rw [show decI n = [] by rw [decI, if_pos h0], List.append_nil]
  exact HO.out
 ·have e : decI n = dec n.toNat := by rw [decI, if_neg h0]
  have hj := jnum B v bs n w hown hB (by omega) hn hl
  rw [← e] at hj
  have HJ := Lib.hid hj
  clear hj hown e
  go_enter Tryz.func67, Tryz.ntmps67
  go_wp2_with fail
  refine HJ.out.mono ?_
  rintro e w' ⟨v', rfl, ho, hg⟩
  go_wp2_with fail
  go_ret
  exact ⟨v', rfl, ho, hg⟩
set_option maxHeartbeats 400000 in
theorem mNumber (s : ByteArray) (n : Int) (w : World) (hn : n ≤ 9223372036854775807) (hs : s.size ≤ 1099511627776) :
 Calls Tryz.prog 44 #[.string s, .int .i64 n] w (Texts (s.data.toList ++ decI n) w) := by
 have kc := Lib.run_convert_string_bytes (P := Tryz.prog) w 9 113 5 s Tryz.underlying9 Tryz.underlying113 Tryz.underlying5
 go_enter Tryz.func44, Tryz.ntmps44
 go_wp2_with fail
 clear kc
 have hl : s.data.toList.length = s.size := by simp
 have ho : OwnB (Lib.bytesWorld w 5 s) w.heap.size (.slice (some ⟨w.heap.size, 0, none⟩) s.size (grownCap w s.size 0 5)) s.data.toList := by
  unfold OwnB
  rw [hl]
  exact own_bytesWorld w w.heap.size 5 s (Nat.le_refl _) (by unfold maxLen; omega)
 have hb := below_bytesWorld w w.heap.size 5 s (Nat.le_refl _)
 refine (mnumber w.heap.size _ _ n _ ho hb.size hn (by rw [hl]; omega)).mono ?_
 rintro e w1 ⟨v1, rfl, ho1, hg1⟩
 have hb1 : Below w.heap.size w w1 := hb.grown hg1.grown hb.size (fun k hk => ((ho.lt k hk).1))
 have ks := run_string_own (P := Tryz.prog) 113 5 9 Tryz.underlying113 Tryz.underlying5 Tryz.underlying9 ho1
 clear hl
 go_wp2_with fail
 go_ret
 exact ⟨rfl, hb1⟩
def plainB (c : UInt8) : Bool := decide (48 ≤ c.toNat ∧ c.toNat ≤ 57 ∨ 65 ≤ c.toNat ∧ c.toNat ≤ 90 ∨ 97 ≤ c.toNat ∧ c.toNat ≤ 122)
set_option maxHeartbeats 400000 in
theorem mplain (c : UInt8) (w : World) : Calls Tryz.prog 66 #[.int .u8 (c.toNat : Int)] w fun e w' => e = .returned (.bool (plainB c)) ∧ w = w' := by
 have hc : (c.toNat : Int) < 256 := by have := c.toNat_lt; omega
 have hr : plainB c = true ↔ (48 ≤ (c.toNat : Int) ∧ (c.toNat : Int) ≤ 57 ∨ 65 ≤ (c.toNat : Int) ∧ (c.toNat : Int) ≤ 90 ∨ 97 ≤ (c.toNat : Int) ∧ (c.toNat : Int) ≤ 122) := by
  unfold plainB
  rw [decide_eq_true_iff]
  omega
 generalize plainB c = r at hr ⊢
 generalize hx : (c.toNat : Int) = x at hc hr ⊢
 have h0 : 0 ≤ x := by omega
 clear hx
 by_cases h1 : 48 ≤ x <;> by_cases h2 : x ≤ 57 <;> by_cases h3 : 65 ≤ x <;> by_cases h4 : x ≤ 90 <;> by_cases h5 : 97 ≤ x <;> by_cases h6 : x ≤ 122 <;> first | omega | skip
 all_goals
  cases r <;> simp [h1, h2, h3, h4, h5, h6] at hr
  go_enter Tryz.func66, Tryz.ntmps66
  go_wp2_with fail
  go_ret
  exact ⟨rfl, rfl⟩
def hexB (d : Nat) : UInt8 := [48, 49, 50, 51, 52, 53, 54, 55, 56, 57, 97, 98, 99, 100, 101, 102].getD d 0
def nameB (c : UInt8) : List UInt8 :=
 if plainB c then [c] else if c.toNat = 95 then [95, 95] else if c.toNat = 46 then [95, 111] else [95, 120, hexB (c.toNat / 16), hexB (c.toNat % 16)]
def nameL (l : List UInt8) : List UInt8 := 78 :: l.flatMap nameB
theorem nameB_length (c : UInt8) : (nameB c).length ≤ 4 := by
 unfold nameB
 repeat' split
 all_goals simp
theorem nameL_length (l : List UInt8) : (nameL l).length ≤ 4 * l.length + 1 := by
 unfold nameL
 induction l with
 | nil => simp
 | cons c l ih =>
  have := nameB_length c
  simp at ih ⊢
  omega
theorem nameL_snoc (l : List UInt8) (c : UInt8) : nameL (l ++ [c]) = nameL l ++ nameB c := by simp [nameL]
theorem index_hex (x : Nat) (hx : x < 16) : ∀ W, (Instr.index 9 (.string ⟨#[48, 49, 50, 51, 52, 53, 54, 55, 56, 57, 97, 98, 99, 100, 101, 102]⟩) (.int .u8 (x : Int))).run Tryz.prog W = .ok (.int .u8 ((hexB x).toNat : Int)) W := by
 intro W
 have : x = 0 ∨ x = 1 ∨ x = 2 ∨ x = 3 ∨ x = 4 ∨ x = 5 ∨ x = 6 ∨ x = 7 ∨ x = 8 ∨ x = 9 ∨ x = 10 ∨ x = 11 ∨ x = 12 ∨ x = 13 ∨ x = 14 ∨ x = 15 := by omega
 rcases this with rfl | rfl | rfl | rfl | rfl | rfl | rfl | rfl | rfl | rfl | rfl | rfl | rfl | rfl | rfl | rfl
 all_goals
  show _ = _
  kernel_rfl
theorem ones_of4 {a b c d : Int} : ∀ u ∈ [Value.int .u8 a, .int .u8 b, .int .u8 c, .int .u8 d], u.oneCell' = true := by
 intro u hu
 simp only [List.mem_cons, List.not_mem_nil, or_false] at hu
 rcases hu with rfl | rfl | rfl | rfl <;> rfl
theorem step_app {P : Program} {ops : Array Oper} {o : Oper} {a : Act} {w : World} {K : Act → World → Prop} {Q : Exit → Act → World → Prop} {E : Prop}
 (hg : o.guard = none) {t e size bytes : Nat} {z : Value} (T : SlTy P t e size bytes z)
 (s x : Operand) (ho : o.op = .call { callee := .builtin .append, args := #[s, x], argTypes := #[t, t] }) (B : Nat)
 (v : Value) (n : Nat) (xs : List Value) (hs : a.eval s = v) (hown : Own w B e size v n xs)
 (g off m c : Nat) (hx : a.eval x = .slice (some ⟨g, off, none⟩) m c) (news : List Value) (hl : news.length = m * size) (hnews : ∀ j u, news[j]? = some u → w.cell? ⟨g, off + j, none⟩ = some u) (h1 : ∀ u ∈ news, u.oneCell' = true)
 (h63 : n + m ≤ maxLen) (hbytes : (n + m) * bytes ≤ 140737488355328) (hbase : B ≤ w.heap.size)
 (h : ∀ v' w', Own w' B e size v' (n + m) (xs ++ news) → Grew w v w' v' → K (a.put o.dst v') w') :
 if Region.wanted o (yielded ops a.tmps) = true then Oper.wp P o a w K Q else E := by
 have hw : Region.wanted o (yielded ops a.tmps) = true := by simp [Region.wanted, hg]
 rw [if_pos hw]
 obtain ⟨i, hi, hz, hsz, hby⟩ : ∃ i, P.info? e = some i ∧ i.zero = some z ∧ i.size = size ∧ i.bytes = bytes := by
  have hT := T.info
  cases hq : P.info? e with
  | none => simp [hq] at hT
  | some i => simp [hq] at hT; exact ⟨i, rfl, hT.1, hT.2.1, hT.2.2⟩
 obtain ⟨v', w', hr, h2, h3⟩ := run_append (P := P) B t t o.type e i z size bytes T.under ⟨_, T.under, by simp⟩ hi hz hsz hby T.zsize v n xs hown _ m news hl (fun W => by simp [Builtin.lenOf])
  (fun W hW => run_firstCells_some (P := P) W size m ⟨g, off, none⟩ m c news hl (fun j u hu => by
   rw [Addr.add_plain]
   have := hnews j u hu
   simpa [World.cell?, hW] using this)) h1 h63 hbytes hbase
 unfold Oper.wp execOp
 simp only [ho, resolve, invoke, builtin, Sem.run_bind, Sem.run_pure, Result.andThen_ok, List.map_toArray, List.map_cons, List.map_nil, hs, hx, hr]
 exact h v' w' h2 h3
theorem ownB_of {w : World} {B : Nat} {v : Value} {n : Nat} {xs : List Value} {bs : List UInt8} (h : Own w B 5 1 v n xs) (hx : xs = bv bs) : OwnB w B v bs := by
 subst hx
 have : bs.length = n := by have := h.1; rw [bv_length] at this; omega
 unfold OwnB
 rw [this]
 exact h
theorem take_name (s : ByteArray) (k : Nat) (h : k < s.size) : nameL (s.data.toList.take (k + 1)) = nameL (s.data.toList.take k) ++ nameB s[k] := by
 rw [List.take_succ_eq_append_getElem (by simpa using h), nameL_snoc]
 rfl
set_option maxRecDepth 100000 in
set_option maxHeartbeats 400000 in
theorem mName (s : ByteArray) (w : World) (hs : s.size ≤ 1099511627) :
 Calls Tryz.prog 43 #[.string s] w (Texts (nameL s.data.toList) w) := by
 go_enter Tryz.func43, Tryz.ntmps43
 go_wp2_with fail
 go_loopw [3, 9] (fun v i wr => ∃ k : Nat, i = .int .i64 k ∧ k ≤ s.size ∧ Hid (OwnB wr w.heap.size v (nameL (s.data.toList.take k))) ∧ Below w.heap.size w wr) (fun _ i _ => (s.size - intOf i).toNat)
 case atStart =>
  refine ⟨0, rfl, by omega, Lib.hid ?_, (Below.refl _ _).alloc (Nat.le_refl _) _⟩
  refine ⟨rfl, .inr ⟨w.heap.size, 0, 1, #[.int .u8 78], (0, 0), rfl, Nat.le_refl _, heap_alloc_new w _, by simp [nameL], by decide, by decide, by simp, rfl⟩⟩
 case round =>
  obtain ⟨k, rfl, hk, HO, hb⟩ := hrel
  have hsz := hb.size
  by_cases hlt : k < s.size
  ·have hc : (s[k].toNat : Int) < 256 := by have := s[k].toNat_lt; omega
   have hlen := nameL_length (s.data.toList.take k)
   have htl : (s.data.toList.take k).length ≤ k := List.length_take_le _ _
   have HT := Lib.hid (take_name s k hlt)
   by_cases hp : plainB s[k] = true
   ·have HN : Hid (nameB s[k] = [s[k]]) := by unfold Hid nameB; rw [if_pos hp]
    go_wp2_with (first | (at_builtin; refine wpList_app_slice rfl slBytes (.tmp 24) (.tmp 26) rfl w.heap.size u3 _ _ rfl (HO.out.alloc _) wr.heap.size 0 1 1 rfl [.int .u8 (s[k].toNat : Int)] rfl (news_lit _ _ _) (one_of rfl) (by unfold maxLen; omega) (by omega) (by simp; omega) ?_; intro v1 w1 ho1 hg1) | (go_at_call 66; refine (mplain _ _).mono ?_; rintro e w' ⟨rfl, rfl⟩))
    go_roundw
    case rel =>
     refine ⟨k + 1, by go_num, by omega, Lib.hid (ownB_of ho1 ?_), (hb.alloc hsz _).grown hg1.grown (by simp; omega) (fun k hk => (HO.out.lt k hk).1)⟩
     rw [HT.out, HN.out, bv_append]; rfl
    case measure => simp [intOf]; omega
   ·by_cases h95 : (s[k].toNat : Int) = 95
    ·have HN : Hid (nameB s[k] = [95, 95]) := by unfold Hid nameB; rw [if_neg hp, if_pos (by omega)]
     have hb95 : ((s[k].toNat : Int) == 95) = true := by simpa using h95
     have hb46 : ((s[k].toNat : Int) == 46) = false := by rw [h95]; rfl
     clear h95
     go_wp2_with (first | (at_builtin; refine wpList_app_slice rfl slBytes (.tmp 28) (.tmp 29) rfl w.heap.size u3 _ _ rfl (HO.out.alloc _) wr.heap.size 0 1 1 rfl [.int .u8 95] rfl (news_lit _ _ _) (one_of rfl) (by unfold maxLen; omega) (by omega) (by simp; omega) ?_; intro v1 w1 ho1 hg1; have hb1 : Below w.heap.size w w1 := (hb.alloc hsz _).grown hg1.grown (by simp; omega) (fun k hk => (HO.out.lt k hk).1); have hsz1 := hb1.size) | (at_builtin; refine wpList_app_slice rfl slBytes (.tmp 31) (.tmp 32) rfl w.heap.size v1 _ _ rfl (ho1.alloc _) w1.heap.size 0 1 1 rfl [.int .u8 95] rfl (news_lit _ _ _) (one_of rfl) (by unfold maxLen; omega) (by omega) (by simp; omega) ?_; intro v2 w2 ho2 hg2) | (go_at_call 66; refine (mplain _ _).mono ?_; rintro e w' ⟨rfl, rfl⟩))
     go_roundw
     case rel =>
      refine ⟨k + 1, by go_num, by omega, Lib.hid (ownB_of ho2 ?_), (hb1.alloc hsz1 _).grown hg2.grown (by simp; omega) (fun k hk => (ho1.lt k hk).1)⟩
      rw [HT.out, HN.out, bv_append, List.append_assoc]; rfl
     case measure => simp [intOf]; omega
    ·by_cases h46 : (s[k].toNat : Int) = 46
     ·have HN : Hid (nameB s[k] = [95, 111]) := by unfold Hid nameB; rw [if_neg hp, if_neg (by omega), if_pos (by omega)]
      have hb95 : ((s[k].toNat : Int) == 95) = false := by rw [h46]; rfl
      have hb46 : ((s[k].toNat : Int) == 46) = true := by simpa using h46
      clear h46 h95
      go_wp2_with (first | (at_builtin; refine wpList_app_slice rfl slBytes (.tmp 31) (.tmp 32) rfl w.heap.size u3 _ _ rfl (HO.out.alloc _) wr.heap.size 0 1 1 rfl [.int .u8 95] rfl (news_lit _ _ _) (one_of rfl) (by unfold maxLen; omega) (by omega) (by simp; omega) ?_; intro v1 w1 ho1 hg1; have hb1 : Below w.heap.size w w1 := (hb.alloc hsz _).grown hg1.grown (by simp; omega) (fun k hk => (HO.out.lt k hk).1); have hsz1 := hb1.size) | (at_builtin; refine wpList_app_slice rfl slBytes (.tmp 36) (.tmp 37) rfl w.heap.size v1 _ _ rfl (ho1.alloc _) w1.heap.size 0 1 1 rfl [.int .u8 111] rfl (news_lit _ _ _) (one_of rfl) (by unfold maxLen; omega) (by omega) (by simp; omega) ?_; intro v2 w2 ho2 hg2) | (go_at_call 66; refine (mplain _ _).mono ?_; rintro e w' ⟨rfl, rfl⟩))
      go_roundw
      case rel =>
       refine ⟨k + 1, by go_num, by omega, Lib.hid (ownB_of ho2 ?_), (hb1.alloc hsz1 _).grown hg2.grown (by simp; omega) (fun k hk => (ho1.lt k hk).1)⟩
       rw [HT.out, HN.out, bv_append, List.append_assoc]; rfl
      case measure => simp [intOf]; omega
     ·have HN : Hid (nameB s[k] = [95, 120, hexB (s[k].toNat / 16), hexB (s[k].toNat % 16)]) := by unfold Hid nameB; rw [if_neg hp, if_neg (by omega), if_neg (by omega)]
      go_wp2_with (go_at_call 66; refine (mplain _ _).mono ?_; rintro e w' ⟨rfl, rfl⟩)
      have i1 := index_hex (s[k].toNat / 16) (by omega)
      have i2 := index_hex (s[k].toNat % 16) (by omega)
      have e1 : ((s[k].toNat / 16 : Nat) : Int) = (s[k].toNat : Int) / 16 := by omega
      have e2 : ((s[k].toNat % 16 : Nat) : Int) = (s[k].toNat : Int) % 16 := by omega
      rw [e1] at i1
      rw [e2] at i2
      clear e1 e2
      have e3 : bits BinOp.and IntKind.u8 (s[k].toNat : Int) 15 = (s[k].toNat : Int) % 16 := by
       have := u8_and_nat s[k].toNat 15 (by omega) (by omega)
       rw [show ((15 : Nat) : Int) = 15 from rfl] at this
       rw [this, Nat.and_two_pow_sub_one_eq_mod s[k].toNat 4]
       omega
      go_region_law (refine step_app rfl slBytes (.tmp 39) (.tmp 46) rfl w.heap.size u3 _ _ rfl (by exact (HO.out.alloc _).drew) wr.heap.size 0 4 4 rfl [.int .u8 95, .int .u8 120, .int .u8 ((hexB (s[k].toNat / 16)).toNat : Int), .int .u8 ((hexB (s[k].toNat % 16)).toNat : Int)] rfl (by exact news_lit _ _ _) (by exact ones_of4) (by unfold maxLen; omega) (by omega) (by simp; omega) ?_; intro v1 w1 ho1 hg1)
      all_goals
       clear i1 i2 e3
       go_wp2
       go_roundw
       case rel =>
        refine ⟨k + 1, by go_num, by omega, Lib.hid (ownB_of ho1 ?_), ((hb.alloc hsz _).drew).grown hg1.grown (by simp; omega) (fun k hk => (HO.out.lt k hk).1)⟩
        rw [HT.out, HN.out, bv_append]; rfl
       case measure => simp [intOf]; omega
  ·have ek : k = s.size := by omega
   have ho := HO.out
   have e : s.data.toList.take k = s.data.toList := by rw [ek]; exact List.take_of_length_le (by simp)
   rw [e] at ho
   clear ek e HO
   have ks := run_string_own (P := Tryz.prog) 113 5 9 Tryz.underlying113 Tryz.underlying5 Tryz.underlying9 ho
   go_wp2_with fail
   go_ret
   exact ⟨rfl, hb⟩
theorem str_append (l m : List UInt8) : (ByteArray.mk l.toArray) ++ (ByteArray.mk m.toArray) = ⟨(l ++ m).toArray⟩ := by
 apply ByteArray.ext
 simp
theorem conv2 (a b : UInt8) : ∀ (W : World) (g : Nat), W.cell? ⟨g, 0, none⟩ = some (.int .u8 (a.toNat : Int)) → W.cell? ⟨g, 1, none⟩ = some (.int .u8 (b.toNat : Int)) →
 (convert 113 9 (.slice (some ⟨g, 0, none⟩) 2 2)).run Tryz.prog W = .ok (.string ⟨#[a, b]⟩) W := by
 intro W g h0 h1
 exact run_string_of (P := Tryz.prog) 113 5 9 Tryz.underlying113 Tryz.underlying5 Tryz.underlying9 g 0 2 2 [a, b] rfl (by
  intro j u hu
  match j, hu with
  | 0, hu => simp [bv] at hu; subst hu; exact h0
  | 1, hu => simp [bv] at hu; subst hu; exact h1)
theorem conv1 (a : UInt8) : ∀ (W : World) (g : Nat), W.cell? ⟨g, 0, none⟩ = some (.int .u8 (a.toNat : Int)) →
 (convert 113 9 (.slice (some ⟨g, 0, none⟩) 1 1)).run Tryz.prog W = .ok (.string ⟨#[a]⟩) W := by
 intro W g h0
 exact run_string_of (P := Tryz.prog) 113 5 9 Tryz.underlying113 Tryz.underlying5 Tryz.underlying9 g 0 1 1 [a] rfl (by
  intro j u hu
  match j, hu with
  | 0, hu => simp [bv] at hu; subst hu; exact h0)
set_option maxRecDepth 100000 in
set_option maxHeartbeats 400000 in
theorem rByte_plain (c : UInt8) (w : World) (hp : plainB c = true) : Calls Tryz.prog 45 #[.int .u8 (c.toNat : Int)] w (Texts (nameB c) w) := by
 have hN : nameB c = [c] := by unfold nameB; rw [if_pos hp]
 rw [hN]
 have hc : (c.toNat : Int) < 256 := by have := c.toNat_lt; omega
 have hr : 48 ≤ (c.toNat : Int) ∧ (c.toNat : Int) ≤ 57 ∨ 65 ≤ (c.toNat : Int) ∧ (c.toNat : Int) ≤ 90 ∨ 97 ≤ (c.toNat : Int) ∧ (c.toNat : Int) ≤ 122 := by
  have := of_decide_eq_true hp
  omega
 have k1 := conv1 c
 clear hN hp
 rcases hr with ⟨h1, h2⟩ | ⟨h1, h2⟩ | ⟨h1, h2⟩
 all_goals
  go_enter Tryz.func45, Tryz.ntmps45
  go_wp2_with fail
  go_ret
  exact ⟨rfl, (Below.refl _ _).alloc (Nat.le_refl _) _⟩
set_option maxRecDepth 100000 in
set_option maxHeartbeats 400000 in
theorem rByte_other (c : UInt8) (w : World) (hp : ¬ plainB c = true) : Calls Tryz.prog 45 #[.int .u8 (c.toNat : Int)] w (Texts (nameB c) w) := by
 have hc : (c.toNat : Int) < 256 := by have := c.toNat_lt; omega
 have hr : ¬ (48 ≤ (c.toNat : Int) ∧ (c.toNat : Int) ≤ 57 ∨ 65 ≤ (c.toNat : Int) ∧ (c.toNat : Int) ≤ 90 ∨ 97 ≤ (c.toNat : Int) ∧ (c.toNat : Int) ≤ 122) := by
  intro h
  apply hp
  unfold plainB
  rw [decide_eq_true_iff]
  omega
 by_cases h95 : c.toNat = 95
 ·have hN : nameB c = [95, 95] := by unfold nameB; rw [if_neg hp, if_pos h95]
  rw [hN]
  have e : (c.toNat : Int) = 95 := by omega
  rw [e]
  clear hN hr hc hp
  go_enter Tryz.func45, Tryz.ntmps45
  go_wp2_with fail
  go_ret
  exact ⟨rfl, Below.refl _ _⟩
 ·by_cases h46 : c.toNat = 46
  ·have hN : nameB c = [95, 111] := by unfold nameB; rw [if_neg hp, if_neg h95, if_pos h46]
   rw [hN]
   have e : (c.toNat : Int) = 46 := by omega
   rw [e]
   clear hN hr hc hp
   go_enter Tryz.func45, Tryz.ntmps45
   go_wp2_with fail
   go_ret
   exact ⟨rfl, Below.refl _ _⟩
  ·have hN : nameB c = [95, 120, hexB (c.toNat / 16), hexB (c.toNat % 16)] := by unfold nameB; rw [if_neg hp, if_neg h95, if_neg h46]
   rw [hN]
   have i1 := index_hex (c.toNat / 16) (by omega)
   have i2 := index_hex (c.toNat % 16) (by omega)
   have e1 : ((c.toNat / 16 : Nat) : Int) = (c.toNat : Int) / 16 := by omega
   have e2 : ((c.toNat % 16 : Nat) : Int) = (c.toNat : Int) % 16 := by omega
   rw [e1] at i1
   rw [e2] at i2
   have k2 := conv2 (hexB (c.toNat / 16)) (hexB (c.toNat % 16))
   have h95' : ((c.toNat : Int) == 95) = false := by simp; omega
   have h46' : ((c.toNat : Int) == 46) = false := by simp; omega
   have hr' : (c.toNat : Int) < 48 ∨ 57 < (c.toNat : Int) ∧ (c.toNat : Int) < 65 ∨ 90 < (c.toNat : Int) ∧ (c.toNat : Int) < 97 ∨ 122 < (c.toNat : Int) := by omega
   clear hN hr hp e1 e2 h95 h46
   have t1 : IntKind.u8.wrap ((c.toNat : Int) / 16) = (c.toNat : Int) / 16 := by rw [IntKind.wrap_u8']; omega
   have t2 : (c.toNat : Int).tmod 16 = (c.toNat : Int) % 16 := Int.tmod_eq_emod_of_nonneg (by omega)
   rcases hr' with h | ⟨h, h'⟩ | ⟨h, h'⟩ | h
   all_goals
    go_enter Tryz.func45, Tryz.ntmps45
    go_wp2_with fail
    go_region_law (fail)
    all_goals
     clear i1 i2 k2 t1 t2
     go_wp2_with fail
     go_ret
     exact ⟨rfl, ((Below.refl _ _).alloc (Nat.le_refl _) _).drew⟩
theorem rByte (c : UInt8) (w : World) : Calls Tryz.prog 45 #[.int .u8 (c.toNat : Int)] w (Texts (nameB c) w) := by
 by_cases hp : plainB c = true
 ·exact rByte_plain c w hp
 ·exact rByte_other c w hp
set_option maxRecDepth 100000 in
set_option maxHeartbeats 400000 in
theorem rName (s : ByteArray) (w : World) (hs : s.size ≤ 1099511627) :
 Calls Tryz.prog 20 #[.string s] w (Texts (nameL s.data.toList) w) := by
 go_enter Tryz.func20, Tryz.ntmps20
 go_wp2_with fail
 go_loopw [3, 4] (fun t i wr => ∃ k : Nat, i = .int .i64 k ∧ k ≤ s.size ∧ t = .string ⟨(nameL (s.data.toList.take k)).toArray⟩ ∧ Below w.heap.size w wr) (fun _ i _ => (s.size - intOf i).toNat)
 case atStart => exact ⟨0, rfl, by omega, by simp [nameL], Below.refl _ _⟩
 case round =>
  obtain ⟨k, rfl, hk, rfl, hb⟩ := hrel
  by_cases hlt : k < s.size
  ·have HT := Lib.hid (take_name s k hlt)
   have hL : (nameL (s.data.toList.take k)).length + (nameB s[k]).length ≤ 9223372036854775807 := by
    have h1 := nameL_length (s.data.toList.take k)
    have h2 := nameB_length s[k]
    have h3 : (s.data.toList.take k).length ≤ k := List.length_take_le _ _
    omega
   generalize nameL (s.data.toList.take k) = l at HT hL ⊢
   have hc := rByte s[k]
   generalize nameB s[k] = m at HT hc hL
   go_wp2_with (go_at_call 45; refine (hc _).mono ?_; rintro e w1 ⟨rfl, hb1⟩)
   go_roundw
   case rel => exact ⟨k + 1, by go_num, by omega, by rw [HT.out, str_append], hb.trans (hb1.mono hb.size)⟩
   case measure => simp [intOf]; omega
  ·have e : s.data.toList.take k = s.data.toList := List.take_of_length_le (by simp; omega)
   rw [e]
   clear e
   go_wp2_with fail
   go_ret
   exact ⟨rfl, hb⟩
end Go.Proofs.YtkgbbcnjkojocaaGreatDoor
namespace Go.Proofs.YtkgbbcnjkojocaaGreatDoor
open Go.RowKit Go.Av Go.Ab
set_option linter.unusedSimpArgs false
set_option maxRecDepth 100000
theorem textB {P : Program} {I : Inv} {g : FuncId} {f : Func} {r : List UInt8 → Bool} (hf : P.funcs[g]? = some f) (hb : f.body.isSome = true) (hn : (f.name == "runtime.NumGoroutine") = false)
 (h : ∀ (s : ByteArray) (w : World), I.holds w → s.size ≤ 9223372036854775807 → Calls P g #[.string s] w fun e w' => e = .returned (.bool (r s.data.toList)) ∧ Below w.heap.size w w') (s : List UInt8) (S : Mem) : AFn P I g [.d (.str s)] S (Same (.d (.bool (r s))) S) := by
 refine AFn.of_calls hf hb hn fun c w xs h1 h2 h3 hI => ?_
 have hv := h2 0 (by simp)
 obtain ⟨x, rfl⟩ : ∃ x, xs = #[x] := ⟨xs[0]'(by simp at h1; omega), by apply Array.ext <;> simp_all⟩
 simp at hv
 cases hv with
 | d _ _ hv => cases hv with
  | str _ hl =>
   refine (h ⟨s.toArray⟩ w hI (by simpa [ByteArray.size] using hl)).mono ?_
   rintro e w' ⟨rfl, hb⟩
   exact ⟨_, _, rfl, ⟨rfl, rfl⟩, hb, .d _ _ (.bool _)⟩
theorem textI {P : Program} {I : Inv} {g : FuncId} {f : Func} {r : List UInt8 → Int} (hf : P.funcs[g]? = some f) (hb : f.body.isSome = true) (hn : (f.name == "runtime.NumGoroutine") = false)
 (h : ∀ (s : ByteArray) (w : World), I.holds w → s.size ≤ 9223372036854775807 → Calls P g #[.string s] w fun e w' => e = .returned (.int .i64 (r s.data.toList)) ∧ Below w.heap.size w w') (s : List UInt8) (S : Mem) : AFn P I g [.d (.str s)] S (Same (.d (.int .i64 (r s))) S) := by
 refine AFn.of_calls hf hb hn fun c w xs h1 h2 h3 hI => ?_
 have hv := h2 0 (by simp)
 obtain ⟨x, rfl⟩ : ∃ x, xs = #[x] := ⟨xs[0]'(by simp at h1; omega), by apply Array.ext <;> simp_all⟩
 simp at hv
 cases hv with
 | d _ _ hv => cases hv with
  | str _ hl =>
   refine (h ⟨s.toArray⟩ w hI (by simpa [ByteArray.size] using hl)).mono ?_
   rintro e w' ⟨rfl, hb⟩
   exact ⟨_, _, rfl, ⟨rfl, rfl⟩, hb, .d _ _ (.int _ _)⟩
theorem simple_ab (s : List UInt8) (S : Mem) : AFn Tryz.prog TabI 55 [.d (.str s)] S (Same (.d (.bool (SimpleS s))) S) :=
 textB Tryz.func55 rfl (by kernel_rfl) (fun s w _ hs => (nSimple s w hs).mono fun e w' ⟨h1, h2⟩ => ⟨h1, h2 ▸ Below.refl _ _⟩) s S
theorem simpleR_ab (s : List UInt8) (S : Mem) : AFn Tryz.prog TabI 82 [.d (.str s)] S (Same (.d (.bool (SimpleS s))) S) :=
 textB Tryz.func82 rfl (by kernel_rfl) (fun s w _ hs => (nrSimple s w hs).mono fun e w' ⟨h1, h2⟩ => ⟨h1, h2 ▸ Below.refl _ _⟩) s S
theorem full_ab (s : List UInt8) (S : Mem) : AFn Tryz.prog TabI 33 [.d (.str s)] S (Same (.d (.bool (FullS s))) S) :=
 textB Tryz.func33 rfl (by kernel_rfl) (fun s w _ hs => (nFull s w hs).mono fun e w' ⟨h1, h2⟩ => ⟨h1, h2⟩) s S
theorem fullR_ab (s : List UInt8) (S : Mem) : AFn Tryz.prog TabI 60 [.d (.str s)] S (Same (.d (.bool (FullS s))) S) :=
 textB Tryz.func60 rfl (by kernel_rfl) (fun s w _ hs => (nrFull s w hs).mono fun e w' ⟨h1, h2⟩ => ⟨h1, h2 ▸ Below.refl _ _⟩) s S
theorem kind_ab (s : List UInt8) (S : Mem) : AFn Tryz.prog TabI 51 [.d (.str s)] S (Same (.d (.int .i64 (kindS s : Int))) S) :=
 textI (r := fun s => (kindS s : Int)) Tryz.func51 rfl (by kernel_rfl) (fun s w ht hs => (nKind s w ht).mono fun e w' ⟨h1, h2⟩ => ⟨h1, h2 ▸ Below.refl _ _⟩) s S
theorem kindR_ab (s : List UInt8) (S : Mem) : AFn Tryz.prog TabI 61 [.d (.str s)] S (Same (.d (.int .i64 (kindS s : Int))) S) :=
 textI (r := fun s => (kindS s : Int)) Tryz.func61 rfl (by kernel_rfl) (fun s w _ hs => (nrKind s w).mono fun e w' ⟨h1, h2⟩ => ⟨h1, h2 ▸ Below.refl _ _⟩) s S
end Go.Proofs.YtkgbbcnjkojocaaGreatDoor
namespace Go.Proofs.YtkgbbcnjkojocaaGreatDoor
set_option linter.unusedVariables false
set_option linter.unusedSimpArgs false
inductive JsT
 | mk (kind : Int) (int : Int) (text : List UInt8) (items : List JsT) (keys : List (List UInt8))
def JsT.kind : JsT → Int | .mk k _ _ _ _ => k
def JsT.int : JsT → Int | .mk _ i _ _ _ => i
def JsT.text : JsT → List UInt8 | .mk _ _ t _ _ => t
def JsT.items : JsT → List JsT | .mk _ _ _ l _ => l
def JsT.keys : JsT → List (List UInt8) | .mk _ _ _ _ k => k
def bareJ (u : List UInt8 → Bool) (k i : Int) (t : List UInt8) (l : List JsT) : Bool :=
 if k = 1 then decide (i = 0) && (t.isEmpty && l.isEmpty)
 else if k = 2 then (decide (i = 0) || decide (i = 1)) && (t.isEmpty && l.isEmpty)
 else if k = 3 then t.isEmpty && l.isEmpty
 else if k = 4 then decide (i = 0) && (l.isEmpty && u t)
 else if k = 5 ∨ k = 6 then decide (i = 0) && t.isEmpty
 else false
def onceJ : List (List UInt8) → Bool
 | [] => true
 | x :: l => !l.contains x && onceJ l
def keysJ (u : List UInt8 → Bool) (k : Int) (n : Nat) (ks : List (List UInt8)) : Bool := if k = 6 then decide (ks.length = n) && (onceJ ks && ks.all u) else ks.isEmpty
mutual
def rgtJ (u : List UInt8 → Bool) : Nat → JsT → Bool
 | d, .mk k i t l ks => bareJ u k i t l && (keysJ u k l.length ks && (!(decide (32 ≤ d) && (decide (k = 5) || decide (k = 6))) && rgtJs u (d + 1) l))
def rgtJs (u : List UInt8 → Bool) : Nat → List JsT → Bool
 | _, [] => true
 | d, x :: l => rgtJ u d x && rgtJs u d l
end
mutual
def deepJ : JsT → Nat
 | .mk k _ _ l _ => if k = 5 ∨ k = 6 then 1 + deepJs l else 0
def deepJs : List JsT → Nat
 | [] => 0
 | x :: l => max (deepJ x) (deepJs l)
end
mutual
def shpJ (u : List UInt8 → Bool) : JsT → Bool
 | .mk k i t l ks => (decide (1 ≤ k) && (decide (k ≤ 6) && ((decide (k = 2) || (decide (k = 3) || decide (i = 0))) && ((!decide (k = 2) || (decide (i = 0) || decide (i = 1))) && ((decide (k = 4) || t.isEmpty) && (u t && ((decide (5 ≤ k) || l.isEmpty) && ((decide (k = 6) || ks.isEmpty) && ((!decide (k = 6) || decide (ks.length = l.length))
  && ((ks.all u && onceJ ks) && shpJs u l))))))))))
def shpJs (u : List UInt8 → Bool) : List JsT → Bool
 | [] => true
 | x :: l => shpJ u x && shpJs u l
end
mutual
theorem rgtJ_eq (u : List UInt8 → Bool) (hu : u [] = true) : ∀ (j : JsT) (d : Nat), d ≤ 32 → rgtJ u d j = (decide (deepJ j + d ≤ 32) && shpJ u j)
 | .mk k i t l ks, d, hd => by
  rw [rgtJ, shpJ, deepJ]
  unfold bareJ keysJ
  by_cases k5 : k = 5 ∨ k = 6
  ·by_cases hd2 : 32 ≤ d
   ·have e1 : ¬ (1 + deepJs l + d ≤ 32) := by omega
    rcases k5 with rfl | rfl <;> simp [hd2, e1]
   ·rw [rgtJs_eq u hu l (d + 1) (by omega)]
    have e2 : decide (deepJs l + (d + 1) ≤ 32) = decide (1 + deepJs l + d ≤ 32) := decide_eq_decide.2 (by omega)
    rw [e2]
    rcases k5 with rfl | rfl
    ·cases t with
     | nil => cases ks <;> simp [hu, hd2, onceJ] <;> grind
     | cons c t => simp
    ·cases t with
     | nil => simp [hu, hd2] <;> grind
     | cons c t => simp
  ·rw [if_neg k5]
   have e1 : decide (0 + d ≤ 32) = true := decide_eq_true (by omega)
   have n5 : decide (k = 5) = false := decide_eq_false fun e => k5 (.inl e)
   have n6 : decide (k = 6) = false := decide_eq_false fun e => k5 (.inr e)
   have m6 : ¬ k = 6 := fun e => k5 (.inr e)
   rw [if_neg k5, e1, n5, n6, if_neg m6]
   have hleaf : ∀ (x : JsT) (l : List JsT), decide (5 ≤ k) = false ∨ 6 < k := fun _ _ => by
    by_cases h : 5 ≤ k
    ·exact .inr (by omega)
    ·exact .inl (decide_eq_false h)
   cases l with
   | nil =>
    rw [rgtJs, shpJs]
    by_cases h1 : k = 1
    ·subst h1; cases t <;> cases ks <;> simp [hu, onceJ]
    by_cases h2 : k = 2
    ·subst h2; cases t <;> cases ks <;> simp [hu, onceJ]
    by_cases h3 : k = 3
    ·subst h3; cases t <;> cases ks <;> simp [hu, onceJ]
    by_cases h4 : k = 4
    ·subst h4; cases ks <;> simp [onceJ] <;> grind
    rw [if_neg h1, if_neg h2, if_neg h3, if_neg h4]
    by_cases h : 1 ≤ k
    ·have : decide (k ≤ 6) = false := decide_eq_false (by omega)
     simp [this]
    ·simp [h]
   | cons x l =>
    have : decide (5 ≤ k) = false ∨ decide (k ≤ 6) = false := by
     by_cases h : 5 ≤ k
     ·exact .inr (decide_eq_false (by omega))
     ·exact .inl (decide_eq_false h)
    rcases this with q | q <;> simp [q]
theorem rgtJs_eq (u : List UInt8 → Bool) (hu : u [] = true) : ∀ (l : List JsT) (d : Nat), d ≤ 32 → rgtJs u d l = (decide (deepJs l + d ≤ 32) && shpJs u l)
 | [], d, hd => by
  rw [rgtJs, shpJs, deepJs, decide_eq_true (by omega)]
  rfl
 | x :: l, d, hd => by
  rw [rgtJs, shpJs, deepJs, rgtJ_eq u hu x d hd, rgtJs_eq u hu l d hd]
  have : decide (max (deepJ x) (deepJs l) + d ≤ 32) = (decide (deepJ x + d ≤ 32) && decide (deepJs l + d ≤ 32)) := by
   rw [← Bool.decide_and]
   exact decide_eq_decide.2 (by omega)
  rw [this]
  cases decide (deepJ x + d ≤ 32) <;> cases decide (deepJs l + d ≤ 32) <;> simp
end
structure FdT where
 name : List UInt8
 aliases : List (List UInt8)
 type : Int
 has : Bool
 dflt : JsT
structure NdT where
 kind : Int
 name : List UInt8
 aliases : List (List UInt8)
 fields : List FdT
 symbols : List (List UInt8)
 has : Bool
 dflt : List UInt8
 size : Int
 items : Int
 branches : List Int
structure ScT where
 nodes : List NdT
 root : Int
def namedB (k : Int) : Bool := decide (k = 9) || (decide (k = 10) || decide (k = 14))
def kidsN (n : NdT) : List Int := if n.kind = 9 then n.fields.map FdT.type else if n.kind = 11 ∨ n.kind = 12 then [n.items] else if n.kind = 13 then n.branches else []
def bareN (n : NdT) : Bool :=
 (namedB n.kind || (n.name.isEmpty && n.aliases.isEmpty)) && ((decide (n.kind = 9) || n.fields.isEmpty) && ((decide (n.kind = 10) || (n.symbols.isEmpty && (!n.has && n.dflt.isEmpty))) &&
  ((decide (n.kind = 14) || decide (n.size = 0)) && ((decide (n.kind = 11) || (decide (n.kind = 12) || decide (n.items = 0))) && (decide (n.kind = 13) || n.branches.isEmpty)))))
def diffF (r : List UInt8 → Bool) : List (List UInt8) → List (List UInt8) → Bool
 | _, [] => true
 | seen, x :: l => r x && (!seen.contains x && diffF r (seen ++ [x]) l)
def onceF : List (List UInt8) → List (List UInt8) → Bool
 | _, [] => true
 | seen, x :: l => !seen.contains x && onceF (seen ++ [x]) l
theorem diffF_eq (r : List UInt8 → Bool) : ∀ (l seen : List (List UInt8)), diffF r seen l = (l.all r && onceF seen l)
 | [], _ => rfl
 | x :: l, seen => by
  rw [diffF, onceF, List.all_cons, diffF_eq r l]
  cases r x <;> cases seen.contains x <;> simp
section
variable (simple full : List UInt8 → Bool) (word : List UInt8 → Int) (rj zj : JsT → Bool) (kd : Int → Int)
def allF (r : List UInt8 → Bool) (l : List (List UInt8)) : Bool := decide (l.length ≤ 40) && l.all r
def defF (f : FdT) : Bool := if f.has = true then rj f.dflt else zj f.dflt
def unionF : List Int → List Int → Bool
 | _, [] => true
 | seen, k :: l => (!decide (kd k = 13) && seen.all fun m => !(decide (m = k) || (!namedB (kd k) && decide (kd m = kd k)))) && unionF (seen ++ [k]) l
def unionG : List Int → List Int → Bool
 | _, [] => true
 | seen, k :: l => (!decide (kd k = 13) && seen.all fun m => !decide (k = m) && (!decide (kd k = kd m) || namedB (kd k))) && unionG (seen ++ [k]) l
theorem unionF_eq : ∀ (l seen : List Int), unionF kd seen l = unionG kd seen l
 | [], _ => rfl
 | k :: l, seen => by
  rw [unionF, unionG, unionF_eq l]
  have : (fun m => !(decide (m = k) || (!namedB (kd k) && decide (kd m = kd k)))) = fun m => !decide (k = m) && (!decide (kd k = kd m) || namedB (kd k)) := by
   funext m
   rw [show decide (m = k) = decide (k = m) from decide_eq_decide.2 eq_comm, show decide (kd m = kd k) = decide (kd k = kd m) from decide_eq_decide.2 eq_comm]
   cases decide (k = m) <;> cases namedB (kd k) <;> cases decide (kd k = kd m) <;> rfl
  rw [this]
def nodeP (n : NdT) : Bool :=
 decide (1 ≤ n.kind) && (decide (n.kind ≤ 14) && (bareN n && ((!namedB n.kind || (full n.name && (decide (word n.name = 0) && allF full n.aliases))) &&
  (if n.kind = 9 then n.fields.all (fun f => allF simple f.aliases && defF rj zj f) && (decide (n.fields.length ≤ 40) && diffF simple [] (n.fields.map FdT.name))
   else if n.kind = 10 then (n.has == n.symbols.contains n.dflt) && ((n.has || n.dflt.isEmpty) && (decide (1 ≤ n.symbols.length) && (decide (n.symbols.length ≤ 40) && diffF simple [] n.symbols)))
   else if n.kind = 14 then decide (0 ≤ n.size) && decide (n.size ≤ 1000)
   else if n.kind = 13 then decide (1 ≤ n.branches.length) && (decide (n.branches.length ≤ 10) && unionF kd [] n.branches)
   else true))))
def nodeR (n : NdT) : Bool :=
 (!namedB n.kind || (full n.name && (!decide (0 < word n.name) && (decide (n.aliases.length ≤ 40) && n.aliases.all full)))) && ((decide (1 ≤ n.kind) && (decide (n.kind ≤ 14) &&
  (if n.kind = 9 then n.fields.all (fun f => (f.aliases.all simple && decide (f.aliases.length ≤ 40)) && defF rj zj f) && (((n.fields.map FdT.name).all simple && decide ((n.fields.map FdT.name).length ≤ 40)) && onceF [] (n.fields.map FdT.name))
   else if n.kind = 10 then decide (0 < n.symbols.length) && ((n.symbols.all simple && decide (n.symbols.length ≤ 40)) && (onceF [] n.symbols && ((n.has && n.symbols.contains n.dflt) || (!n.has && n.dflt.isEmpty))))
   else if n.kind = 14 then decide (0 ≤ n.size) && decide (n.size ≤ 1000)
   else if n.kind = 13 then decide (0 < n.branches.length) && (decide (n.branches.length ≤ 10) && unionG kd [] n.branches)
   else true))) && bareN n)
theorem node_same (hs : simple [] = false) (hw : ∀ s, 0 ≤ word s) (n : NdT) : nodeP simple full word rj zj kd n = nodeR simple full word rj zj kd n := by
 unfold nodeP nodeR allF
 have hw0 : decide (word n.name = 0) = !decide (0 < word n.name) := by
  rw [← decide_not]
  exact decide_eq_decide.2 (by have := hw n.name; omega)
 rw [hw0, diffF_eq, diffF_eq, unionF_eq]
 have hfs : (n.fields.all fun f => (decide (f.aliases.length ≤ 40) && f.aliases.all simple) && defF rj zj f) = n.fields.all fun f => (f.aliases.all simple && decide (f.aliases.length ≤ 40)) && defF rj zj f := by
  congr 1
  funext f
  rw [Bool.and_comm (decide (f.aliases.length ≤ 40))]
 rw [hfs]
 have hen : ((n.has == n.symbols.contains n.dflt) && ((n.has || n.dflt.isEmpty) && (decide (1 ≤ n.symbols.length) && (decide (n.symbols.length ≤ 40) && (n.symbols.all simple && onceF [] n.symbols))))) = (decide (0 < n.symbols.length) && ((n.symbols.all simple && decide (n.symbols.length ≤ 40)) && (onceF [] n.symbols && ((n.has && n.symbols.contains n.dflt) || (!n.has && n.dflt.isEmpty))))) := by
  rw [show decide (1 ≤ n.symbols.length) = decide (0 < n.symbols.length) from rfl]
  cases ha : n.symbols.all simple
  ·simp
  ·have hc : n.dflt = [] → n.symbols.contains n.dflt = false := fun e => by
    refine Bool.eq_false_iff.2 fun h => ?_
    rw [List.contains_iff_mem, e] at h
    have := List.all_eq_true.1 ha _ h
    rw [hs] at this
    cases this
   cases hd : n.dflt.isEmpty
   ·cases n.has <;> cases n.symbols.contains n.dflt <;> cases decide (0 < n.symbols.length) <;> cases decide (n.symbols.length ≤ 40) <;> cases onceF [] n.symbols <;> rfl
   ·rw [hc (List.isEmpty_iff.1 hd)]
    cases n.has <;> cases decide (0 < n.symbols.length) <;> cases decide (n.symbols.length ≤ 40) <;> cases onceF [] n.symbols <;> rfl
 rw [hen]
 have hl : (n.fields.map FdT.name).length = n.fields.length := List.length_map _
 rw [hl]
 rw [show decide (1 ≤ n.branches.length) = decide (0 < n.branches.length) from rfl]
 generalize decide (1 ≤ n.kind) = a
 generalize decide (n.kind ≤ 14) = b
 generalize bareN n = c
 generalize namedB n.kind = d
 split
 ·generalize (n.fields.all fun f => (f.aliases.all simple && decide (f.aliases.length ≤ 40)) && defF rj zj f) = x
  cases a <;> cases b <;> cases c <;> cases d <;> cases x <;> simp <;> grind
 ·cases a <;> cases b <;> cases c <;> cases d <;> simp <;> grind
end
end Go.Proofs.YtkgbbcnjkojocaaGreatDoor
namespace Go.Proofs.YtkgbbcnjkojocaaGreatDoor
open Go.RowKit Go.Av Go.Ab
set_option linter.unusedSimpArgs false
set_option maxRecDepth 100000
mutual
def jsD : JsT → List D
 | .mk k i t l ks => [.int .i64 k, .int .i64 i, .str t, .sl (jsDs l), .sl (ssD ks)]
def jsDs : List JsT → List (List D)
 | [] => []
 | x :: l => jsD x :: jsDs l
end
theorem jsDs_map : ∀ l : List JsT, jsDs l = l.map jsD
 | [] => by simp [jsDs]
 | t :: l => by simp [jsDs, jsDs_map l]
theorem jsD_eq (j : JsT) : jsD j = [.int .i64 j.kind, .int .i64 j.int, .str j.text, .sl (j.items.map jsD), .sl (ssD j.keys)] := by
 cases j
 rw [jsD, jsDs_map]
 rfl
def isD (l : List Int) : List (List D) := l.map fun i => [.int .i64 i]
def fdD (f : FdT) : List D := [.str f.name, .sl (ssD f.aliases), .int .i64 f.type, .bool f.has, .int .i64 f.dflt.kind, .int .i64 f.dflt.int, .str f.dflt.text, .sl (f.dflt.items.map jsD), .sl (ssD f.dflt.keys)]
def ndD (n : NdT) : List D := [.int .i64 n.kind, .str n.name, .sl (ssD n.aliases), .sl (n.fields.map fdD), .sl (ssD n.symbols), .bool n.has, .str n.dflt, .int .i64 n.size, .int .i64 n.items, .sl (isD n.branches)]
theorem fdD_eq (f : FdT) : fdD f = [.str f.name, .sl (ssD f.aliases), .int .i64 f.type, .bool f.has, .int .i64 f.dflt.kind, .int .i64 f.dflt.int, .str f.dflt.text, .sl (f.dflt.items.map jsD), .sl (ssD f.dflt.keys)] := rfl
theorem ndD_eq (n : NdT) : ndD n = [.int .i64 n.kind, .str n.name, .sl (ssD n.aliases), .sl (n.fields.map fdD), .sl (ssD n.symbols), .bool n.has, .str n.dflt, .int .i64 n.size, .int .i64 n.items, .sl (isD n.branches)] := rfl
def jsV (j : JsT) : V := .agg [.d (.int .i64 j.kind), .d (.int .i64 j.int), .d (.str j.text), .d (.sl (j.items.map jsD)), .d (.sl (ssD j.keys))]
def ndV (n : NdT) : V := .agg [.d (.int .i64 n.kind), .d (.str n.name), .d (.sl (ssD n.aliases)), .d (.sl (n.fields.map fdD)), .d (.sl (ssD n.symbols)), .d (.bool n.has), .d (.str n.dflt), .d (.int .i64 n.size), .d (.int .i64 n.items), .d (.sl (isD n.branches))]
def scV (s : ScT) : V := .agg [.d (.sl (s.nodes.map ndD)), .d (.int .i64 s.root)]
end Go.Proofs.YtkgbbcnjkojocaaGreatDoor
namespace Go.Proofs.YtkgbbcnjkojocaaGreatDoor
set_option linter.unusedVariables false
set_option linter.unusedSimpArgs false
section
variable (kids : Nat → List Int) (nm : Int → Bool) (n : Nat)
def metL (g : Nat → Int) : Nat → List Int → Int
 | next, [] => next
 | next, k :: l =>
  if k = (next : Int) then (if g next < 0 then -1 else metL g (g next).toNat l)
  else if (decide (k < 0) || (decide ((next : Int) < k) || !nm k)) = true then -1 else metL g next l
def metW : Nat → Nat → Nat → Int
 | 0, _, _ => -1
 | f + 1, a, d => if n ≤ a ∨ 32 < d then -1 else metL nm (fun k => metW f k (d + 1)) (a + 1) (kids a)
theorem met_kids : ∀ (f a d : Nat), 0 ≤ metW kids nm n f a d → a < (metW kids nm n f a d).toNat ∧ (metW kids nm n f a d).toNat ≤ n ∧ ∀ i, a ≤ i → i < (metW kids nm n f a d).toNat → ∀ k ∈ kids i, 0 ≤ k ∧ k < (n : Int)
 | 0, a, d, h => absurd h (by simp [metW])
 | f + 1, a, d, h => by
  unfold metW at h ⊢
  by_cases hc : n ≤ a ∨ 32 < d
  ·rw [if_pos hc] at h
   exact absurd h (by decide)
  rw [if_neg hc] at h ⊢
  have hlist : ∀ (l : List Int) (next : Nat), next ≤ n → 0 ≤ metL nm (fun k => metW kids nm n f k (d + 1)) next l →
   next ≤ (metL nm (fun k => metW kids nm n f k (d + 1)) next l).toNat ∧ (metL nm (fun k => metW kids nm n f k (d + 1)) next l).toNat ≤ n ∧ (∀ k ∈ l, 0 ≤ k ∧ k < (n : Int)) ∧
   ∀ i, next ≤ i → i < (metL nm (fun k => metW kids nm n f k (d + 1)) next l).toNat → ∀ k ∈ kids i, 0 ≤ k ∧ k < (n : Int) := by
   intro l
   induction l with
   | nil =>
    intro next hn _
    unfold metL
    exact ⟨by simp, by simpa using hn, (fun _ h => nomatch h), fun i h1 h2 => by simp at h2; omega⟩
   | cons k l ih =>
    intro next hn hm
    unfold metL at hm ⊢
    by_cases hk : k = (next : Int)
    ·rw [if_pos hk] at hm ⊢
     by_cases hg : metW kids nm n f next (d + 1) < 0
     ·rw [if_pos hg] at hm
      exact absurd hm (by decide)
     rw [if_neg hg] at hm ⊢
     obtain ⟨p1, p2, p3⟩ := met_kids f next (d + 1) (by omega)
     obtain ⟨q1, q2, q3, q4⟩ := ih _ p2 hm
     refine ⟨by omega, q2, fun j hj => ?_, fun i h1 h2 => ?_⟩
     ·rcases List.mem_cons.1 hj with rfl | hj
      ·omega
      ·exact q3 j hj
     ·by_cases hi : i < (metW kids nm n f next (d + 1)).toNat
      ·exact p3 i h1 hi
      ·exact q4 i (by omega) h2
    ·rw [if_neg hk] at hm ⊢
     by_cases hb : (decide (k < 0) || (decide ((next : Int) < k) || !nm k)) = true
     ·rw [if_pos hb] at hm
      exact absurd hm (by decide)
     rw [if_neg hb] at hm ⊢
     obtain ⟨q1, q2, q3, q4⟩ := ih next hn hm
     refine ⟨q1, q2, fun j hj => ?_, q4⟩
     rcases List.mem_cons.1 hj with rfl | hj
     ·simp at hb
      omega
     ·exact q3 j hj
  obtain ⟨q1, q2, q3, q4⟩ := hlist (kids a) (a + 1) (by omega) h
  refine ⟨by omega, q2, fun i h1 h2 => ?_⟩
  by_cases e : i = a
  ·subst e; exact q3
  ·exact q4 i (by omega) h2
end
section
variable (mn : List UInt8 → List UInt8) (num : List UInt8 → Nat → List UInt8)
def noN : NdT := ⟨0, [], [], [], [], false, [], 0, 0, []⟩
def ndN (l : List NdT) (a : Nat) : NdT := l.getD a noN
def snmN (l : List NdT) (a : Nat) : List UInt8 := if (ndN l a).kind = 9 then mn (ndN l a).name else if (ndN l a).kind = 12 then num [77] a else num [85] a
def slT (t : TyT) : TyT := .mk 8 [] [t]
def typN (l : List NdT) : Nat → Nat → TyT
 | 0, _ => .mk 0 [] []
 | f + 1, a =>
  let k := (ndN l a).kind
  if k = 1 then .mk 7 [90] [] else if k = 2 then .mk 1 [] [] else if k = 3 then .mk 3 [] [] else if k = 4 ∨ k = 10 then .mk 4 [] [] else if k = 5 then .mk 5 [] [] else if k = 6 then .mk 6 [] []
  else if k = 9 ∨ k = 12 then slT (.mk 7 (snmN mn num l a) []) else if k = 11 then slT (typN l f (ndN l a).items.toNat) else if k = 13 then .mk 7 (snmN mn num l a) [] else slT (.mk 2 [] [])
def ArrN (l : List NdT) : Nat → Nat → Prop
 | 0, _ => False
 | f + 1, a => a < l.length ∧ ((ndN l a).kind = 11 → 0 ≤ (ndN l a).items ∧ ArrN l f (ndN l a).items.toNat)
def fldN (l : List NdT) (f a : Nat) : List PaT :=
 if (ndN l a).kind = 9 then (ndN l a).fields.map fun x => ⟨mn x.name, typN mn num l f x.type.toNat⟩
 else if (ndN l a).kind = 12 then [⟨[107], slT (.mk 2 [] [])⟩, ⟨[118], typN mn num l f (ndN l a).items.toNat⟩]
 else ⟨[116, 97, 103], .mk 4 [] []⟩ :: (ndN l a).branches.mapIdx fun i k => ⟨num [98] i, slT (typN mn num l f k.toNat)⟩
def hasN (n : NdT) : Bool := decide (n.kind = 9) || (decide (n.kind = 12) || decide (n.kind = 13))
def strN (l : List NdT) (f a : Nat) : SuT := ⟨snmN mn num l a, fldN mn num l f a⟩
def strsN (l : List NdT) (f : Nat) : List Nat → List SuT
 | [] => []
 | a :: r => if hasN (ndN l a) = true then strN mn num l f a :: strsN l f r else strsN l f r
end
end Go.Proofs.YtkgbbcnjkojocaaGreatDoor
namespace Go.Ab
open Go.RowKit Go.Av
theorem Left.empty {R : V → Mem → Prop} {v : V} {S' : Mem} (h : R (wk 0 0 v) ⟨[], []⟩) : Left ⟨[], []⟩ R v S' := ⟨[], S'.boxes, [], S'.toks, rfl, rfl, rfl, fun i vs h => by simp at h, h⟩
section
variable {P : Program} {I : Inv} {ops : Array Oper} {W : List Nat} {M : Nat → Mem}
def QA (P : Program) (I : Inv) (ops : Array Oper) (M : Nat → Mem) (o : Oper) (env env' : List V) : Prop := ∀ b, ∃ v, YA P I ops o env (M b) v ∧ env' = setV env o.dst v
def WA (P : Program) (I : Inv) (ops : Array Oper) (M : Nat → Mem) (o : Oper) (env : List V) (a : Nat) (v : V) : Prop := Wants env ops o ∧ op1 P (evalV I env) (M a) o.op = some (v, M (a + 1))
theorem WA.congr {o : Oper} {env : List V} {d : Option Tmp} {x v : V} {a : Nat} (h : ∀ t, d = some t → t ∉ o.looksAt ops) : WA P I ops M o (setV env d x) a v ↔ WA P I ops M o env a v := by
 cases d with
 | none => rfl
 | some t =>
  have h := h t rfl
  unfold WA
  have he : ∀ y ∈ o.op.operands, evalV I (env.set t x) y = evalV I env y := fun y hy => evalV_set (looks_op h y hy)
  have hw : Wants (env.set t x) ops o ↔ Wants env ops o := by
   unfold Wants
   constructor
   ·rintro (h1 | ⟨j, t, h1, h2⟩)
    ·exact .inl h1
    ·exact .inr ⟨j, t, h1, by rw [← guardV_set (looks_guard h h1)]; exact h2⟩
   ·rintro (h1 | ⟨j, t, h1, h2⟩)
    ·exact .inl h1
    ·exact .inr ⟨j, t, h1, by rw [guardV_set (looks_guard h h1)]; exact h2⟩
  show Wants (env.set t x) ops o ∧ op1 P (evalV I (env.set t x)) (M a) o.op = _ ↔ _
  rw [hw, op1_congr o.op he]
theorem setV_len (env : List V) (d : Option Tmp) (v : V) : (setV env d v).length = env.length := by
 cases d with
 | none => rfl
 | some t => simp [setV]
theorem QA.len {o : Oper} {env env' : List V} (h : QA P I ops M o env env') : env'.length = env.length := by
 obtain ⟨v, _, rfl⟩ := h 0
 exact setV_len _ _ _
def Free (ops : Array Oper) (listed : Array Bool) (i : Nat) (oi : Oper) : Prop := ∀ j oj, ops[j]? = some oj → j ≠ i → listed.getD j true = false → (∀ e ∈ oj.after, Region.binds .any e = true → e.on ≠ i) → oi.apart ops oj = true
theorem Free.next {listed : Array Bool} {i j : Nat} {oi : Oper} (h : Free ops listed i oi) (hj : listed.getD j true = false) : Free ops (listed.setIfInBounds j true) i oi := fun k ok hk hki hun hno => by
 refine h k ok hk hki ?_ hno
 by_cases hjk : j = k
 ·subst hjk; exact hj
 ·rw [getD_set_ne true hjk] at hun; exact hun
theorem Free.apart {listed : Array Bool} {i j : Nat} {oi oj : Oper} (h : Free ops listed i oi) (hr : i ∈ Region.ready .any ops listed) (hj : j ∈ Region.ready .any ops listed) (hji : j ≠ i) (hoj : ops[j]? = some oj) :
 (∀ d, oi.dst = some d → d ∉ oj.looksAt ops) ∧ (∀ d, oi.dst = some d → oj.dst ≠ some d) ∧ (∀ d, oj.dst = some d → d ∉ oi.looksAt ops) := by
 obtain ⟨hjun, oj', hoj', hall⟩ := mem_ready.1 hj
 rw [hoj] at hoj'
 obtain rfl := Option.some.inj hoj'
 refine Oper.apart_spec (h j oj hoj hji hjun fun e he hb heq => ?_)
 have h1 := hall e he hb
 have h0 := (mem_ready.1 hr).1
 rw [heq] at h1
 rcases Nat.lt_or_ge i listed.size with h' | h'
 ·simp [h'] at h0 h1; rw [h0] at h1; cases h1
 ·simp [Array.getElem?_eq_none h'] at h1
variable {K : List V → Mem → Prop}
def Waits (ops : Array Oper) (W : List Nat) (listed : Array Bool) (i : Nat) : Prop := ∀ j oj, ops[j]? = some oj → W.contains j = true → j ≠ i → listed.getD j true = false → ∃ e ∈ oj.after, Region.binds .any e = true ∧ W.contains e.on = true ∧ listed.getD e.on true = false
end
set_option linter.unusedVariables false
section
variable {P : Program} {I : Inv} {ops : Array Oper} {W : List Nat} {MM : Mem → Prop}
def OpR (P : Program) (I : Inv) (o : Oper) (env : List V) (S : Mem) (Q : V → Mem → Prop) : Prop :=
 ∀ (c : Cx) (w : World) (ev : Operand → Value), Rep c w S → c.I = I → (∀ y ∈ o.op.operands, VR c w (evalV I env y) (ev y)) → ∃ x w' c' v S', (execOp ev o).run P w = .ok (.value x) w' ∧ Q v S' ∧ Rep c' w' S' ∧ Ext c w c' w' ∧ VR c' w' v x
theorem OpR.congr {o : Oper} {env env' : List V} {S : Mem} {Q : V → Mem → Prop} (he : ∀ y ∈ o.op.operands, evalV I env' y = evalV I env y) : OpR P I o env' S Q ↔ OpR P I o env S Q := by
 constructor
 ·exact fun h c w ev h1 h2 h3 => h c w ev h1 h2 fun y hy => by rw [he y hy]; exact h3 y hy
 ·exact fun h c w ev h1 h2 h3 => h c w ev h1 h2 fun y hy => by rw [← he y hy]; exact h3 y hy
theorem OpR.step {z : Nat × Nat} {fn : FuncId} {k : List Item} {R : V → Mem → Prop} {i : Nat} {rest : List Nat} {o : Oper} {env : List V} {S : Mem} {Q : V → Mem → Prop} (ho : ops[i]? = some o) (hw : Wants env ops o) (h : OpR P I o env S Q) (hk : ∀ v S', Q v S' → ARun P I z fn (.inRegion ops rest :: k) (setV env o.dst v) S' R) : ARun P I z fn (.inRegion ops (i :: rest) :: k) env S R := by
 intro b a c w c0 w0 h1 h2 h3 h4 h5 h6 hI
 obtain ⟨x, w', c', v, S', hrun, hQ, hrep, hext, hv⟩ := h c w a.eval h5 hI.1 fun y _ => by
  have := EnvR.eval h5 h4 y
  rwa [hI.1] at this
 have hg := fun cs => stepG_op (P := P) (b := b) (k := k) (cs := cs) (w := w) (rest := rest) ho (wants_ok h4 hw)
 have hs : ∀ cs, Go.step P (lone (b.at a (.inRegion ops (i :: rest) :: k)) cs w) = .next (lone (b.at (a.put o.dst x) (.inRegion ops rest :: k)) cs w') := by
  intro cs
  refine step_lone_go ?_
  have hfin : (b.at a (.inRegion ops (i :: rest) :: k)).finish x = b.at (a.put o.dst x) (.inRegion ops rest :: k) := by rw [Frame.finish_at, ho]; rfl
  rw [hg cs, ← hfin]
  simp [stepG.apply, hrun]
 refine Goes.step hs (hk v S' hQ b (a.put o.dst x) c' w' c0 w0 h1 h2 ?_ ?_ hrep (h6.trans hext) ⟨hext.I.trans hI.1, hI.2⟩)
 ·cases o.dst <;> simpa [Act.put] using h3
 ·exact (h4.ext hext).put o.dst hv
def WO (P : Program) (I : Inv) (o : Oper) (env : List V) (S : Mem) (Q : V → Mem → Prop) : Prop :=
 (∃ v S', op1 P (evalV I env) S o.op = some (v, S') ∧ Q v S') ∨ (∃ q f g first caps, o.op = .call q ∧ q.callee = .value f ∧ evalV I env f = .func g first caps ∧ AFn P I g (first ++ q.args.toList.map (evalV I env) ++ caps) S Q) ∨ OpR P I o env S Q
theorem WO.congr {o : Oper} {env : List V} {d : Option Tmp} {x : V} {S : Mem} {Q : V → Mem → Prop} (h : ∀ t, d = some t → t ∉ o.looksAt ops) : WO P I o (setV env d x) S Q ↔ WO P I o env S Q := by
 cases d with
 | none => rfl
 | some t =>
  have h := h t rfl
  have he : ∀ y ∈ o.op.operands, evalV I (env.set t x) y = evalV I env y := fun y hy => evalV_set (looks_op h y hy)
  unfold WO
  show (∃ v S', op1 P (evalV I (env.set t x)) S o.op = some (v, S') ∧ Q v S') ∨ _ ↔ _
  rw [op1_congr o.op he]
  refine or_congr Iff.rfl (or_congr ?_ (OpR.congr he))
  refine exists_congr fun q => exists_congr fun f => exists_congr fun g => exists_congr fun first => exists_congr fun caps => ?_
  constructor
  ·rintro ⟨h1, h2, h3, h4⟩
   have hop : ∀ y ∈ q.operands, evalV I (env.set t x) y = evalV I env y := fun y hy => he y (by rw [h1]; exact hy)
   have h5 : q.args.toList.map (evalV I (env.set t x)) = q.args.toList.map (evalV I env) := List.map_congr_left fun y hy => hop y (by unfold Call.operands; simp only [Array.mem_append]; exact .inr (by simpa using hy))
   have h6 : evalV I (env.set t x) f = evalV I env f := hop f (by unfold Call.operands; rw [h2]; simp)
   exact ⟨h1, h2, by rw [← h6]; exact h3, by rw [← h5]; exact h4⟩
  ·rintro ⟨h1, h2, h3, h4⟩
   have hop : ∀ y ∈ q.operands, evalV I (env.set t x) y = evalV I env y := fun y hy => he y (by rw [h1]; exact hy)
   have h5 : q.args.toList.map (evalV I (env.set t x)) = q.args.toList.map (evalV I env) := List.map_congr_left fun y hy => hop y (by unfold Call.operands; simp only [Array.mem_append]; exact .inr (by simpa using hy))
   have h6 : evalV I (env.set t x) f = evalV I env f := hop f (by unfold Call.operands; rw [h2]; simp)
   exact ⟨h1, h2, by show evalV I (env.set t x) f = _; rw [h6]; exact h3, by show AFn P I g (first ++ q.args.toList.map (evalV I (env.set t x)) ++ caps) S Q; rw [h5]; exact h4⟩
def WG (P : Program) (I : Inv) (ops : Array Oper) (o : Oper) (env : List V) (S : Mem) (Q : V → Mem → Prop) : Prop := (Wants env ops o ∧ WO P I o env S Q) ∨ (Skips env ops o ∧ Q (.tup []) S)
theorem WG.congr {o : Oper} {env : List V} {d : Option Tmp} {x : V} {S : Mem} {Q : V → Mem → Prop} (h : ∀ t, d = some t → t ∉ o.looksAt ops) : WG P I ops o (setV env d x) S Q ↔ WG P I ops o env S Q := by
 cases d with
 | none => rfl
 | some t => exact or_congr (and_congr (wants_congr (h t rfl)) (WO.congr h)) (and_congr (skips_congr (h t rfl)) Iff.rfl)
def WC (P : Program) (I : Inv) (ops : Array Oper) (o : Oper) (env : List V) (S : Mem) (K : V → Mem → Prop) : Prop := ∃ Q, (∃ v S', Q v S') ∧ WG P I ops o env S Q ∧ ∀ v S', Q v S' → K v S'
def QC (P : Program) (I : Inv) (ops : Array Oper) (MM : Mem → Prop) (o : Oper) (env : List V) (v : V) : Prop := (Wants env ops o ∧ ∀ S, MM S → op1 P (evalV I env) S o.op = some (v, S)) ∨ (Skips env ops o ∧ v = .tup [])
theorem QC.congr {o : Oper} {env : List V} {d : Option Tmp} {x v : V} (h : ∀ t, d = some t → t ∉ o.looksAt ops) : QC P I ops MM o (setV env d x) v ↔ QC P I ops MM o env v := by
 cases d with
 | none => rfl
 | some t =>
  have h := h t rfl
  have he : ∀ y ∈ o.op.operands, evalV I (env.set t x) y = evalV I env y := fun y hy => evalV_set (looks_op h y hy)
  refine or_congr (and_congr (wants_congr h) (forall_congr' fun S => ?_)) (and_congr (skips_congr h) Iff.rfl)
  show (MM S → op1 P (evalV I (env.set t x)) S o.op = _) ↔ _
  rw [op1_congr o.op he]
theorem QC.one {o : Oper} {env : List V} {v u : V} {S : Mem} (hS : MM S) (h : QC P I ops MM o env v) (h' : QC P I ops MM o env u) : v = u := by
 rcases h with ⟨a, h⟩ | ⟨a, h⟩ <;> rcases h' with ⟨b, h'⟩ | ⟨b, h'⟩
 ·have h1 := h S hS
  rw [h' S hS] at h1
  cases h1
  rfl
 ·exact (wants_skips a b).elim
 ·exact (wants_skips b a).elim
 ·rw [h, h']
def anyC (P : Program) (I : Inv) (ops : Array Oper) (W : List Nat) (MM : Mem → Prop) (K : List V → Mem → Prop) : Nat → Array Bool → List V → Mem → Prop
 | 0, listed, env, S => MM S ∧ Region.ready .any ops listed = [] ∧ K env S
 | n + 1, listed, env, S => MM S ∧ (Region.ready .any ops listed = [] → K env S) ∧ ∀ i ∈ Region.ready .any ops listed, ∃ o, ops[i]? = some o ∧
  ((W.contains i = true ∧ WC P I ops o env S fun v S' => anyC P I ops W MM K n (listed.setIfInBounds i true) (setV env o.dst v) S') ∨
   (W.contains i = false ∧ ∃ v, QC P I ops MM o env v ∧ anyC P I ops W MM K n (listed.setIfInBounds i true) (setV env o.dst v) S))
variable {K : List V → Mem → Prop}
theorem anyC.in : ∀ {n : Nat} {listed : Array Bool} {env : List V} {S : Mem}, anyC P I ops W MM K n listed env S → MM S
 | 0, _, _, _, h => h.1
 | _ + 1, _, _, _, h => h.1
theorem anyC_quiet {i : Nat} {oi : Oper} (hi : ops[i]? = some oi) (hq : W.contains i = false) {v : V} : ∀ (n : Nat) (listed : Array Bool) (env : List V) (S : Mem), Free ops listed i oi → i ∈ Region.ready .any ops listed → QC P I ops MM oi env v → anyC P I ops W MM K n (listed.setIfInBounds i true) (setV env oi.dst v) S → anyC P I ops W MM K (n + 1) listed env S := by
 intro n
 induction n with
 | zero =>
  intro listed env S _ hr hy H
  refine ⟨H.in, fun h => (by rw [h] at hr; cases hr), fun j hj => ?_⟩
  by_cases hji : j = i
  ·subst hji; exact ⟨oi, hi, .inr ⟨hq, v, hy, H⟩⟩
  ·have := ready_mono hj hji
   rw [H.2.1] at this
   cases this
 | succ n ih =>
  intro listed env S hfree hr hy H
  refine ⟨H.in, fun h => (by rw [h] at hr; cases hr), fun j hj => ?_⟩
  by_cases hji : j = i
  ·subst hji; exact ⟨oi, hi, .inr ⟨hq, v, hy, H⟩⟩
  obtain ⟨oj, hoj, hH⟩ := H.2.2 j (ready_mono hj hji)
  have hjun := (mem_ready.1 hj).1
  obtain ⟨a1, a2, a3⟩ := hfree.apart hr hj hji hoj
  have hready := ready_mono hr (Ne.symm hji)
  rcases hH with ⟨hwj, Q, hne, hwo, hk⟩ | ⟨hwj, u, hqj, h1⟩
  ·refine ⟨oj, hoj, .inl ⟨hwj, Q, hne, (WG.congr a1).1 hwo, fun u S' hQ => ?_⟩⟩
   refine ih (listed.setIfInBounds j true) (setV env oj.dst u) S' (hfree.next hjun) hready ((QC.congr a3).2 hy) ?_
   rw [Array.setIfInBounds_comm _ _ hji, ← setV_comm env v u a2]
   exact hk u S' hQ
  ·refine ⟨oj, hoj, .inr ⟨hwj, u, (QC.congr a1).1 hqj, ih (listed.setIfInBounds j true) (setV env oj.dst u) S (hfree.next hjun) hready ((QC.congr a3).2 hy) ?_⟩⟩
   rw [Array.setIfInBounds_comm _ _ hji, ← setV_comm env v u a2]
   exact h1
def descS (ops : Array Oper) (k : Nat) (acc : List Nat) (j : Nat) : List Nat :=
 cond (Nat.ble j k) acc (match ops[j]? with
  | some o => cond (o.after.any fun e => Region.binds .any e && acc.contains e.on) (j :: acc) acc
  | none => acc)
def desc (ops : Array Oper) (k : Nat) : List Nat := (List.range ops.size).foldl (descS ops k) [k]
def waitsD (ops : Array Oper) (W : List Nat) : Bool := (W.all fun k => Nat.ble (k + 1) ops.size) && W.all fun k => W.all fun j => Nat.ble j k || (desc ops k).contains j
theorem desc_fold (k : Nat) : ∀ (l acc : List Nat), (∀ j ∈ acc, j = k ∨ (k < j ∧ ∃ oj, ops[j]? = some oj ∧ ∃ e ∈ oj.after, Region.binds .any e = true ∧ e.on ∈ acc)) →
 ∀ j ∈ l.foldl (descS ops k) acc, j = k ∨ (k < j ∧ ∃ oj, ops[j]? = some oj ∧ ∃ e ∈ oj.after, Region.binds .any e = true ∧ e.on ∈ l.foldl (descS ops k) acc)
 | [], _, h => h
 | q :: l, acc, h => by
  refine desc_fold k l (descS ops k acc q) fun j hj => ?_
  have hsub : ∀ x ∈ acc, x ∈ descS ops k acc q := by
   intro x hx
   unfold descS
   cases Nat.ble q k with
   | true => exact hx
   | false =>
    simp only [cond_false]
    split
    ·rename_i o _
     cases (o.after.any fun e => Region.binds .any e && acc.contains e.on) with
     | true => exact List.mem_cons_of_mem _ hx
     | false => exact hx
    ·exact hx
  have hold : j ∈ acc → j = k ∨ (k < j ∧ ∃ oj, ops[j]? = some oj ∧ ∃ e ∈ oj.after, Region.binds .any e = true ∧ e.on ∈ descS ops k acc q) := fun hj => (h j hj).imp_right fun ⟨h1, oj, h2, e, h3, h4, h5⟩ => ⟨h1, oj, h2, e, h3, h4, hsub _ h5⟩
  by_cases hja : j ∈ acc
  ·exact hold hja
  have hj0 := hj
  unfold descS at hj
  cases hb : Nat.ble q k with
  | true => rw [hb] at hj; exact absurd hj hja
  | false =>
   rw [hb] at hj
   simp only [cond_false] at hj
   split at hj
   ·rename_i o ho
    cases ha : (o.after.any fun e => Region.binds .any e && acc.contains e.on) with
    | false => rw [ha] at hj; exact absurd hj hja
    | true =>
     rw [ha] at hj
     rcases List.mem_cons.1 hj with rfl | hj
     ·rw [Array.any_eq_true] at ha
      obtain ⟨e, hes, h3⟩ := ha
      rw [Bool.and_eq_true] at h3
      refine .inr ⟨?_, o, ho, o.after[e], Array.getElem_mem hes, h3.1, hsub _ (List.contains_iff_mem.1 h3.2)⟩
      rcases Nat.lt_or_ge k j with h' | h'
      ·exact h'
      ·rw [Nat.ble_eq_true_of_le h'] at hb; cases hb
     ·exact absurd hj hja
   ·exact absurd hj hja
theorem desc_ok {k j : Nat} (h : j ∈ desc ops k) : j = k ∨ (k < j ∧ ∃ oj, ops[j]? = some oj ∧ ∃ e ∈ oj.after, Region.binds .any e = true ∧ e.on ∈ desc ops k) :=
 desc_fold k _ _ (fun j hj => .inl (List.mem_singleton.1 hj)) j h
theorem desc_waits {k : Nat} {listed : Array Bool} (hk : k < ops.size) (hls : ∀ j, j < ops.size → listed.getD j true = decide (j < k)) : Waits ops (desc ops k) listed k := by
 intro j oj hoj hj hjk _
 rcases desc_ok (List.contains_iff_mem.1 hj) with rfl | ⟨_, oj', hoj', e, he, hb, hon⟩
 ·exact absurd rfl hjk
 rw [hoj] at hoj'
 obtain rfl := Option.some.inj hoj'
 refine ⟨e, he, hb, List.contains_iff_mem.2 hon, ?_⟩
 rcases desc_ok hon with h | ⟨h, oe, hoe, _⟩
 ·rw [h, hls k hk]; exact decide_eq_false (Nat.lt_irrefl k)
 ·rw [hls _ (Array.getElem?_eq_some_iff.1 hoe).1]; exact decide_eq_false (by omega)
theorem desc_all {W : List Nat} {k : Nat} {listed : Array Bool} (hWB : (W.all fun k => W.all fun j => Nat.ble j k || (desc ops k).contains j) = true) (hw : W.contains k = true) (hls : ∀ j, j < ops.size → listed.getD j true = decide (j < k)) :
 ∀ j oj, ops[j]? = some oj → W.contains j = true → listed.getD j true = false → j = k ∨ (desc ops k).contains j = true := by
 intro j oj hoj hwj hun
 rw [hls j (Array.getElem?_eq_some_iff.1 hoj).1] at hun
 have hkj := of_decide_eq_false hun
 have h1 := List.all_eq_true.1 (List.all_eq_true.1 hWB k (List.contains_iff_mem.1 hw)) j (List.contains_iff_mem.1 hwj)
 rw [Bool.or_eq_true] at h1
 rcases h1 with h | h
 ·exact .inl (by have := Nat.le_of_ble_eq_true h; omega)
 ·exact .inr h
theorem Waits.next {U : List Nat} {listed : Array Bool} {i j : Nat} {oj : Oper} (h : Waits ops U listed i) (hall : ∀ e ∈ oj.after, Region.binds .any e = true → listed.getD e.on false = true) (hoj : ops[j]? = some oj) (hji : j ≠ i) (hjun : listed.getD j true = false) : Waits ops U (listed.setIfInBounds j true) i := by
 intro k ok hk hwk hki hun
 by_cases hjk : j = k
 ·subst hjk
  rw [hoj] at hk
  obtain rfl := Option.some.inj hk
  obtain ⟨e, he, hb, _, hue⟩ := h j oj hoj hwk hji hjun
  have h1 := hall e he hb
  rcases Nat.lt_or_ge e.on listed.size with h' | h'
  ·simp [h'] at hue h1; rw [hue] at h1; cases h1
  ·simp [Array.getElem?_eq_none h'] at h1
 ·rw [getD_set_ne true hjk] at hun
  obtain ⟨e, he, hb, hwe, hue⟩ := h k ok hk hwk hki hun
  refine ⟨e, he, hb, hwe, ?_⟩
  have hne : j ≠ e.on := by
   intro hje
   obtain ⟨e2, he2, hb2, _, hue2⟩ := h j oj hoj (by rw [hje]; exact hwe) hji hjun
   have h1 := hall e2 he2 hb2
   rcases Nat.lt_or_ge e2.on listed.size with h' | h'
   ·simp [h'] at hue2 h1; rw [hue2] at h1; cases h1
   ·simp [Array.getElem?_eq_none h'] at h1
  rw [getD_set_ne true hne]
  exact hue
theorem anyC_write {U : List Nat} {i : Nat} {oi : Oper} (hi : ops[i]? = some oi) (hq : W.contains i = true) : ∀ (n : Nat) (listed : Array Bool) (env : List V) (S : Mem), MM S → Free ops listed i oi → Waits ops U listed i → (∀ j oj, ops[j]? = some oj → W.contains j = true → listed.getD j true = false → j = i ∨ U.contains j = true) → i ∈ Region.ready .any ops listed → WC P I ops oi env S (fun v S' => anyC P I ops W MM K n (listed.setIfInBounds i true) (setV env oi.dst v) S') → anyC P I ops W MM K (n + 1) listed env S := by
 intro n
 induction n with
 | zero =>
  intro listed env S hS _ _ _ hr hy
  refine ⟨hS, fun h => (by rw [h] at hr; cases hr), fun j hj => ?_⟩
  by_cases hji : j = i
  ·subst hji; exact ⟨oi, hi, .inl ⟨hq, hy⟩⟩
  ·have := ready_mono hj hji
   obtain ⟨Q, ⟨v0, S0, h0⟩, _, hk⟩ := hy
   rw [(hk v0 S0 h0).2.1] at this
   cases this
 | succ n ih =>
  intro listed env S hS hfree hwait hWU hr hy
  refine ⟨hS, fun h => (by rw [h] at hr; cases hr), fun j hj => ?_⟩
  by_cases hji : j = i
  ·subst hji; exact ⟨oi, hi, .inl ⟨hq, hy⟩⟩
  obtain ⟨Q, ⟨v0, S0, h0⟩, hwo, hk⟩ := hy
  obtain ⟨oj, hoj, hH⟩ := (hk v0 S0 h0).2.2 j (ready_mono hj hji)
  obtain ⟨hjun, oj', hoj', hall⟩ := mem_ready.1 hj
  rw [hoj] at hoj'
  obtain rfl := Option.some.inj hoj'
  obtain ⟨a1, a2, a3⟩ := hfree.apart hr hj hji hoj
  have hready := ready_mono hr (Ne.symm hji)
  rcases hH with ⟨hwj, _⟩ | ⟨hwj, u, hqj, _⟩
  ·obtain ⟨e, he, hb, _, hun⟩ := hwait j oj hoj ((hWU j oj hoj hwj hjun).resolve_left hji) hji hjun
   have h1 := hall e he hb
   rcases Nat.lt_or_ge e.on listed.size with h' | h'
   ·simp [h'] at hun h1; rw [hun] at h1; cases h1
   ·simp [Array.getElem?_eq_none h'] at h1
  ·have hqj' := (QC.congr a1).1 hqj
   refine ⟨oj, hoj, .inr ⟨hwj, u, hqj', ih (listed.setIfInBounds j true) (setV env oj.dst u) S hS (hfree.next hjun) (hwait.next hall hoj hji hjun) (fun k ok hk hwk hun => ?_) hready ⟨Q, ⟨v0, S0, h0⟩, (WG.congr a3).2 hwo, fun v S' hQ => ?_⟩⟩⟩
   ·by_cases hjk : j = k
    ·subst hjk
     rw [hwj] at hwk; cases hwk
    ·rw [getD_set_ne true hjk] at hun
     exact hWU k ok hk hwk hun
   ·obtain ⟨oj', hoj', hH'⟩ := (hk v S' hQ).2.2 j (ready_mono hj hji)
    rw [hoj] at hoj'
    obtain rfl := Option.some.inj hoj'
    rcases hH' with ⟨hwj', _⟩ | ⟨_, u', hqj', h1⟩
    ·rw [hwj] at hwj'; cases hwj'
    ·have e := QC.one hS hqj' ((QC.congr a1).2 ((QC.congr a1).1 hqj))
     have e2 : QC P I ops MM oj env u' := (QC.congr a1).1 hqj'
     have e3 := QC.one hS e2 ((QC.congr a1).1 hqj)
     subst e3
     rw [Array.setIfInBounds_comm _ _ hji, ← setV_comm env v u' a2]
     exact h1
def lexC (P : Program) (I : Inv) (ops : Array Oper) (W : List Nat) (MM : Mem → Prop) (K : List V → Mem → Prop) : List Oper → Nat → List V → Mem → Prop
 | [], _, env, S => MM S ∧ K env S
 | o :: l, k, env, S => (W.contains k = true → MM S ∧ WC P I ops o env S fun v S' => lexC P I ops W MM K l (k + 1) (setV env o.dst v) S') ∧
  (W.contains k = false → ∃ v, QC P I ops MM o env v ∧ lexC P I ops W MM K l (k + 1) (setV env o.dst v) S)
theorem anyC_lex (hW0 : (W.all fun k => Nat.ble (k + 1) ops.size) = true) (hWB : (W.all fun k => W.all fun j => Nat.ble j k || (desc ops k).contains j) = true) : ∀ (l : List Oper) (k : Nat) (listed : Array Bool) (env : List V) (S : Mem), (∀ j, l[j]? = ops[k + j]?) → (∀ j, j < ops.size → listed.getD j true = decide (j < k)) →
 Region.lexFrom .any ops l.length k listed = true → lexC P I ops W MM K l k env S → anyC P I ops W MM K l.length listed env S
 | [], _, _, _, _, _, _, hB, h => ⟨h.1, by simpa [Region.lexFrom] using hB, h.2⟩
 | o :: l, k, listed, env, S, hl, hls, hB, h => by
  have h0 : ops[k]? = some o := by simpa using (hl 0).symm
  have hk := (Array.getElem?_eq_some_iff.1 h0).1
  simp only [List.length_cons, Region.lexFrom, Bool.and_eq_true] at hB
  obtain ⟨⟨hr, hf⟩, hB'⟩ := hB
  have hnext : ∀ j, j < ops.size → (listed.setIfInBounds k true).getD j true = decide (j < k + 1) := by
   intro j hj
   by_cases hjk : k = j
   ·subst hjk
    have : decide (k < k + 1) = true := decide_eq_true (by omega)
    rw [this]
    by_cases hs : k < listed.size <;> simp [hs]
   ·rw [getD_set_ne true hjk, hls j hj]
    exact decide_eq_decide.2 (by omega)
  have hfree : Free ops listed k o := Region.free_spec h0 hf
  cases hw : W.contains k with
  | true =>
   obtain ⟨hS, Q, hne, hwo, hK⟩ := h.1 hw
   exact anyC_write h0 hw l.length listed env S hS hfree (desc_waits hk hls) (desc_all hWB hw hls) (by simpa using hr) ⟨Q, hne, hwo, fun v S' hQ => anyC_lex hW0 hWB l (k + 1) _ _ _ (fun j => by have := hl (j + 1); simpa [Nat.add_assoc, Nat.add_comm 1 j] using this) hnext hB' (hK v S' hQ)⟩
  | false =>
   obtain ⟨v, hv, hK⟩ := h.2 hw
   exact anyC_quiet h0 hw l.length listed env S hfree (by simpa using hr) hv (anyC_lex hW0 hWB l (k + 1) _ _ _ (fun j => by have := hl (j + 1); simpa [Nat.add_assoc, Nat.add_comm 1 j] using this) hnext hB' hK)
theorem WG.step {z : Nat × Nat} {fn : FuncId} {k : List Item} {R : V → Mem → Prop} {i : Nat} {rest : List Nat} {o : Oper} {env : List V} {S : Mem} {Q : V → Mem → Prop} (ho : ops[i]? = some o) (hw : WG P I ops o env S Q) (h : ∀ v S', Q v S' → ARun P I z fn (.inRegion ops rest :: k) (setV env o.dst v) S' R) : ARun P I z fn (.inRegion ops (i :: rest) :: k) env S R := by
 rcases hw with ⟨hg, hw⟩ | ⟨hg, hw⟩
 ·rcases hw with ⟨v, S', h1, h2⟩ | ⟨q, f, g, first, caps, h1, h2, h3, h4⟩ | hr
  ·exact .op ho hg h1 (h v S' h2)
  ·exact .call ho hg h1 h2 h3 (h4.mono fun v S' hQ => h v S' hQ)
  ·exact hr.step ho hg h
 ·exact .opSkip ho hg (h _ _ hw)
theorem QC.step {z : Nat × Nat} {fn : FuncId} {k : List Item} {R : V → Mem → Prop} {i : Nat} {rest : List Nat} {o : Oper} {env : List V} {S : Mem} {v : V} (ho : ops[i]? = some o) (hS : MM S) (hy : QC P I ops MM o env v) (h : ARun P I z fn (.inRegion ops rest :: k) (setV env o.dst v) S R) : ARun P I z fn (.inRegion ops (i :: rest) :: k) env S R := by
 rcases hy with ⟨hg, hy⟩ | ⟨hg, rfl⟩
 ·exact .op ho hg (hy S hS) h
 ·exact .opSkip ho hg h
theorem anyC_run {z : Nat × Nat} {fn : FuncId} {k : List Item} {R : V → Mem → Prop} : ∀ (n t : Nat) (listed : Array Bool) (env : List V) (S : Mem), anyC P I ops W MM (fun env S => ARun P I z fn k env S R) n listed env S → ARun P I z fn (.inRegion ops (Region.linearise.go .any ops n t listed []) :: k) env S R
 | 0, t, listed, env, S, h => by
  simp only [Region.linearise.go, List.reverse_nil]
  exact .regionEnd h.2.2
 | n + 1, t, listed, env, S, h => by
  obtain ⟨hS, h₀, h₁⟩ := h
  simp only [Region.linearise.go]
  change ARun P I z fn (.inRegion ops (match (Region.ready .any ops listed)[t % (Region.ready .any ops listed).length]? with
   | some i => Region.linearise.go .any ops n (t / (Region.ready .any ops listed).length) (listed.setIfInBounds i true) [i]
   | none => [].reverse) :: k) env S R
  cases hi : (Region.ready .any ops listed)[t % (Region.ready .any ops listed).length]? with
  | none =>
   have hnil : Region.ready .any ops listed = [] := by
    cases hr : Region.ready .any ops listed with
    | nil => rfl
    | cons x xs =>
     rw [hr] at hi
     have hlt : t % (x :: xs).length < (x :: xs).length := Nat.mod_lt _ (by simp)
     simp at hi
     simp at hlt
     omega
   exact .regionEnd (h₀ hnil)
  | some i =>
   simp only []
   rw [linearise_go_acc, List.reverse_singleton, List.singleton_append]
   obtain ⟨o, ho, ⟨_, Q, _, hwo, hn⟩ | ⟨_, v, hy, hn⟩⟩ := h₁ i (List.mem_of_getElem? hi)
   ·exact hwo.step ho fun v S' hQ => anyC_run n _ _ _ _ (hn v S' hQ)
   ·exact hy.step ho hS (anyC_run n _ _ _ _ hn)
end
section
variable {P : Program} {I : Inv} {ops : Array Oper} {W : List Nat} {MM : Mem → Prop} {p : Nat}
def anyE (P : Program) (I : Inv) (ops : Array Oper) (W : List Nat) (p : Nat) (MM : Mem → Prop) (K : Array Bool → List V → Mem → Prop) : Nat → Array Bool → List V → Mem → Prop
 | 0, listed, env, S => MM S ∧ (∀ i ∈ Region.ready .any ops listed, p ≤ i) ∧ K listed env S
 | n + 1, listed, env, S => MM S ∧ Region.ready .any ops listed ≠ [] ∧ ∀ i ∈ Region.ready .any ops listed, i < p ∧ ∃ o, ops[i]? = some o ∧
  ((W.contains i = true ∧ WC P I ops o env S fun v S' => anyE P I ops W p MM K n (listed.setIfInBounds i true) (setV env o.dst v) S') ∨
   (W.contains i = false ∧ ∃ v, QC P I ops MM o env v ∧ anyE P I ops W p MM K n (listed.setIfInBounds i true) (setV env o.dst v) S))
variable {K : Array Bool → List V → Mem → Prop}
theorem anyE.in : ∀ {n : Nat} {listed : Array Bool} {env : List V} {S : Mem}, anyE P I ops W p MM K n listed env S → MM S
 | 0, _, _, _, h => h.1
 | _ + 1, _, _, _, h => h.1
end
def CellsL (c : Cx) (w : World) (vs : List V) (l : List Value) : Prop := l.length = vs.length ∧ ∀ (j : Nat) (v : V), vs[j]? = some v → ∃ x, l[j]? = some x ∧ VR c w v x ∧ x.oneCell' = true
section
variable {P : Program} {c : Cx} {w : World} {S : Mem}
theorem CellsL.nil : CellsL c w [] [] := ⟨rfl, fun j v h => by simp at h⟩
theorem CellsL.append {a b : List V} {A B : List Value} (h : CellsL c w a A) (k : CellsL c w b B) : CellsL c w (a ++ b) (A ++ B) := by
 refine ⟨by simp [h.1, k.1], fun j v hv => ?_⟩
 rcases Nat.lt_or_ge j a.length with h' | h'
 ·rw [List.getElem?_append_left h'] at hv
  rw [List.getElem?_append_left (by rw [h.1]; exact h')]
  exact h.2 j v hv
 ·rw [List.getElem?_append_right h'] at hv
  rw [List.getElem?_append_right (by rw [h.1]; exact h'), h.1]
  exact k.2 _ v hv
theorem CellsL.take {a : List V} {A : List Value} (h : CellsL c w a A) (n : Nat) : CellsL c w (a.take n) (A.take n) := by
 refine ⟨by simp [h.1], fun j v hv => ?_⟩
 rw [List.getElem?_take] at hv ⊢
 split at hv
 ·rename_i hlt
  rw [if_pos hlt]
  exact h.2 j v hv
 ·cases hv
theorem CellsL.drop {a : List V} {A : List Value} (h : CellsL c w a A) (n : Nat) : CellsL c w (a.drop n) (A.drop n) := by
 refine ⟨by simp [h.1], fun j v hv => ?_⟩
 rw [List.getElem?_drop] at hv ⊢
 exact h.2 _ v hv
theorem CellsL.keep {c' : Cx} {w' : World} (hk : Keeps c w c' w') {a : List V} {A : List Value} (h : CellsL c w a A) : CellsL c' w' a A := ⟨h.1, fun j v hv => by
 obtain ⟨x, h1, h2, h3⟩ := h.2 j v hv
 exact ⟨x, h1, h2.keep hk, h3⟩⟩
theorem CellsL.at {a : List V} {A : List Value} (h : CellsL c w a A) (j : Nat) (hj : j < a.length) : VR c w a[j] (A.toArray.getD j undef) ∧ (A.toArray.getD j undef).oneCell' = true := by
 obtain ⟨x, h1, h2⟩ := h.2 j a[j] (List.getElem?_eq_getElem hj)
 obtain ⟨hl, rfl⟩ := List.getElem?_eq_some_iff.1 h1
 rw [getD_list_arr hl]
 exact h2
theorem Rep.cellsL (h : Rep c w S) {i b : Nat} (hi : c.ρ[i]? = some b) (hT : ∃ T, OfTy w b T) {vs : List V} (hv : S.boxes[i]? = some vs) : ∃ (cs : Array Value) (T : TypeId), w.heap[b]? = some (.cells cs T (0, 0)) ∧ CellsL c w vs cs.toList := by
 obtain ⟨cs, T, hh, hsz, hc⟩ := h.boxCells hi hT hv
 refine ⟨cs, T, hh, by simpa using hsz, fun j v hj => ?_⟩
 obtain ⟨hlt, rfl⟩ := List.getElem?_eq_some_iff.1 hj
 have hl : j < cs.size := by omega
 have := hc j hlt
 rw [getD_arr hl] at this
 exact ⟨cs[j], by simp [hl], this.2⟩
def BxIs (n sz : Nat) (G : List (List V)) (rows : List (List D)) (v : V) : Prop :=
 (G = [] ∧ rows = [] ∧ v = .sl [] .full) ∨ ∃ G0 cap, G = G0 ++ [rows.flatten.map .d ++ List.replicate ((cap - rows.length) * sz) .undef] ∧ v = .bx (n + G0.length) rows.length cap ∧ rowsSz sz rows = true ∧ (∀ vs ∈ G0, vs.all (fit 0 0) = true) ∧ rows.length ≤ cap
theorem fit_flat (rows : List (List D)) (k : Nat) : (rows.flatten.map V.d ++ List.replicate k V.undef).all (fit 0 0) = true := by
 rw [List.all_eq_true]
 intro v hv
 rcases List.mem_append.1 hv with h | h
 ·obtain ⟨d, _, rfl⟩ := List.mem_map.1 h
  rfl
 ·obtain rfl := List.eq_of_mem_replicate h
  rfl
theorem BxIs.fits {n sz : Nat} {G : List (List V)} {rows : List (List D)} {v : V} (h : BxIs n sz G rows v) : ∀ vs ∈ G, vs.all (fit 0 0) = true := by
 rcases h with ⟨rfl, _, _⟩ | ⟨G0, cap, rfl, _, _, h, _⟩
 ·intro vs h; cases h
 ·intro vs hv
  rcases List.mem_append.1 hv with h' | h'
  ·exact h vs h'
  ·obtain rfl := List.mem_singleton.1 h'
   exact fit_flat _ _
theorem flat_len {sz : Nat} : ∀ {rows : List (List D)}, (∀ r ∈ rows, r.length = sz) → rows.flatten.length = rows.length * sz
 | [], _ => by simp
 | r :: rows, h => by
  rw [List.flatten_cons, List.length_append, h r (by simp), flat_len fun q hq => h q (List.mem_cons_of_mem _ hq), List.length_cons, Nat.add_mul]
  omega
theorem flat_get {sz : Nat} : ∀ {rows : List (List D)}, (∀ r ∈ rows, r.length = sz) → ∀ (j q : Nat) (r : List D) (d : D), rows[j]? = some r → r[q]? = some d → rows.flatten[j * sz + q]? = some d
 | [], _, j, q, r, d, h, _ => by simp at h
 | r0 :: rows, hs, j, q, r, d, h, hq => by
  have h0 := hs r0 (by simp)
  cases j with
  | zero =>
   obtain rfl : r0 = r := by simpa using h
   have := (List.getElem?_eq_some_iff.1 hq).1
   rw [List.flatten_cons, Nat.zero_mul, Nat.zero_add, List.getElem?_append_left this]
   exact hq
  | succ j =>
   have := flat_get (fun x hx => hs x (List.mem_cons_of_mem _ hx)) j q r d (by simpa using h) hq
   rw [List.flatten_cons, List.getElem?_append_right (by rw [h0, Nat.add_mul]; omega), h0, ← this]
   congr 1
   rw [Nat.add_mul]
   omega
theorem flat_mlen {sz : Nat} {rows : List (List D)} (h : ∀ r ∈ rows, r.length = sz) : (rows.flatten.map V.d).length = rows.length * sz := by rw [List.length_map]; exact flat_len h
theorem one_row {x : V} {X : Value} {r : List D} {sz : Nat} (hx : VR c w x X) (hd : toD x = some (.sl [r])) (hr : r.length = sz) : ∃ (a : Option Addr) (cap : Nat) (F : Nat → Value), X = .slice a 1 cap ∧ CellsL c w (r.map .d) ((List.range (1 * sz)).map F) ∧
 ∀ W : World, W.heap = w.heap → (Builtin.firstCells sz 1 X).run P W = .ok ((List.range (1 * sz)).map F).toArray W := by
 have hD := VR_toD hx hd
 have hsl : ∃ a n cap, X = .slice a n cap := by cases hD; exact ⟨_, _, _, rfl⟩
 obtain ⟨a, n, cap, rfl⟩ := hsl
 obtain ⟨hn, _, _, F, hF, hFd⟩ := hD.flat sz (fun q hq => by rw [List.mem_singleton.1 hq]; exact hr)
 have hn : n = 1 := hn
 subst hn
 refine ⟨a, cap, F, rfl, ⟨by simp [hr], fun j v hv => ?_⟩, fun W hW => run_first (rows := [r]) rfl hF W hW⟩
 rw [List.getElem?_map] at hv
 obtain ⟨d, hd, rfl⟩ := Option.map_eq_some_iff.1 hv
 obtain ⟨hj, rfl⟩ := List.getElem?_eq_some_iff.1 hd
 have := hFd 0 (by simp) j (by simpa using hj)
 simp only [List.getElem_cons_zero, Nat.zero_mul, Nat.zero_add] at this
 exact ⟨F j, by simp [← hr, hj], .d _ _ this, this.one⟩
theorem zeros_ok {z : Value} (h1 : ∀ u ∈ z.cells.toList, u.oneCell' = true) (sz : Nat) (h2 : z.cells.size = sz) (n : Nat) : CellsL c w (List.replicate (n * sz) .undef) (Builtin.zeroCells z.cells n).toList := by
 have hsz : (Builtin.zeroCells z.cells n).toList.length = n * sz := by simp [size_zeroCells, h2]
 refine ⟨by rw [hsz]; simp, fun j v hv => ?_⟩
 rw [List.getElem?_replicate] at hv
 split at hv
 case isFalse => cases hv
 rename_i hj
 obtain rfl := Option.some.inj hv
 have hj2 : j < n * z.cells.size := by rw [h2]; exact hj
 have hz0 : 0 < z.cells.size := by
  rcases Nat.eq_zero_or_pos z.cells.size with h | h
  ·rw [h] at hj2; omega
  ·exact h
 have hm := Nat.mod_lt j hz0
 refine ⟨z.cells[j % z.cells.size], ?_, .undef _, h1 _ (by simp)⟩
 simp only [Builtin.zeroCells, Array.getElem?_toList, Array.getElem?_map]
 rw [Array.getElem?_range, if_pos hj2]
 simp only [Option.map_some]
 rw [getElem!_pos z.cells (j % z.cells.size) hm]
theorem Rep.grow {L : List (List V)} {T : List (Nat × Nat)} (h : Rep c w ⟨L, T⟩) {ts us ty e : TypeId} {ti te ui : TyI} (hti : tyOf P ts = some ti) (he : ti.d = .slice e) (hte : tyOf P e = some te) (hui : tyOf P us = some ui) (hue : ∃ k, ui.d = .slice k) (a : Option Addr) (n cap : Nat) (old : List V) (xs : List Value)
 (hxs : CellsL c w old xs) (hold : ∀ W : World, W.heap = w.heap → (Builtin.firstCells te.size n (.slice a n cap)).run P W = .ok xs.toArray W) (hcap : ¬ n + 1 ≤ cap) (hc63 : n + 1 ≤ 9223372036854775807) {x : V} {X : Value} {r : List D} (hx : VR c w x X) (hd : toD x = some (.sl [r])) (hr : r.length = te.size) (hb : (n + 1) * te.bytes ≤ 140737488355328) :
 ∃ w' c' cap', (Builtin.append_ #[ts, us] ty #[.slice a n cap, X]).run P w = .ok (.slice (some ⟨w.heap.size, 0, none⟩) (n + 1) cap') w' ∧ n + 1 ≤ cap' ∧ Rep c' w' ⟨L ++ [old ++ r.map .d ++ List.replicate ((cap' - (n + 1)) * te.size) .undef], T⟩ ∧ Ext c w c' w' ∧ VR c' w' (.bx L.length (n + 1) cap') (.slice (some ⟨w.heap.size, 0, none⟩) (n + 1) cap') := by
 obtain ⟨fi, d, z, h1, h2, h3, h4, h5, h6, _⟩ := tyOf_info hti
 obtain ⟨gi, d2, z2, g1, g2, g3, g4, g5, g6, g7, g8, g9, g10⟩ := tyOf_info hte
 obtain ⟨ui1, d3, z3, u1, u2, u3, u4, u5, u6, _⟩ := tyOf_info hui
 rw [he] at h6
 obtain rfl := tdOf_slice h6
 obtain ⟨ke, hke⟩ := hue
 rw [hke] at u6
 obtain rfl := tdOf_slice u6
 have Ty : SlTy P ts e te.size te.bytes := ⟨h2, gi, z2, g1, g3, g4, g5, g8⟩
 obtain ⟨ax, capx, F, rfl, hF, hfirst⟩ := one_row (P := P) hx hd hr
 obtain ⟨i, zz, k1, k2, k3, hrun⟩ := run_app_grow (P := P) (w := w) (ty := ty) Ty ⟨_, u2, by simp⟩ a n cap 1 hcap (.slice ax 1 capx) xs ((List.range (1 * te.size)).map F) (fun W => by simp [Builtin.lenOf]) hfirst hold hc63 hb
 rw [g1] at k1
 obtain rfl := Option.some.inj k1
 rw [g3] at k2
 obtain rfl := Option.some.inj k2
 have hge := grownCap_ge w (n + 1) cap e
 have hcm : grownCap w (n + 1) cap e ≤ 9223372036854775807 := grownCap_le_maxLen w (n + 1) cap e (by unfold maxLen; omega)
 unfold grownWorld at hrun
 generalize grownCap w (n + 1) cap e = cap' at hrun hge hcm
 have hdr : Below w.heap.size w w.drew := (Below.refl _ _).drew
 obtain ⟨r1, r2⟩ := h.under hdr
 have hcells := ((hxs.append hF).append (zeros_ok (c := c) (w := w) g10 te.size k3 (cap' - (n + 1)))).keep r2.keeps
 have harr : xs.toArray ++ ((List.range (1 * te.size)).map F).toArray ++ Builtin.zeroCells z2.cells (cap' - (n + 1)) = (xs ++ (List.range (1 * te.size)).map F ++ (Builtin.zeroCells z2.cells (cap' - (n + 1))).toList).toArray := by
  apply Array.ext'
  simp
 rw [harr] at hrun
 obtain ⟨q1, q2⟩ := r1.box_new _ e _ (by simpa using hcells.1) (hcells.at)
 refine ⟨_, _, cap', hrun, hge, q1, r2.trans q2, .bx _ _ _ _ ?_ hge hcm ⟨_, OfTy.new _ _⟩⟩
 show (c.ρ ++ [w.drew.heap.size])[L.length]? = _
 rw [show L.length = c.ρ.length from h.len]
 simp
theorem BxIs.store {L G : List (List V)} {T : List (Nat × Nat)} {t : TypeId} {te : TyI} {rows : List (List D)} {v : V} {i k cap j : Nat} {r : List D} (hte : tyOf P t = some te) (h : BxIs L.length te.size G rows v) (hv : v = .bx i k cap) (hj : j < rows.length) (hr : r.length = te.size) :
 ∃ G', opStore P ⟨L ++ G, T⟩ t (.ptr i (j * te.size)) (.agg (r.map .d)) = some (.undef, ⟨L ++ G', T⟩) ∧ BxIs L.length te.size G' (rows.set j r) v := by
 rcases h with ⟨rfl, rfl, h2⟩ | ⟨G0, cap2, rfl, h2, hrs, hG0, hcap⟩
 ·exact absurd hj (by simp)
 ·rw [h2] at hv
  cases hv
  obtain ⟨J, hJe⟩ : ∃ J, List.replicate ((cap - rows.length) * te.size) V.undef = J := ⟨_, rfl⟩
  rw [hJe]
  have hrows := rowsSz_iff hrs
  have hfl := flat_mlen hrows
  have hlt := row_lt (sz := te.size) hj (q := 0)
  have hle : j * te.size + te.size ≤ rows.length * te.size := by
   have := Nat.mul_le_mul_right te.size (show j + 1 ≤ rows.length by omega)
   rw [Nat.add_mul] at this
   omega
  have hg : (⟨L ++ (G0 ++ [rows.flatten.map V.d ++ J]), T⟩ : Mem).boxes[L.length + G0.length]? = some (rows.flatten.map .d ++ J) := by
   show (L ++ (G0 ++ [rows.flatten.map .d ++ J]))[L.length + G0.length]? = _
   rw [← List.append_assoc, List.getElem?_append_right (by simp)]
   simp
  refine ⟨G0 ++ [(rows.set j r).flatten.map .d ++ J], ?_, .inr ⟨G0, cap, by rw [List.length_set, hJe], by rw [List.length_set]; exact h2, ?_, hG0, by simpa using hcap⟩⟩
  ·unfold opStore
   simp only [hte, cellsV, hg]
   rw [if_pos ⟨by simpa using hr, by rw [List.length_append, hfl]; omega⟩]
   have hset : (rows.flatten.map V.d ++ J).take (j * te.size) ++ r.map .d ++ (rows.flatten.map V.d ++ J).drop (j * te.size + (r.map V.d).length) = (rows.set j r).flatten.map .d ++ J := by
    have e1 : rows = rows.take j ++ rows[j] :: rows.drop (j + 1) := by rw [← List.drop_eq_getElem_cons hj, List.take_append_drop]
    have e2 : rows.set j r = rows.take j ++ r :: rows.drop (j + 1) := List.set_eq_take_append_cons_drop.trans (if_pos hj)
    have f1 : ((rows.take j).flatten.map V.d).length = j * te.size := by
     rw [flat_mlen (fun q hq => hrows q (List.mem_of_mem_take hq))]
     simp only [List.length_take]
     rw [Nat.min_eq_left (by omega)]
    have f2 : (rows[j].map V.d).length = te.size := by simpa using hrows _ (List.getElem_mem hj)
    rw [e2]
    conv => lhs; rw [e1]
    simp only [List.flatten_append, List.flatten_cons, List.map_append, List.append_assoc]
    generalize (rows.take j).flatten.map V.d = A at f1 ⊢
    generalize rows[j].map V.d = X at f2 ⊢
    rw [show (r.map V.d).length = te.size by simpa using hr]
    rw [List.take_append_of_le_length (by omega), List.take_of_length_le (by omega), List.drop_append, List.drop_append]
    rw [List.drop_eq_nil_of_le (by omega), List.nil_append, f1, f2, Nat.add_sub_cancel_left, List.drop_eq_nil_of_le (by omega), List.nil_append, Nat.sub_self, List.drop_zero]
   rw [hset]
   congr 3
   rw [← List.append_assoc, List.set_append_right _ _ (by simp)]
   simp
  ·simp only [rowsSz, List.all_eq_true] at hrs ⊢
   intro q hq
   rcases List.mem_or_eq_of_mem_set hq with h | rfl
   ·exact hrs q h
   ·simpa using hr
theorem BxIs.load {L G : List (List V)} {T : List (Nat × Nat)} {t : TypeId} {te : TyI} {rows : List (List D)} {v : V} {i k cap j : Nat} {r : List D} (hte : tyOf P t = some te) (hag : te.agg = true) (h : BxIs L.length te.size G rows v) (hv : v = .bx i k cap) (hj : rows[j]? = some r) : opLoad P ⟨L ++ G, T⟩ t (.ptr i (j * te.size)) = some (.agg (r.map .d)) := by
 obtain ⟨hjl, hjr⟩ := List.getElem?_eq_some_iff.1 hj
 clear hj
 have hj := hjl
 subst hjr
 rcases h with ⟨rfl, rfl, h2⟩ | ⟨G0, cap2, rfl, h2, hrs, hG0, hcap⟩
 ·exact absurd hj (by simp)
 ·rw [h2] at hv
  cases hv
  obtain ⟨J, hJe⟩ : ∃ J, List.replicate ((cap - rows.length) * te.size) V.undef = J := ⟨_, rfl⟩
  rw [hJe]
  have hrows := rowsSz_iff hrs
  have hfl := flat_mlen hrows
  have hle : j * te.size + te.size ≤ rows.length * te.size := by
   have := Nat.mul_le_mul_right te.size (show j + 1 ≤ rows.length by omega)
   rw [Nat.add_mul] at this
   omega
  have hg : (⟨L ++ (G0 ++ [rows.flatten.map V.d ++ J]), T⟩ : Mem).boxes[L.length + G0.length]? = some (rows.flatten.map .d ++ J) := by
   show (L ++ (G0 ++ [rows.flatten.map .d ++ J]))[L.length + G0.length]? = _
   rw [← List.append_assoc, List.getElem?_append_right (by simp)]
   simp
  unfold opLoad
  simp only [hte, hg, loadV, hag, if_true]
  rw [if_pos (by rw [List.length_append, hfl]; omega)]
  congr 2
  have e1 : rows = rows.take j ++ rows[j] :: rows.drop (j + 1) := by rw [← List.drop_eq_getElem_cons hj, List.take_append_drop]
  have f1 : ((rows.take j).flatten.map V.d).length = j * te.size := by
   rw [flat_mlen (fun q hq => hrows q (List.mem_of_mem_take hq))]
   simp only [List.length_take]
   rw [Nat.min_eq_left (by omega)]
  have f2 : (rows[j].map V.d).length = te.size := by simpa using hrows _ (List.getElem_mem hj)
  conv => lhs; rw [e1]
  simp only [List.flatten_append, List.flatten_cons, List.map_append, List.append_assoc]
  generalize (rows.take j).flatten.map V.d = A at f1 ⊢
  generalize rows[j].map V.d = X at f2 ⊢
  rw [List.drop_append, List.drop_eq_nil_of_le (by omega), List.nil_append, f1, Nat.sub_self, List.drop_zero, List.take_append_of_le_length (by omega), List.take_of_length_le (by omega)]
theorem BxIs.lt {n sz : Nat} {G : List (List V)} {rows : List (List D)} {v : V} {i k cap : Nat} (h : BxIs n sz G rows v) (hv : v = .bx i k cap) : i < n + G.length := by
 rcases h with ⟨_, rfl, h2⟩ | ⟨G0, cap2, rfl, h2, hrs, hG0, hcap⟩
 ·rw [h2] at hv; cases hv
 ·rw [h2] at hv; cases hv; simp
theorem BxIs.opLen {n sz : Nat} {G : List (List V)} {rows : List (List D)} {v : V} {t e : TypeId} {ti : TyI} (hti : tyOf P t = some ti) (he : ti.d = .slice e) (h : BxIs n sz G rows v) : Ab.opLen P t v = some (.d (.int .i64 (rows.length : Int))) := by
 rcases h with ⟨rfl, rfl, rfl⟩ | ⟨G0, cap, rfl, rfl, _⟩
 ·simp [Ab.opLen, hti, toD, he]
 ·simp [Ab.opLen, hti, toD, opLenB, he]
theorem BxIs.len {n sz : Nat} {G : List (List V)} {rows : List (List D)} {v : V} {i k cap : Nat} (h : BxIs n sz G rows v) (hv : v = .bx i k cap) : k = rows.length := by
 rcases h with ⟨_, rfl, h2⟩ | ⟨G0, cap2, rfl, h2, hrs, hG0, hcap⟩
 ·rw [h2] at hv; cases hv
 ·rw [h2] at hv; cases hv; rfl
end
mutual
def frz (n i : Nat) (rows : List (List D)) : V → V
 | .ptr j k => if j < n then .ptr j k else .undef
 | .bx j k cap => if j < n then .bx j k cap else if j = i ∧ k = rows.length then .d (.sl rows) else .undef
 | .mp j => if j < n then .mp j else .undef
 | .kvs ks vs => .kvs ks (frzL n i rows vs)
 | .self j T => if j < n then .self j T else .undef
 | .buf r t T => .buf r t T
 | .func f a b => .func f (frzL n i rows a) (frzL n i rows b)
 | .agg vs => .agg (frzL n i rows vs)
 | .tup vs => .tup (frzL n i rows vs)
 | .undef => .undef
 | .d x => .d x
 | .sl r t => .sl r t
 | .eptr r k => .eptr r k
 | .nilp => .nilp
 | .nilf => .nilf
def frzL (n i : Nat) (rows : List (List D)) : List V → List V
 | [] => []
 | v :: vs => frz n i rows v :: frzL n i rows vs
end
theorem frzL_map (n i : Nat) (rows : List (List D)) : ∀ vs : List V, frzL n i rows vs = vs.map (frz n i rows)
 | [] => by simp [frzL]
 | v :: vs => by simp [frzL, frzL_map n i rows vs]
theorem VR.frz {c : Cx} {w : World} {n i b : Nat} {rows : List (List D)} (hi : c.ρ[i]? = some b) (hD : ∀ cap, rows.length ≤ cap → cap ≤ 9223372036854775807 → DR (c.cut n c.τ.length).M w (.sl rows) (.slice (some ⟨b, 0, none⟩) rows.length cap)) {x : V} {v : Value} (h : VR c w x v) : VR (c.cut n c.τ.length) w (frz n i rows x) v := by
 induction h with
 | undef v => unfold Ab.frz; exact .undef v
 | d x v h => unfold Ab.frz; exact .d x v (h.cut _ _)
 | full r a h ha => unfold Ab.frz; exact .full r a (h.cut _ _) ha
 | own r t a cap j h ht hr hn hl => unfold Ab.frz; exact .own r t a cap j (h.cut _ _) (get_take ht (List.getElem?_eq_some_iff.1 ht).1) hr hn hl
 | ptr j k b h hT =>
  unfold Ab.frz
  split
  ·rename_i hlt
   exact .ptr j k b (get_take h hlt) hT
  ·exact .undef _
 | bx j k cap b2 h hn hm hT =>
  unfold Ab.frz
  split
  ·rename_i hlt
   exact .bx j k cap b2 (get_take h hlt) hn hm hT
  ·split
   ·rename_i he
    obtain ⟨rfl, rfl⟩ := he
    rw [hi] at h
    obtain rfl := Option.some.inj h
    exact .d _ _ (hD cap hn hm)
   ·exact .undef _
 | mp j b2 h =>
  unfold Ab.frz
  split
  ·rename_i hlt
   exact .mp j b2 (get_take h hlt)
  ·exact .undef _
 | self j T b2 v h hT hv =>
  unfold Ab.frz
  split
  ·rename_i hlt
   exact .self j T b2 v (get_take h hlt) hT hv
  ·exact .undef _
 | buf r t T v h hT ih =>
  unfold Ab.frz at ih ⊢
  exact .buf r t T v ih hT
 | eptr row k g o f h =>
  unfold Ab.frz
  refine .eptr row k g o f fun q hq => ?_
  obtain ⟨a, b, d⟩ := h q hq
  exact ⟨fun h => a (cut_M h), b, d.cut _ _⟩
 | nilp => unfold Ab.frz; exact .nilp
 | nilf => unfold Ab.frz; exact .nilf
 | func f first caps cf cc h1 h2 h3 h4 ih1 ih2 =>
  unfold Ab.frz
  rw [frzL_map, frzL_map]
  exact .func f _ _ cf cc (by simpa using h1) (by simpa using h2) (fun j hj => by simpa using ih1 j (by simpa using hj)) (fun j hj => by simpa using ih2 j (by simpa using hj))
 | agg vs cs h1 h2 h3 ih =>
  unfold Ab.frz
  rw [frzL_map]
  exact .agg _ cs (by simpa using h1) (fun j hj => by simpa using ih j (by simpa using hj)) (fun j hj => h3 j (by simpa using hj))
 | tup vs cs h1 h2 ih =>
  unfold Ab.frz
  rw [frzL_map]
  exact .tup _ cs (by simpa using h1) (fun j hj => by simpa using ih j (by simpa using hj))
section
variable {P : Program} {I : Inv} {z : Nat × Nat} {fn : FuncId} {R : V → Mem → Prop} {k : List Item} {env : List V}
theorem ARun.freeze {L G J : List (List V)} {T : List (Nat × Nat)} {sz i len cap : Nat} {rows : List (List D)} (h0 : 0 < sz) (hB : BxIs L.length sz G rows (.bx i len cap)) (hz : z.1 ≤ L.length ∧ z.2 ≤ T.length) (h : ARun P I z fn k (env.map (frz L.length i rows)) ⟨L.map (·.map (frz L.length i rows)), T⟩ R) : ARun P I z fn k env ⟨L ++ (G ++ J), T⟩ R := by
 rcases hB with ⟨_, _, h2⟩ | ⟨G0, cap2, rfl, h2, hrs, _, hcap⟩
 ·cases h2
 cases h2
 intro b a c w c0 w0 h1 h2 h3 h4 h5 h6 hI
 have hrows := rowsSz_iff hrs
 have hno : NoKv (rows.flatten.map V.d ++ List.replicate ((cap - rows.length) * sz) V.undef) := by
  intro ks us he
  have h0 : V.kvs ks us ∈ rows.flatten.map V.d ++ List.replicate ((cap - rows.length) * sz) V.undef := by rw [he]; simp
  rcases List.mem_append.1 h0 with h | h
  ·obtain ⟨d, _, e⟩ := List.mem_map.1 h
   cases e
  ·have := List.eq_of_mem_replicate h
   cases this
 generalize List.replicate ((cap - rows.length) * sz) V.undef = X at *
 have hm : c.τ.length = T.length := by
  have := congrArg List.length h5.toks
  simp at this; omega
 have hbl : (L ++ ((G0 ++ [rows.flatten.map V.d ++ X]) ++ J)).length = c.ρ.length := h5.len
 obtain ⟨b0, hb0⟩ : ∃ b0, c.ρ[L.length + G0.length]? = some b0 := ⟨_, List.getElem?_eq_getElem (by rw [← hbl]; simp)⟩
 have hbox : (⟨L ++ ((G0 ++ [rows.flatten.map .d ++ X]) ++ J), T⟩ : Mem).boxes[L.length + G0.length]? = some (rows.flatten.map .d ++ X) := by
  show (L ++ ((G0 ++ [rows.flatten.map .d ++ X]) ++ J))[L.length + G0.length]? = _
  rw [← List.append_assoc, ← List.append_assoc, List.getElem?_append_left (by simp), List.getElem?_append_right (by simp)]
  simp
 obtain ⟨cs, Ty, hh, hsz, hcs⟩ := h5.boxCells hb0 (h5.tyOfBox hb0 hbox hno) hbox
 have hnM : ∀ q, ¬ (c.cut L.length c.τ.length).M b0 q := by
  rintro q ((hm | hm) | ⟨t, i, off, ht, ha, e1, e2⟩)
  ·have e1 := (c.hX _ _ hm).2
   have e2 : c.X b0 q := hm
   obtain ⟨e3, _⟩ := h5.box _ _ hb0
   omega
  ·obtain ⟨j, hj⟩ := mem_ρ.1 hm
   have hj' : (c.ρ.take L.length)[j]? = some b0 := hj
   rw [List.getElem?_take] at hj'
   split at hj'
   case isFalse => cases hj'
   have := h5.inj _ _ _ hj' hb0
   omega
  ·have ht' : (c.τ.take c.τ.length)[t]? = some i := ht
   rw [List.take_length] at ht'
   obtain ⟨a1, a2, a3, a4, a5⟩ := h5.tok t i ht'
   have hlt : i.n < i.cap := by
    rcases Nat.lt_or_ge i.n i.cap with h' | h'
    ·exact h'
    ·have := Nat.mul_le_mul_right i.sz h'
     omega
   exact (a5 hlt b0 off ha).2.1 (mem_ρ.2 ⟨_, hb0⟩)
 have hD : ∀ cp, rows.length ≤ cp → cp ≤ 9223372036854775807 → DR (c.cut L.length c.τ.length).M w (.sl rows) (.slice (some ⟨b0, 0, none⟩) rows.length cp) := by
  intro cp hc1 hc2
  have hget : ∀ (j q : Nat) (r : List D) (d : D), rows[j]? = some r → r[q]? = some d → w.cell? ⟨b0, j * sz + q, none⟩ = some (cs.getD (j * sz + q) undef) ∧ DR c.M w d (cs.getD (j * sz + q) undef) := by
   intro j q r d hj hq
   have e1 := flat_get hrows j q r d hj hq
   have e2 := (List.getElem?_eq_some_iff.1 e1).1
   have hlt : j * sz + q < (rows.flatten.map V.d ++ X).length := by rw [List.length_append, List.length_map]; omega
   obtain ⟨q1, q2, _⟩ := hcs _ hlt
   refine ⟨q1, ?_⟩
   have e3 : (rows.flatten.map V.d ++ X)[j * sz + q] = .d d := by
    rw [List.getElem_append_left (by rw [List.length_map]; exact e2), List.getElem_map]
    congr 1
    exact (List.getElem?_eq_some_iff.1 e1).2
   rw [e3] at q2
   cases q2 with
   | d _ _ h => exact h
  refine .sl rows sz _ cp (fun j q => cs.getD (j * sz + q) undef) h0 hrows hc1 hc2 (fun _ => ⟨b0, 0, rfl, fun j hj q hq => ⟨hnM _, ?_⟩⟩) (fun j hj q hq => ?_)
  ·rw [Nat.zero_add]
   exact (hget j q _ _ (List.getElem?_eq_getElem hj) (List.getElem?_eq_getElem hq)).1
  ·exact (hget j q _ _ (List.getElem?_eq_getElem hj) (List.getElem?_eq_getElem hq)).2.cut _ _
 have hrep : Rep (c.cut L.length c.τ.length) w ⟨L.map (·.map (frz L.length (L.length + G0.length) rows)), T⟩ := by
  refine ⟨h5.hB, by simp [Cx.cut]; simp at hbl; omega, fun i b hi => ?_, fun i j b hi hj => ?_, ?_, fun t i ht => ?_, fun t t' i i' g off off' ht ht' => ?_, h5.inv⟩
  ·have hi' : (c.ρ.take L.length)[i]? = some b := hi
   rw [List.getElem?_take] at hi'
   split at hi'
   case isFalse => cases hi'
   rename_i hlt
   obtain ⟨a, o, hh, vs, g1, g2⟩ := h5.box i b hi'
   have g1' : L[i]? = some vs := by
    have : (L ++ ((G0 ++ [rows.flatten.map .d ++ X]) ++ J))[i]? = some vs := g1
    rwa [List.getElem?_append_left hlt] at this
   refine ⟨a, o, hh, vs.map (frz L.length (L.length + G0.length) rows), ?_, ?_⟩
   ·show (L.map _)[i]? = _
    rw [List.getElem?_map, g1']
    rfl
   ·cases g2 with
    | cells cs Ty _ g2 g3 =>
     refine .cells cs Ty _ (by simpa using g2) fun j hj => ?_
     have hj' : j < vs.length := by simpa using hj
     rw [List.getElem_map]
     exact ⟨(g3 j hj').1.frz hb0 hD, (g3 j hj').2⟩
    | map es ck ks us g0 k1 g2 =>
     simp only [List.map_cons, List.map_nil, frz, frzL_map]
     refine .map es ck ks _ g0 (by simpa using k1) fun j k v hj hv => ?_
     rw [List.getElem?_map] at hv
     obtain ⟨u, hu, rfl⟩ := Option.map_eq_some_iff.1 hv
     exact (g2 j k u hj hu).imp fun e he => ⟨he.1, he.2.1, he.2.2.frz hb0 hD⟩
  ·have hi' : (c.ρ.take L.length)[i]? = some b := hi
   have hj' : (c.ρ.take L.length)[j]? = some b := hj
   rw [List.getElem?_take] at hi' hj'
   split at hi'
   case isFalse => cases hi'
   split at hj'
   case isFalse => cases hj'
   exact h5.inj i j b hi' hj'
  ·show T = (c.τ.take c.τ.length).map _
   rw [List.take_length]
   exact h5.toks
  ·have ht' : (c.τ.take c.τ.length)[t]? = some i := ht
   rw [List.take_length] at ht'
   obtain ⟨a1, a2, a3, a4, a5⟩ := h5.tok t i ht'
   refine ⟨a1, a2, a3, a4, fun hlt g off ha => ?_⟩
   obtain ⟨b1, b2, b3⟩ := a5 hlt g off ha
   exact ⟨b1, fun hm => b2 (List.mem_of_mem_take hm), b3⟩
  ·have ht1 : (c.τ.take c.τ.length)[t]? = some i := ht
   have ht2 : (c.τ.take c.τ.length)[t']? = some i' := ht'
   rw [List.take_length] at ht1 ht2
   exact h5.disj t t' i i' g off off' ht1 ht2
 have henv : EnvR (c.cut L.length c.τ.length) w (env.map (frz L.length (L.length + G0.length) rows)) a.tmps := by
  refine ⟨by simpa using h4.1, fun t ht => ?_⟩
  have ht' : t < env.length := by simpa using ht
  rw [List.getElem_map]
  exact (h4.2 t ht').frz hb0 hD
 refine h b a (c.cut L.length c.τ.length) w c0 w0 h1 h2 h3 henv hrep ⟨⟨fun g k v hm hv => ?_, fun i b hi => ?_, fun t i hi => ?_, h6.B, h6.keeps.ty⟩, h6.B, h6.I, h6.X, h6.below⟩ ⟨hI.1, hI.2⟩
 ·exact ⟨fun h => (h6.keeps.cell g k v hm hv).1 (cut_M h), (h6.keeps.cell g k v hm hv).2⟩
 ·have := (List.getElem?_eq_some_iff.1 hi).1
  exact get_take (h6.keeps.ρ i b hi) (by omega)
 ·obtain ⟨i', a1, a2⟩ := h6.keeps.τ t i hi
  have := (List.getElem?_eq_some_iff.1 a1).1
  exact ⟨i', get_take a1 this, a2⟩
theorem ARun.plainS {S : Mem} (q : Nat) (rows : List (List D)) (tk : Tok) (hq : env.getD q .undef = .sl rows tk) (h : ARun P I z fn k (env.set q (.d (.sl rows))) S R) : ARun P I z fn k env S R := by
 intro b a c w c0 w0 h1 h2 h3 h4 h5 h6 hI
 refine h b a c w c0 w0 h1 h2 h3 ⟨by simpa using h4.1, fun t ht => ?_⟩ h5 h6 hI
 have ht' : t < env.length := by simpa using ht
 by_cases e : q = t
 ·subst e
  have hv := h4.get q
  rw [hq] at hv
  have hp : VR c w (.d (.sl rows)) (a.tmps.getD q undef) := by
   generalize a.tmps.getD q undef = v at hv
   cases hv with
   | full _ a h ha => exact .d _ _ h
   | own _ t a cap i h ht hr hn hl => exact .d _ _ h
  simpa using hp
 ·have := h4.2 t ht'
  simpa [e] using this
end
section
variable {P : Program} {I : Inv} {ops : Array Oper} {W : List Nat} {MM : Mem → Prop} {K : List V → Mem → Prop} {env : List V} {S : Mem} {listed : Array Bool}
end
set_option linter.unusedSimpArgs false
section
variable {P : Program} {c : Cx} {w : World} {S : Mem}
def AppM (sz : Nat) (B : List (List V)) (T : List (Nat × Nat)) (s : V) (r : List D) (v : V) (S' : Mem) : Prop :=
 match s with
 | .sl [] .full => ∃ cap', 1 ≤ cap' ∧ cap' ≤ 9223372036854775807 ∧ v = .bx B.length 1 cap' ∧ S' = ⟨B ++ [r.map .d ++ List.replicate ((cap' - 1) * sz) .undef], T⟩
 | .bx i n cap => ∃ X, B[i]? = some X ∧ ((n + 1 ≤ cap ∧ v = .bx i (n + 1) cap ∧ S' = ⟨B.set i (X.take (n * sz) ++ r.map .d ++ X.drop (n * sz + sz)), T⟩) ∨ ∃ cap', n + 1 ≤ cap' ∧ cap' ≤ 9223372036854775807 ∧ v = .bx B.length (n + 1) cap' ∧ S' = ⟨B ++ [X.take (n * sz) ++ r.map .d ++ List.replicate ((cap' - (n + 1)) * sz) .undef], T⟩)
 | _ => False
def CanM (sz : Nat) (B : List (List V)) (s : V) : Prop :=
 match s with
 | .sl [] .full => True
 | .bx i n cap => ∃ X, B[i]? = some X ∧ X.length = cap * sz ∧ n ≤ 1000000000
 | _ => False
theorem AppM.ex {sz : Nat} {B : List (List V)} (T : List (Nat × Nat)) {s : V} (r : List D) (h : CanM sz B s) : ∃ v S', AppM sz B T s r v S' := by
 unfold CanM at h
 split at h
 ·exact ⟨_, _, 1, by omega, by omega, rfl, rfl⟩
 ·rename_i i n cap
  obtain ⟨X, hX, _⟩ := h
  exact ⟨_, _, X, hX, .inr ⟨n + 1, Nat.le_refl _, by omega, rfl, rfl⟩⟩
 ·exact h.elim
end
end Go.Ab
