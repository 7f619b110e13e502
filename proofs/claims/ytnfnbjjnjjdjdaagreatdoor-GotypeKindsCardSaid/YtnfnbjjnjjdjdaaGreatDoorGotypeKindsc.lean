/- GotypeKinds answers true, for any kind. Part 3 of 5 of the proof. -/
import Derived.Test.YtnfnbjjnjjdjdaaGreatDoorGotypeKindsb
import Derived.Test.YtnfnbjjnjjdjdaaGreatDoorRows
import Derived.ProofKit
namespace Go.Proofs.YtnfnbjjnjjdjdaaGreatDoor
open Go.RowKit Go.Av
inductive TyT where
 | mk (kind : Int) (name : List UInt8) (elem : List TyT)
def TyT.kind : TyT → Int | .mk k _ _ => k
def TyT.name : TyT → List UInt8 | .mk _ n _ => n
def TyT.elem : TyT → List TyT | .mk _ _ es => es
inductive ExT where
 | mk (kind : Int) (text : List UInt8) (int : Int) (type : TyT) (names : List (List UInt8)) (kids : List ExT)
def ExT.kind : ExT → Int | .mk k _ _ _ _ _ => k
def ExT.text : ExT → List UInt8 | .mk _ t _ _ _ _ => t
def ExT.int : ExT → Int | .mk _ _ i _ _ _ => i
def ExT.type : ExT → TyT | .mk _ _ _ t _ _ => t
def ExT.names : ExT → List (List UInt8) | .mk _ _ _ _ n _ => n
def ExT.kids : ExT → List ExT | .mk _ _ _ _ _ k => k
def partOk (d p : Int) : Bool := decide (p + 1 ≤ 60000) && decide (d ≤ 60)
def tyS (idn : List UInt8 → Bool) : TyT → Int → Int → Bool × Int
 | .mk k n es, d, p =>
  if partOk d p = false then (false, p + 1)
  else if 1 ≤ k ∧ k ≤ 6 then (decide (n = []) && decide (es.length = 0), p + 1)
  else if k = 7 then (idn n && decide (es.length = 0), p + 1)
  else match es with
   | [e] => if k = 8 ∧ n = [] then tyS idn e (d + 1) (p + 1) else (false, p + 1)
   | _ => (false, p + 1)
def tyRest (idn : List UInt8 → Bool) (k : Int) (n : List UInt8) (d p : Int) : List TyT → Bool × Int
 | [e] => if k = 8 ∧ n = [] then tyS idn e (d + 1) (p + 1) else (false, p + 1)
 | _ => (false, p + 1)
theorem tyS_go (idn : List UInt8 → Bool) (k : Int) (n : List UInt8) (es : List TyT) (d p : Int) (hk : ¬ partOk d p = false) : tyS idn (.mk k n es) d p = (if 1 ≤ k ∧ k ≤ 6 then (decide (n = []) && decide (es.length = 0), p + 1)
 else if k = 7 then (idn n && decide (es.length = 0), p + 1) else tyRest idn k n d p es) := by
 match es with
 | [] => conv => lhs; unfold tyS
         rw [if_neg hk]; rfl
 | [e] => conv => lhs; unfold tyS
          rw [if_neg hk]; rfl
 | e :: f :: l => conv => lhs; unfold tyS
                  rw [if_neg hk]; rfl
theorem tyRest_no (idn : List UInt8 → Bool) (k : Int) (n : List UInt8) (d p : Int) (es : List TyT) (h : ¬ (k = 8 ∧ n = []) ∨ es.length ≠ 1) : tyRest idn k n d p es = (false, p + 1) := by
 match es with
 | [] => rfl
 | [e] => rcases h with h | h
          ·exact if_neg h
          ·exact absurd rfl h
 | e :: f :: l => rfl
def zeroS (t : TyT) : Bool := decide (t.kind = 0) && decide (t.name = []) && decide (t.elem.length = 0)
def manyS (k : Int) : Int := if k = 1 ∨ k = 2 ∨ k = 3 then 0 else if k = 4 ∨ k = 5 ∨ k = 8 ∨ k = 9 ∨ k = 12 then 1 else if k = 6 ∨ k = 10 ∨ k = 13 then 2 else if k = 11 then 3 else if k = 7 ∨ k = 14 ∨ k = 15 then -1 else -2
def hasS (l : List (List UInt8)) (s : List UInt8) : Bool := l.contains s
def diffS : Nat → List (List UInt8) → Bool
 | 0, _ => true
 | n + 1, l => diffS n l && identS (l.getD n []) && !hasS (l.take n) (l.getD n [])
theorem diffS_no (l : List (List UInt8)) (j : Nat) (h : diffS j l = false) : ∀ m, j ≤ m → diffS m l = false := by
 intro m
 induction m with
 | zero => intro hm; obtain rfl : j = 0 := by omega
           exact h
 | succ m ih =>
  intro hm
  rcases Nat.lt_or_ge j (m + 1) with h' | h'
  ·show (diffS m l && identS (l.getD m []) && !hasS (l.take m) (l.getD m [])) = false
   rw [ih (by omega)]
   rfl
  ·obtain rfl : j = m + 1 := by omega
   exact h
def rankT : List (List UInt8 × Int) := [([42], 5), ([47], 5), ([37], 5), ([60, 60], 5), ([62, 62], 5), ([38], 5), ([43], 4), ([45], 4), ([124], 4), ([94], 4), ([61, 61], 3), ([33, 61], 3), ([60], 3), ([60, 61], 3), ([62], 3), ([62, 61], 3), ([38, 38], 2), ([124, 124], 1)]
def rankS (s : List UInt8) : Int := ((rankT.find? fun x => x.1 == s).map (·.2)).getD 0
theorem rank_in (s : List UInt8) : (∃ x ∈ rankT, s = x.1) ∨ ∀ x ∈ rankT, (s == x.1) = false := by
 by_cases h : ∃ x ∈ rankT, s = x.1
 ·exact .inl h
 ·exact .inr fun x hx => beq_eq_false_iff_ne.2 fun e => h ⟨x, hx, e⟩
def bareT (x : ExT) (d p : Int) : Bool × Int :=
 if x.kind = 8 then (if 2 ≤ x.type.kind ∧ x.type.kind ≤ 6 then tyS identS x.type (d + 1) p else (false, p))
 else if x.kind = 14 then (if x.type.kind = 7 then (if (tyS identS x.type (d + 1) p).1 = true then (decide (x.names.length = x.kids.length) && diffS x.names.length x.names, (tyS identS x.type (d + 1) p).2) else (false, (tyS identS x.type (d + 1) p).2)) else (false, p))
 else if x.kind = 15 then (if x.type.kind = 8 then tyS identS x.type (d + 1) p else (false, p))
 else (if x.kind = 1 ∨ x.kind = 7 ∨ x.kind = 9 then identS x.text else if x.kind = 6 then decide (0 < rankS x.text) else if x.kind = 3 then decide (x.int ≤ 1) else true, p)
def bareS (x : ExT) (d p : Int) : Bool × Int :=
 ((bareT x d p).1 && !(if x.kind = 1 ∨ x.kind = 7 ∨ x.kind = 9 ∨ x.kind = 6 then false else !(x.text == [])) && !(if x.kind = 2 ∨ x.kind = 3 then false else (x.int != 0)) &&
   !(if x.kind = 8 ∨ x.kind = 14 ∨ x.kind = 15 then false else !(zeroS x.type)) && !(if x.kind = 14 then false else decide (0 < x.names.length)), (bareT x d p).2)
theorem tyS_ok (idn : List UInt8 → Bool) : ∀ (t : TyT) (d p : Int), (tyS idn t d p).1 = true → p + 1 ≤ (tyS idn t d p).2 ∧ (tyS idn t d p).2 ≤ 60000
 | .mk k n es, d, p, h => by
  by_cases hk : partOk d p = false
  ·exfalso
   unfold tyS at h
   rw [if_pos hk] at h
   cases h
  ·have hp : p + 1 ≤ 60000 := by
    have h2 : partOk d p = true := by simpa using hk
    unfold partOk at h2
    rw [Bool.and_eq_true, decide_eq_true_iff, decide_eq_true_iff] at h2
    exact h2.1
   rw [tyS_go idn k n es d p hk] at h ⊢
   by_cases h1 : 1 ≤ k ∧ k ≤ 6
   ·rw [if_pos h1]
    exact ⟨Int.le_refl _, hp⟩
   ·rw [if_neg h1] at h ⊢
    by_cases h7 : k = 7
    ·rw [if_pos h7]
     exact ⟨Int.le_refl _, hp⟩
    ·rw [if_neg h7] at h ⊢
     match es with
     | [] => cases h
     | e :: f :: l => cases h
     | [e] =>
      by_cases h8 : k = 8 ∧ n = []
      ·have he : tyRest idn k n d p [e] = tyS idn e (d + 1) (p + 1) := if_pos h8
       rw [he] at h ⊢
       have := tyS_ok idn e (d + 1) (p + 1) h
       omega
      ·have he : tyRest idn k n d p [e] = (false, p + 1) := if_neg h8
       rw [he] at h
       cases h
theorem bareS_ok (x : ExT) (d p : Int) (hp : p ≤ 60000) (h : (bareS x d p).1 = true) : p ≤ (bareS x d p).2 ∧ (bareS x d p).2 ≤ 60000 := by
 have ht : (bareT x d p).1 = true := by
  unfold bareS at h
  simp only [Bool.and_eq_true] at h
  exact h.1.1.1.1
 show p ≤ (bareT x d p).2 ∧ (bareT x d p).2 ≤ 60000
 revert ht
 unfold bareT
 intro ht
 have hty := tyS_ok identS x.type (d + 1) p
 by_cases h8 : x.kind = 8
 ·rw [if_pos h8] at ht ⊢
  by_cases hq : 2 ≤ x.type.kind ∧ x.type.kind ≤ 6
  ·rw [if_pos hq] at ht ⊢
   have := hty ht
   omega
  ·rw [if_neg hq] at ht
   cases ht
 ·rw [if_neg h8] at ht ⊢
  by_cases h14 : x.kind = 14
  ·rw [if_pos h14] at ht ⊢
   by_cases hq : x.type.kind = 7
   ·rw [if_pos hq] at ht ⊢
    by_cases hr : (tyS identS x.type (d + 1) p).1 = true
    ·rw [if_pos hr]
     have := hty hr
     simp only
     omega
    ·rw [if_neg hr] at ht
     cases ht
   ·rw [if_neg hq] at ht
    cases ht
  ·rw [if_neg h14] at ht ⊢
   by_cases h15 : x.kind = 15
   ·rw [if_pos h15] at ht ⊢
    by_cases hq : x.type.kind = 8
    ·rw [if_pos hq] at ht ⊢
     have := hty ht
     omega
    ·rw [if_neg hq] at ht
     cases ht
   ·rw [if_neg h15]
    simp only
    omega
def mostS (k : Int) : Int := if k = 15 then 30000 else 40
mutual
def exS : ExT → Int → Int → Bool × Int
 | .mk k t i ty ns ks, d, p =>
  if partOk d p = false then (false, p + 1)
  else if mostS k < (ks.length : Int) ∨ manyS k = -2 ∨ (0 ≤ manyS k ∧ (ks.length : Int) ≠ manyS k) then (false, p + 1)
  else if (bareS (.mk k t i ty ns ks) d (p + 1)).1 = false then (false, (bareS (.mk k t i ty ns ks) d (p + 1)).2)
  else exsS ks (d + 1) (bareS (.mk k t i ty ns ks) d (p + 1)).2
def exsS : List ExT → Int → Int → Bool × Int
 | [], _, p => (true, p)
 | x :: l, d, p => if (exS x d p).1 = false then (false, (exS x d p).2) else exsS l d (exS x d p).2
end
mutual
theorem exS_ok : ∀ (x : ExT) (d p : Int), (exS x d p).1 = true → p + 1 ≤ (exS x d p).2 ∧ (exS x d p).2 ≤ 60000
 | .mk k t i ty ns ks, d, p, h => by
  unfold exS at h ⊢
  by_cases hk : partOk d p = false
  ·rw [if_pos hk] at h; cases h
  ·have hp : p + 1 ≤ 60000 := by
    have h2 : partOk d p = true := by simpa using hk
    unfold partOk at h2
    rw [Bool.and_eq_true, decide_eq_true_iff, decide_eq_true_iff] at h2
    exact h2.1
   rw [if_neg hk] at h ⊢
   by_cases h1 : mostS k < (ks.length : Int) ∨ manyS k = -2 ∨ (0 ≤ manyS k ∧ (ks.length : Int) ≠ manyS k)
   ·rw [if_pos h1] at h; cases h
   ·rw [if_neg h1] at h ⊢
    by_cases h2 : (bareS (.mk k t i ty ns ks) d (p + 1)).1 = false
    ·rw [if_pos h2] at h; cases h
    ·rw [if_neg h2] at h ⊢
     have hb := bareS_ok (.mk k t i ty ns ks) d (p + 1) hp (by simpa using h2)
     have := exsS_ok ks (d + 1) _ hb.2 h
     omega
theorem exsS_ok : ∀ (l : List ExT) (d p : Int), p ≤ 60000 → (exsS l d p).1 = true → p ≤ (exsS l d p).2 ∧ (exsS l d p).2 ≤ 60000
 | [], d, p, hp, _ => ⟨Int.le_refl _, hp⟩
 | x :: l, d, p, hp, h => by
  unfold exsS at h ⊢
  by_cases h1 : (exS x d p).1 = false
  ·rw [if_pos h1] at h; cases h
  ·rw [if_neg h1] at h ⊢
   have hx := exS_ok x d p (by simpa using h1)
   have := exsS_ok l d _ hx.2 h
   omega
end
theorem exsS_step (ks : List ExT) (j : Nat) (h : j < ks.length) (d p : Int) : exsS (ks.drop j) d p = if (exS ks[j] d p).1 = false then (false, (exS ks[j] d p).2) else exsS (ks.drop (j + 1)) d (exS ks[j] d p).2 := by
 rw [List.drop_eq_getElem_cons h]
 conv => lhs; unfold exsS
mutual
def sameT : TyT → TyT → Bool
 | .mk k n es, u => decide (k = u.kind) && (n == u.name) && sameTs es u.elem
def sameTs : List TyT → List TyT → Bool
 | [], l => decide (l.length = 0)
 | t :: ts, l => match l with
  | [] => false
  | u :: us => sameT t u && sameTs ts us
end
mutual
def tcS : TyT → Int
 | .mk _ _ es => 1 + tcsS es
def tcsS : List TyT → Int
 | [] => 0
 | e :: es => tcS e + tcsS es
end
mutual
def ecS : ExT → Int
 | .mk _ _ _ ty _ ks => 1 + (if zeroS ty = true then 0 else tcS ty) + ecsS ks
def ecsS : List ExT → Int
 | [] => 0
 | x :: l => ecS x + ecsS l
end
theorem tyS_cnt (idn : List UInt8 → Bool) : ∀ (t : TyT) (d p : Int), (tyS idn t d p).1 = true → (tyS idn t d p).2 = p + tcS t ∧ zeroS t = false
 | .mk k n es, d, p, h => by
  have hz : k ≠ 0 → zeroS (.mk k n es) = false := fun hk => by
   unfold zeroS
   rw [show (TyT.mk k n es).kind = k from rfl, decide_eq_false hk]
   rfl
  by_cases hk : partOk d p = false
  ·exfalso
   unfold tyS at h
   rw [if_pos hk] at h
   cases h
  ·rw [tyS_go idn k n es d p hk] at h ⊢
   have hnil : es.length = 0 → tcS (.mk k n es) = 1 := fun e => by
    obtain rfl := List.eq_nil_of_length_eq_zero e
    unfold tcS tcsS
    rfl
   by_cases h1 : 1 ≤ k ∧ k ≤ 6
   ·rw [if_pos h1] at h ⊢
    simp only [Bool.and_eq_true, decide_eq_true_eq] at h
    rw [hnil h.2]
    exact ⟨rfl, hz (by omega)⟩
   ·rw [if_neg h1] at h ⊢
    by_cases h7 : k = 7
    ·rw [if_pos h7] at h ⊢
     simp only [Bool.and_eq_true, decide_eq_true_eq] at h
     rw [hnil h.2]
     exact ⟨rfl, hz (by omega)⟩
    ·rw [if_neg h7] at h ⊢
     match es with
     | [] => cases h
     | e :: f :: l => cases h
     | [e] =>
      by_cases h8 : k = 8 ∧ n = []
      ·have he : tyRest idn k n d p [e] = tyS idn e (d + 1) (p + 1) := if_pos h8
       rw [he] at h ⊢
       have := (tyS_cnt idn e (d + 1) (p + 1) h).1
       have hc : tcS (.mk k n [e]) = 1 + (tcS e + 0) := by
        conv => lhs; unfold tcS tcsS tcsS
       exact ⟨by omega, hz (by omega)⟩
      ·have he : tyRest idn k n d p [e] = (false, p + 1) := if_neg h8
       rw [he] at h
       cases h
theorem bareS_cnt (x : ExT) (d p : Int) (h : (bareS x d p).1 = true) : (bareS x d p).2 = p + (if zeroS x.type = true then 0 else tcS x.type) := by
 have hty := tyS_cnt identS x.type (d + 1) p
 have hp : (bareS x d p).2 = (bareT x d p).2 := rfl
 rw [hp]
 unfold bareS at h
 simp only [Bool.and_eq_true] at h
 obtain ⟨⟨⟨⟨ht, _⟩, _⟩, hz⟩, _⟩ := h
 revert ht
 unfold bareT
 intro ht
 by_cases h8 : x.kind = 8
 ·rw [if_pos h8] at ht ⊢
  by_cases hq : 2 ≤ x.type.kind ∧ x.type.kind ≤ 6
  ·rw [if_pos hq] at ht ⊢
   obtain ⟨e1, e2⟩ := hty ht
   rw [e1, e2]
   rfl
  ·rw [if_neg hq] at ht
   cases ht
 ·rw [if_neg h8] at ht ⊢
  by_cases h14 : x.kind = 14
  ·rw [if_pos h14] at ht ⊢
   by_cases hq : x.type.kind = 7
   ·rw [if_pos hq] at ht ⊢
    by_cases hr : (tyS identS x.type (d + 1) p).1 = true
    ·obtain ⟨e1, e2⟩ := hty hr
     rw [if_pos hr, e1, e2]
     rfl
    ·rw [if_neg hr] at ht
     cases ht
   ·rw [if_neg hq] at ht
    cases ht
  ·rw [if_neg h14] at ht ⊢
   by_cases h15 : x.kind = 15
   ·rw [if_pos h15] at ht ⊢
    by_cases hq : x.type.kind = 8
    ·rw [if_pos hq] at ht ⊢
     obtain ⟨e1, e2⟩ := hty ht
     rw [e1, e2]
     rfl
    ·rw [if_neg hq] at ht
     cases ht
   ·rw [if_neg h15]
    rw [if_neg (by rintro (h | h | h); exact h8 h; exact h14 h; exact h15 h)] at hz
    have hz2 : zeroS x.type = true := by simpa using hz
    rw [if_pos hz2]
    simp
mutual
theorem exS_cnt : ∀ (x : ExT) (d p : Int), (exS x d p).1 = true → (exS x d p).2 = p + ecS x
 | .mk k t i ty ns ks, d, p, h => by
  unfold exS at h ⊢
  unfold ecS
  by_cases hk : partOk d p = false
  ·rw [if_pos hk] at h; cases h
  ·rw [if_neg hk] at h ⊢
   by_cases h1 : mostS k < (ks.length : Int) ∨ manyS k = -2 ∨ (0 ≤ manyS k ∧ (ks.length : Int) ≠ manyS k)
   ·rw [if_pos h1] at h; cases h
   ·rw [if_neg h1] at h ⊢
    by_cases h2 : (bareS (.mk k t i ty ns ks) d (p + 1)).1 = false
    ·rw [if_pos h2] at h; cases h
    ·rw [if_neg h2] at h ⊢
     have hb : (bareS (.mk k t i ty ns ks) d (p + 1)).2 = (p + 1) + (if zeroS ty = true then 0 else tcS ty) := bareS_cnt (.mk k t i ty ns ks) d (p + 1) (by simpa using h2)
     have := exsS_cnt ks (d + 1) _ h
     omega
theorem exsS_cnt : ∀ (l : List ExT) (d p : Int), (exsS l d p).1 = true → (exsS l d p).2 = p + ecsS l
 | [], d, p, _ => by unfold exsS ecsS; simp
 | x :: l, d, p, h => by
  unfold exsS at h ⊢
  unfold ecsS
  by_cases h1 : (exS x d p).1 = false
  ·rw [if_pos h1] at h; cases h
  ·rw [if_neg h1] at h ⊢
   have hx := exS_cnt x d p (by simpa using h1)
   have := exsS_cnt l d _ h
   omega
end
theorem partOk_mono {d p d' p' : Int} (h : partOk d p = true) (hd : d' ≤ d) (hp : p' ≤ p) : partOk d' p' = true := by
 unfold partOk at h ⊢
 rw [Bool.and_eq_true, decide_eq_true_iff, decide_eq_true_iff] at h ⊢
 omega
theorem tyS_mono (idn : List UInt8 → Bool) : ∀ (t : TyT) (d p d' p' : Int), (tyS idn t d p).1 = true → d' ≤ d → p' ≤ p → (tyS idn t d' p').1 = true
 | .mk k n es, d, p, d', p', h, hd, hp => by
  by_cases hk : partOk d p = false
  ·exfalso
   unfold tyS at h
   rw [if_pos hk] at h
   cases h
  ·have hk' : ¬ partOk d' p' = false := by rw [partOk_mono (by simpa using hk) hd hp]; decide
   rw [tyS_go idn k n es d p hk] at h
   rw [tyS_go idn k n es d' p' hk']
   by_cases h1 : 1 ≤ k ∧ k ≤ 6
   ·rw [if_pos h1] at h ⊢
    exact h
   ·rw [if_neg h1] at h ⊢
    by_cases h7 : k = 7
    ·rw [if_pos h7] at h ⊢
     exact h
    ·rw [if_neg h7] at h ⊢
     match es with
     | [] => cases h
     | e :: f :: l => cases h
     | [e] =>
      by_cases h8 : k = 8 ∧ n = []
      ·have he : tyRest idn k n d p [e] = tyS idn e (d + 1) (p + 1) := if_pos h8
       have he' : tyRest idn k n d' p' [e] = tyS idn e (d' + 1) (p' + 1) := if_pos h8
       rw [he] at h
       rw [he']
       exact tyS_mono idn e _ _ _ _ h (by omega) (by omega)
      ·have he : tyRest idn k n d p [e] = (false, p + 1) := if_neg h8
       rw [he] at h
       cases h
theorem bareT_mono (x : ExT) (d p d' p' : Int) (h : (bareT x d p).1 = true) (hd : d' ≤ d) (hp : p' ≤ p) : (bareT x d' p').1 = true := by
 have hty := fun hh => tyS_mono identS x.type (d + 1) p (d' + 1) p' hh (by omega) hp
 unfold bareT at h ⊢
 by_cases h8 : x.kind = 8
 ·rw [if_pos h8] at h ⊢
  by_cases hq : 2 ≤ x.type.kind ∧ x.type.kind ≤ 6
  ·rw [if_pos hq] at h ⊢
   exact hty h
  ·rw [if_neg hq] at h
   cases h
 ·rw [if_neg h8] at h ⊢
  by_cases h14 : x.kind = 14
  ·rw [if_pos h14] at h ⊢
   by_cases hq : x.type.kind = 7
   ·rw [if_pos hq] at h ⊢
    by_cases hr : (tyS identS x.type (d + 1) p).1 = true
    ·rw [if_pos hr] at h
     rw [if_pos (hty hr)]
     exact h
    ·rw [if_neg hr] at h
     cases h
   ·rw [if_neg hq] at h
    cases h
  ·rw [if_neg h14] at h ⊢
   by_cases h15 : x.kind = 15
   ·rw [if_pos h15] at h ⊢
    by_cases hq : x.type.kind = 8
    ·rw [if_pos hq] at h ⊢
     exact hty h
    ·rw [if_neg hq] at h
     cases h
   ·rw [if_neg h15] at h ⊢
    exact h
theorem bareS_mono (x : ExT) (d p d' p' : Int) (h : (bareS x d p).1 = true) (hd : d' ≤ d) (hp : p' ≤ p) : (bareS x d' p').1 = true := by
 unfold bareS at h ⊢
 simp only [Bool.and_eq_true] at h ⊢
 exact ⟨⟨⟨⟨bareT_mono x d p d' p' h.1.1.1.1 hd hp, h.1.1.1.2⟩, h.1.1.2⟩, h.1.2⟩, h.2⟩
mutual
theorem exS_mono : ∀ (x : ExT) (d p d' p' : Int), (exS x d p).1 = true → d' ≤ d → p' ≤ p → (exS x d' p').1 = true
 | .mk k t i ty ns ks, d, p, d', p', h, hd, hp => by
  unfold exS at h ⊢
  by_cases hk : partOk d p = false
  ·rw [if_pos hk] at h; cases h
  ·have hk' : ¬ partOk d' p' = false := by rw [partOk_mono (by simpa using hk) hd hp]; decide
   rw [if_neg hk] at h
   rw [if_neg hk']
   by_cases h1 : mostS k < (ks.length : Int) ∨ manyS k = -2 ∨ (0 ≤ manyS k ∧ (ks.length : Int) ≠ manyS k)
   ·rw [if_pos h1] at h; cases h
   ·rw [if_neg h1] at h ⊢
    by_cases h2 : (bareS (.mk k t i ty ns ks) d (p + 1)).1 = false
    ·rw [if_pos h2] at h; cases h
    ·have hb : (bareS (.mk k t i ty ns ks) d (p + 1)).1 = true := by simpa using h2
     have hb' := bareS_mono _ d (p + 1) d' (p' + 1) hb hd (by omega)
     rw [if_neg h2] at h
     rw [if_neg (by rw [hb']; decide)]
     have c1 := bareS_cnt _ _ _ hb
     have c2 := bareS_cnt _ _ _ hb'
     exact exsS_mono ks _ _ _ _ h (by omega) (by omega)
theorem exsS_mono : ∀ (l : List ExT) (d p d' p' : Int), (exsS l d p).1 = true → d' ≤ d → p' ≤ p → (exsS l d' p').1 = true
 | [], d, p, d', p', _, _, _ => by unfold exsS; rfl
 | x :: l, d, p, d', p', h, hd, hp => by
  unfold exsS at h ⊢
  by_cases h1 : (exS x d p).1 = false
  ·rw [if_pos h1] at h; cases h
  ·have hx : (exS x d p).1 = true := by simpa using h1
   have hx' := exS_mono x d p d' p' hx hd hp
   rw [if_neg h1] at h
   rw [if_neg (by rw [hx']; decide)]
   have c1 := exS_cnt x d p hx
   have c2 := exS_cnt x d' p' hx'
   exact exsS_mono l _ _ _ _ h hd (by omega)
end
mutual
inductive StT where
 | mk (kind : Int) (names : List (List UInt8)) (type : TyT) (lefts exprs : List ExT) (body els : List StT) (cases : List CaT)
inductive CaT where
 | mk (int : Int) (body : List StT)
end
def StT.kind : StT → Int | .mk k _ _ _ _ _ _ _ => k
def StT.names : StT → List (List UInt8) | .mk _ n _ _ _ _ _ _ => n
def StT.type : StT → TyT | .mk _ _ t _ _ _ _ _ => t
def StT.lefts : StT → List ExT | .mk _ _ _ l _ _ _ _ => l
def StT.exprs : StT → List ExT | .mk _ _ _ _ e _ _ _ => e
def StT.body : StT → List StT | .mk _ _ _ _ _ b _ _ => b
def StT.els : StT → List StT | .mk _ _ _ _ _ _ b _ => b
def StT.cases : StT → List CaT | .mk _ _ _ _ _ _ _ c => c
def CaT.int : CaT → Int | .mk i _ => i
def CaT.body : CaT → List StT | .mk _ b => b
structure PaT where
 name : List UInt8
 type : TyT
structure SuT where
 name : List UInt8
 fields : List PaT
structure FuT where
 name : List UInt8
 params : List PaT
 results : List TyT
 body : List StT
structure PrT where
 structs : List SuT
 funcs : List FuT
structure Cnts (f : Int → Bool × Int) (n : Int) : Prop where
 adds : ∀ p, (f p).1 = true → (f p).2 = p + n
 up : ∀ p, (f p).1 = true → p ≤ (f p).2
 mono : ∀ p p', (f p).1 = true → p' ≤ p → (f p').1 = true
def andS (f g : Int → Bool × Int) (p : Int) : Bool × Int := if (f p).1 = false then (false, (f p).2) else g (f p).2
def allowS (b : Bool) (p : Int) : Bool × Int := (b, p)
def partS (d p : Int) : Bool × Int := (partOk d p, p + 1)
def rowS {α : Type} (f : α → Int → Bool × Int) : List α → Int → Bool × Int
 | [], p => (true, p)
 | x :: l, p => andS (f x) (rowS f l) p
def sumS {α : Type} (c : α → Int) : List α → Int
 | [] => 0
 | x :: l => c x + sumS c l
theorem Cnts.and {f g : Int → Bool × Int} {n m : Int} (hf : Cnts f n) (hg : Cnts g m) : Cnts (andS f g) (n + m) := by
 have op : ∀ p, (andS f g p).1 = true → (f p).1 = true ∧ andS f g p = g (f p).2 := by
  intro p h
  unfold andS at h ⊢
  by_cases h1 : (f p).1 = false
  ·rw [if_pos h1] at h; cases h
  ·rw [if_neg h1]
   exact ⟨by simpa using h1, rfl⟩
 refine ⟨fun p h => ?_, fun p h => ?_, fun p p' h hp => ?_⟩
 ·obtain ⟨h1, h2⟩ := op p h
  rw [h2] at h ⊢
  rw [hg.adds _ h, hf.adds _ h1]
  omega
 ·obtain ⟨h1, h2⟩ := op p h
  rw [h2] at h ⊢
  exact Int.le_trans (hf.up _ h1) (hg.up _ h)
 ·obtain ⟨h1, h2⟩ := op p h
  have h3 := hf.mono p p' h1 hp
  rw [h2] at h
  have h4 : andS f g p' = g (f p').2 := by
   unfold andS
   rw [if_neg (by rw [h3]; decide)]
  rw [h4]
  exact hg.mono _ _ h (by rw [hf.adds _ h1, hf.adds _ h3]; omega)
theorem Cnts.allow (b : Bool) : Cnts (allowS b) 0 := ⟨fun p _ => by simp [allowS], fun p _ => Int.le_refl _, fun p p' h _ => h⟩
theorem Cnts.part (d : Int) : Cnts (partS d) 1 := ⟨fun p _ => rfl, fun p _ => by show p ≤ p + 1; omega, fun p p' h hp => partOk_mono h (Int.le_refl _) hp⟩
theorem Cnts.row {α : Type} {f : α → Int → Bool × Int} {c : α → Int} : ∀ (l : List α), (∀ x ∈ l, Cnts (f x) (c x)) → Cnts (rowS f l) (sumS c l)
 | [], _ => ⟨fun p _ => by simp [rowS, sumS], fun p _ => Int.le_refl _, fun p p' h _ => rfl⟩
 | x :: l, h => by
  have hr := Cnts.row l fun y hy => h y (List.mem_cons_of_mem _ hy)
  have := (h x List.mem_cons_self).and hr
  exact this
theorem Cnts.ty (t : TyT) (d : Int) : Cnts (fun p => tyS identS t d p) (tcS t) :=
 ⟨fun p h => (tyS_cnt identS t d p h).1, fun p h => by have := tyS_ok identS t d p h; show p ≤ (tyS identS t d p).2; omega, fun p p' h hp => tyS_mono identS t d p d p' h (Int.le_refl _) hp⟩
theorem exsS_up : ∀ (l : List ExT) (d p : Int), (exsS l d p).1 = true → p ≤ (exsS l d p).2
 | [], d, p, _ => by unfold exsS; exact Int.le_refl _
 | x :: l, d, p, h => by
  unfold exsS at h ⊢
  by_cases h1 : (exS x d p).1 = false
  ·rw [if_pos h1] at h; cases h
  ·rw [if_neg h1] at h ⊢
   have hx := exS_ok x d p (by simpa using h1)
   have := (exsS_ok l d _ hx.2 h).1
   omega
theorem Cnts.exs (l : List ExT) (d : Int) : Cnts (fun p => exsS l d p) (ecsS l) :=
 ⟨fun p h => exsS_cnt l d p h, fun p h => exsS_up l d p h, fun p p' h hp => exsS_mono l d p d p' h (Int.le_refl _) hp⟩
mutual
def headS : ExT → Bool
 | .mk k _ _ _ _ ks => decide (k ≠ 14) && decide (k ≠ 15) && headsS ks
def headsS : List ExT → Bool
 | [] => true
 | x :: l => headS x && headsS l
end
def placeS : ExT → Bool
 | .mk k _ _ _ _ ks => match ks with
  | [y] => if k = 9 then placeS y else decide (k = 1)
  | _ => decide (k = 1)
def sizedS (s : StT) : Bool :=
 let plain := decide (s.names = []) && zeroS s.type
 let lefts := decide (s.lefts = [])
 let body := decide (s.body.length = 0)
 let other := decide (s.els.length = 0)
 let cases := decide (s.cases.length = 0)
 if s.kind = 1 then decide (s.exprs.length = 0) && (match s.names with | [x] => identS x | _ => false) && lefts && body && other && cases
 else if s.kind = 2 then decide (0 < s.lefts.length) && (decide (s.exprs.length = s.lefts.length) || (match s.exprs with | [x] => decide (x.kind = 7) | _ => false)) && s.lefts.all placeS && plain && body && other && cases
 else if s.kind = 3 then plain && lefts && (match s.exprs with | [x] => headS x | _ => false) && cases
 else if s.kind = 4 then plain && lefts && (match s.exprs with | [x] => headS x | _ => false) && other && cases
 else if s.kind = 5 then plain && lefts && (match s.exprs with | [x] => headS x | _ => false) && body
 else if s.kind = 6 then plain && lefts && decide (0 < s.exprs.length) && body && other && cases
 else false
def exs40 (l : List ExT) (d : Int) : Int → Bool × Int := andS (fun p => exsS l d p) (allowS (decide (l.length ≤ 40)))
def casS (R : StT → Int → Int → Bool × Int) (d : Int) : List Int → List CaT → Int → Bool × Int
 | _, [], p => (true, p)
 | seen, c :: l, p => andS (partS (d + 1)) (andS (allowS (!seen.contains c.int)) (andS (rowS (fun s => R s (d + 2)) c.body) (casS R d (seen ++ [c.int]) l))) p
def stS : Nat → StT → Int → Int → Bool × Int
 | 0, _, _ => allowS false
 | n + 1, s, d => andS (partS d) (andS (allowS (sizedS s && decide (s.cases.length ≤ 40))) (andS (if s.kind = 1 then fun p => tyS identS s.type (d + 1) p else allowS true)
  (andS (casS (stS n) d [] s.cases) (andS (exs40 s.lefts (d + 1)) (andS (exs40 s.exprs (d + 1)) (andS (rowS (fun x => stS n x (d + 1)) s.body) (rowS (fun x => stS n x (d + 1)) s.els)))))))
def stC : Nat → StT → Int
 | 0, _ => 0
 | n + 1, s => 1 + (if s.kind = 1 then tcS s.type else 0) + sumS (fun c : CaT => 1 + sumS (stC n) c.body) s.cases + ecsS s.lefts + ecsS s.exprs + sumS (stC n) s.body + sumS (stC n) s.els
theorem Cnts.eq {f : Int → Bool × Int} {n m : Int} (h : Cnts f n) (e : n = m) : Cnts f m := e ▸ h
theorem Cnts.exs40 (l : List ExT) (d : Int) : Cnts (exs40 l d) (ecsS l) := ((Cnts.exs l d).and (Cnts.allow _)).eq (by omega)
theorem Cnts.cas {R : StT → Int → Int → Bool × Int} {c : StT → Int} (hR : ∀ s d, Cnts (R s d) (c s)) (d : Int) : ∀ (l : List CaT) (seen : List Int), Cnts (casS R d seen l) (sumS (fun k : CaT => 1 + sumS c k.body) l)
 | [], _ => ⟨fun p _ => by simp [casS, sumS], fun p _ => Int.le_refl _, fun p p' h _ => rfl⟩
 | k :: l, seen => by
  have h := (Cnts.part (d + 1)).and ((Cnts.allow (!seen.contains k.int)).and ((Cnts.row (f := fun s => R s (d + 2)) (c := c) k.body fun s _ => hR s (d + 2)).and (Cnts.cas hR d l (seen ++ [k.int]))))
  exact Cnts.eq (f := casS R d seen (k :: l)) h (by simp only [sumS]; omega)
theorem Cnts.st : ∀ (n : Nat) (s : StT) (d : Int), Cnts (stS n s d) (stC n s)
 | 0, s, d => ⟨fun p h => (by cases h), fun p h => (by cases h), fun p p' h _ => (by cases h)⟩
 | n + 1, s, d => by
  have ih := Cnts.st n
  have hb := Cnts.row (f := fun x => stS n x (d + 1)) (c := stC n) s.body fun x _ => ih x (d + 1)
  have he := Cnts.row (f := fun x => stS n x (d + 1)) (c := stC n) s.els fun x _ => ih x (d + 1)
  have hty : Cnts (if s.kind = 1 then fun p => tyS identS s.type (d + 1) p else allowS true) (if s.kind = 1 then tcS s.type else 0) := by
   by_cases hk : s.kind = 1
   ·rw [if_pos hk, if_pos hk]; exact Cnts.ty s.type (d + 1)
   ·rw [if_neg hk, if_neg hk]; exact Cnts.allow true
  have h := (Cnts.part d).and ((Cnts.allow (sizedS s && decide (s.cases.length ≤ 40))).and (hty.and ((Cnts.cas (fun s d => ih s d) d s.cases []).and ((Cnts.exs40 s.lefts (d + 1)).and ((Cnts.exs40 s.exprs (d + 1)).and (hb.and he))))))
  exact Cnts.eq (f := stS (n + 1) s d) h (by simp only [stC]; omega)
def paS (most : Nat) (l : List PaT) : Int → Bool × Int :=
 andS (rowS (fun x : PaT => andS (partS 0) (fun p => tyS identS x.type 0 p)) l) (allowS (decide (l.length ≤ most) && diffS l.length (l.map PaT.name)))
def paC (l : List PaT) : Int := sumS (fun x : PaT => 1 + tcS x.type) l
def suS (s : SuT) : Int → Bool × Int := andS (partS 0) (andS (allowS (identS s.name)) (paS 60 s.fields))
def suC (s : SuT) : Int := 1 + paC s.fields
def fuS (n : Nat) (f : FuT) : Int → Bool × Int :=
 andS (partS 0) (andS (allowS (identS f.name)) (andS (paS 20 f.params) (andS (allowS (decide (1 ≤ f.results.length) && decide (f.results.length ≤ 20))) (andS (rowS (fun t p => tyS identS t 0 p) f.results) (rowS (fun s => stS n s 0) f.body)))))
def fuC (n : Nat) (f : FuT) : Int := 1 + paC f.params + sumS tcS f.results + sumS (stC n) f.body
def prS (n : Nat) (p : PrT) : Int → Bool × Int := andS (rowS suS p.structs) (rowS (fuS n) p.funcs)
def prC (n : Nat) (p : PrT) : Int := sumS suC p.structs + sumS (fuC n) p.funcs
theorem Cnts.pa (most : Nat) (l : List PaT) : Cnts (paS most l) (paC l) :=
 ((Cnts.row (f := fun x : PaT => andS (partS 0) (fun p => tyS identS x.type 0 p)) (c := fun x : PaT => 1 + tcS x.type) l fun x _ => (Cnts.part 0).and (Cnts.ty x.type 0)).and (Cnts.allow _)).eq (by unfold paC; omega)
theorem Cnts.su (s : SuT) : Cnts (suS s) (suC s) :=
 ((Cnts.part 0).and ((Cnts.allow (identS s.name)).and (Cnts.pa 60 s.fields))).eq (by unfold suC; omega)
theorem Cnts.fu (n : Nat) (f : FuT) : Cnts (fuS n f) (fuC n f) :=
 ((Cnts.part 0).and ((Cnts.allow (identS f.name)).and ((Cnts.pa 20 f.params).and ((Cnts.allow (decide (1 ≤ f.results.length) && decide (f.results.length ≤ 20))).and ((Cnts.row (f := fun t p => tyS identS t 0 p) (c := tcS) f.results fun t _ => Cnts.ty t 0).and
   (Cnts.row (f := fun s => stS n s 0) (c := stC n) f.body fun s _ => Cnts.st n s 0)))))).eq (by unfold fuC; omega)
theorem Cnts.pr (n : Nat) (p : PrT) : Cnts (prS n p) (prC n p) :=
 (Cnts.row (f := suS) (c := suC) p.structs fun s _ => Cnts.su s).and (Cnts.row (f := fuS n) (c := fuC n) p.funcs fun f _ => Cnts.fu n f)
theorem andS_true {f g : Int → Bool × Int} {p : Int} (h : (andS f g p).1 = true) : (f p).1 = true ∧ (g (f p).2).1 = true := by
 unfold andS at h
 by_cases h1 : (f p).1 = false
 ·rw [if_pos h1] at h; cases h
 ·rw [if_neg h1] at h
  exact ⟨by simpa using h1, h⟩
theorem rowS_mem {α : Type} {f : α → Int → Bool × Int} : ∀ (l : List α) (p : Int), (rowS f l p).1 = true → ∀ x ∈ l, ∃ q, (f x q).1 = true
 | y :: l, p, h, x, hx => by
  obtain ⟨h1, h2⟩ := andS_true (f := f y) (g := rowS f l) h
  rcases List.mem_cons.1 hx with rfl | hx
  ·exact ⟨p, h1⟩
  ·exact rowS_mem l _ h2 x hx
theorem casS_mem {R : StT → Int → Int → Bool × Int} {d : Int} : ∀ (l : List CaT) (seen : List Int) (p : Int), (casS R d seen l p).1 = true → ∀ c ∈ l, ∀ s ∈ c.body, ∃ q, (R s (d + 2) q).1 = true
 | k :: l, seen, p, h, c, hc, s, hs => by
  obtain ⟨_, h2⟩ := andS_true (f := partS (d + 1)) h
  obtain ⟨_, h3⟩ := andS_true h2
  obtain ⟨h4, h5⟩ := andS_true h3
  rcases List.mem_cons.1 hc with rfl | hc
  ·exact rowS_mem (f := fun s => R s (d + 2)) _ _ h4 s hs
  ·exact casS_mem l _ _ h5 c hc s hs
def Bnds (f : Int → Bool × Int) : Prop := ∀ p, p ≤ 60000 → (f p).1 = true → (f p).2 ≤ 60000
theorem Bnds.and {f g : Int → Bool × Int} (hf : Bnds f) (hg : Bnds g) : Bnds (andS f g) := by
 intro p hp h
 obtain ⟨h1, h2⟩ := andS_true h
 unfold andS
 rw [if_neg (by rw [h1]; decide)]
 exact hg _ (hf p hp h1) h2
theorem Bnds.allow (b : Bool) : Bnds (allowS b) := fun _ hp _ => hp
theorem Bnds.part (d : Int) : Bnds (partS d) := fun p _ h => by
 have h' : partOk d p = true := h
 unfold partOk at h'
 rw [Bool.and_eq_true, decide_eq_true_iff] at h'
 exact h'.1
theorem Bnds.row {α : Type} {f : α → Int → Bool × Int} (hf : ∀ x, Bnds (f x)) : ∀ l : List α, Bnds (rowS f l)
 | [] => fun _ hp _ => hp
 | x :: l => (hf x).and (Bnds.row hf l)
theorem Bnds.ty (t : TyT) (d : Int) : Bnds (fun p => tyS identS t d p) := fun p _ h => (tyS_ok identS t d p h).2
theorem Bnds.exs (l : List ExT) (d : Int) : Bnds (fun p => exsS l d p) := fun p hp h => (exsS_ok l d p hp h).2
theorem Bnds.exs40 (l : List ExT) (d : Int) : Bnds (exs40 l d) := (Bnds.exs l d).and (Bnds.allow _)
theorem Bnds.cas {R : StT → Int → Int → Bool × Int} (hR : ∀ s d, Bnds (R s d)) (d : Int) : ∀ (l : List CaT) (seen : List Int), Bnds (casS R d seen l)
 | [], _ => fun _ hp _ => hp
 | k :: l, seen => (Bnds.part (d + 1)).and ((Bnds.allow (!seen.contains k.int)).and ((Bnds.row (f := fun s => R s (d + 2)) (fun s => hR s (d + 2)) k.body).and (Bnds.cas hR d l (seen ++ [k.int]))))
theorem Bnds.st : ∀ (n : Nat) (s : StT) (d : Int), Bnds (stS n s d)
 | 0, _, _ => fun _ _ h => (by cases h)
 | n + 1, s, d => by
  have ih := Bnds.st n
  have hty : Bnds (if s.kind = 1 then fun p => tyS identS s.type (d + 1) p else allowS true) := by
   by_cases hk : s.kind = 1
   ·rw [if_pos hk]; exact Bnds.ty s.type (d + 1)
   ·rw [if_neg hk]; exact Bnds.allow true
  exact (Bnds.part d).and ((Bnds.allow (sizedS s && decide (s.cases.length ≤ 40))).and (hty.and ((Bnds.cas (fun s d => ih s d) d s.cases []).and ((Bnds.exs40 s.lefts (d + 1)).and ((Bnds.exs40 s.exprs (d + 1)).and
   ((Bnds.row (f := fun x => stS n x (d + 1)) (fun x => ih x (d + 1)) s.body).and (Bnds.row (f := fun x => stS n x (d + 1)) (fun x => ih x (d + 1)) s.els)))))))
theorem Bnds.pa (most : Nat) (l : List PaT) : Bnds (paS most l) :=
 (Bnds.row (f := fun x : PaT => andS (partS 0) (fun p => tyS identS x.type 0 p)) (fun x => (Bnds.part 0).and (Bnds.ty x.type 0)) l).and (Bnds.allow _)
theorem Bnds.su (s : SuT) : Bnds (suS s) := (Bnds.part 0).and ((Bnds.allow (identS s.name)).and (Bnds.pa 60 s.fields))
theorem Bnds.fu (n : Nat) (f : FuT) : Bnds (fuS n f) :=
 (Bnds.part 0).and ((Bnds.allow (identS f.name)).and ((Bnds.pa 20 f.params).and ((Bnds.allow (decide (1 ≤ f.results.length) && decide (f.results.length ≤ 20))).and
  ((Bnds.row (f := fun t p => tyS identS t 0 p) (fun t => Bnds.ty t 0) f.results).and (Bnds.row (f := fun s => stS n s 0) (fun s => Bnds.st n s 0) f.body)))))
theorem Bnds.pr (n : Nat) (p : PrT) : Bnds (prS n p) := (Bnds.row Bnds.su p.structs).and (Bnds.row (Bnds.fu n) p.funcs)
structure Ps where
 ws : List WordS
 e : Int
 o : Int
 h : Bool
def Ps.w (s : Ps) : WordS := s.ws.headD .zero
def mu (s : Ps) : Nat := if s.e = 0 then s.ws.length else 0
def failP (s : Ps) (e : Int) : Ps := if s.e = 0 then ⟨s.ws, e, s.o, s.h⟩ else s
def nextP (s : Ps) : Ps := if s.e = 0 then (if (s.ws.tail.headD .zero).kind = 9 then ⟨s.ws, 50, s.o, s.h⟩ else ⟨s.ws.tail, 0, s.o, s.h⟩) else s
def isP (s : Ps) (t : List UInt8) : Bool := decide (s.e = 0) && (decide (s.w.kind = 3) || decide (s.w.kind = 4)) && decide (s.w.text = t)
def opnB (t : List UInt8) : Bool := decide (t = [40]) || decide (t = [91]) || decide (t = [123])
def clsB (t : List UInt8) : Bool := decide (t = [41]) || decide (t = [93]) || decide (t = [125])
def bumpP (s : Ps) (t : List UInt8) : Ps :=
 if opnB t = true then (if 100 < IntKind.i64.wrap (s.o + 1) then failP ⟨s.ws, s.e, IntKind.i64.wrap (s.o + 1), s.h⟩ 51 else ⟨s.ws, s.e, IntKind.i64.wrap (s.o + 1), s.h⟩)
 else if clsB t = true then ⟨s.ws, s.e, IntKind.i64.wrap (s.o - 1), s.h⟩ else s
def gotP (s : Ps) (t : List UInt8) : Bool × Ps := if isP s t = true then (true, nextP (bumpP s t)) else (false, s)
def wantP (s : Ps) (t : List UInt8) : Ps := match gotP s t with
 | (true, s1) => s1
 | (false, s1) => failP s1 51
def nameP (s : Ps) : List UInt8 × Ps := if s.e = 0 ∧ s.w.kind = 1 then (s.w.text, nextP s) else ([], failP s 51)
def numP (s : Ps) : Int × Ps := if s.e = 0 ∧ s.w.kind = 2 then ((s.w.int : Int), nextP s) else (0, failP s 51)
def kindT : List (List UInt8 × Int) := [([98, 111, 111, 108], 1), ([98, 121, 116, 101], 2), ([105, 110, 116, 51, 50], 3), ([105, 110, 116], 4), ([117, 105, 110, 116, 51, 50], 5), ([117, 105, 110, 116, 54, 52], 6)]
def kindS (t : List UInt8) : Int := ((kindT.find? fun x => x.1 == t).map (·.2)).getD 0
def noT : TyT := .mk 0 [] []
abbrev EP := Ps → ExT × Ps
def keyB (s : Ps) : Bool := isP s [116, 114, 117, 101] || isP s [102, 97, 108, 115, 101] || isP s [108, 101, 110] || isP s [97, 112, 112, 101, 110, 100] || (decide (s.w.kind = 4) && decide (1 < kindS s.w.text))
def pstL (E : EP) : Nat → ExT → Ps → ExT × Ps
 | 0, x, s => (x, s)
 | m + 1, x, s => if ¬ s.e = 0 then (x, s) else match gotP s [46] with
  | (true, s1) => (match nameP s1 with
   | (t, s2) => pstL E m (.mk 9 t 0 noT [] [x]) s2)
  | (false, _) => match gotP s [91] with
   | (false, _) => (x, s)
   | (true, s1) => match E s1 with
    | (y, s2) => match gotP s2 [58] with
     | (false, s3) => pstL E m (.mk 10 [] 0 noT [] [x, y]) (wantP s3 [93])
     | (true, s3) => match E s3 with
      | (z, s4) => pstL E m (.mk 11 [] 0 noT [] [x, y, z]) (wantP s4 [93])
abbrev SP := Ps → StT × Ps
structure Dn (s s' : Ps) : Prop where
 le : mu s' ≤ mu s
 e : ¬ s.e = 0 → s'.e = s.e
 sub : ∀ w ∈ s'.ws, w ∈ s.ws
theorem Dn.refl (s : Ps) : Dn s s := ⟨Nat.le_refl _, fun _ => rfl, fun _ h => h⟩
theorem Dn.trans {a b c : Ps} (h : Dn a b) (k : Dn b c) : Dn a c := ⟨Nat.le_trans k.le h.le, fun he => by
 have h1 := h.e he
 rw [k.e (by rw [h1]; exact he), h1], fun w hw => h.sub w (k.sub w hw)⟩
theorem mu_dead {s : Ps} (h : ¬ s.e = 0) : mu s = 0 := if_neg h
theorem mu_live {s : Ps} (h : s.e = 0) : mu s = s.ws.length := if_pos h
theorem dn_fail (s : Ps) (e : Int) : Dn s (failP s e) := by
 unfold failP
 split
 ·rename_i h
  refine ⟨?_, fun he => absurd h he, fun _ h => h⟩
  unfold mu
  rw [if_pos h]
  split <;> simp
 ·exact .refl _
theorem dn_next (s : Ps) : Dn s (nextP s) := by
 unfold nextP
 split
 ·rename_i h
  refine ⟨?_, fun he => absurd h he, fun w hw => ?_⟩
  case refine_2 =>
   split at hw
   ·exact hw
   ·exact List.mem_of_mem_tail hw
  unfold mu
  rw [if_pos h]
  split <;> simp
 ·exact .refl _
theorem next_lt (s : Ps) (h : s.e = 0) (hk : ¬ s.w.kind = 0) : mu (nextP s) < mu s := by
 have hn : s.ws ≠ [] := by
  intro hw
  unfold Ps.w at hk
  rw [hw] at hk
  exact hk rfl
 have hl := List.length_pos_iff.2 hn
 rw [mu_live h]
 unfold nextP
 rw [if_pos h]
 split
 ·rw [mu_dead (by show ¬ (50 : Int) = 0; omega)]
  exact hl
 ·rw [mu_live rfl]
  simp
  omega
theorem dn_bump (s : Ps) (t : List UInt8) : Dn s (bumpP s t) := by
 have h1 : ∀ o : Int, Dn s ⟨s.ws, s.e, o, s.h⟩ := fun _ => ⟨Nat.le_refl _, fun _ => rfl, fun _ h => h⟩
 unfold bumpP
 split
 ·split
  ·exact (h1 _).trans (dn_fail _ _)
  ·exact h1 _
 ·split
  ·exact h1 _
  ·exact .refl _
theorem bump_w (s : Ps) (t : List UInt8) : (bumpP s t).ws = s.ws := by
 unfold bumpP failP
 split
 ·split
  ·split <;> rfl
  ·rfl
 ·split <;> rfl
theorem is_live {s : Ps} {t : List UInt8} (h : isP s t = true) : s.e = 0 ∧ (s.w.kind = 3 ∨ s.w.kind = 4) ∧ s.w.text = t := by
 unfold isP at h
 simp only [Bool.and_eq_true, Bool.or_eq_true, decide_eq_true_eq] at h
 exact ⟨h.1.1, h.1.2, h.2⟩
theorem got_all (s : Ps) (t : List UInt8) : Dn s (gotP s t).2 ∧ ((gotP s t).1 = true → mu (gotP s t).2 < mu s) ∧ ((gotP s t).1 = false → (gotP s t).2 = s ∧ isP s t = false) := by
 unfold gotP
 split
 ·rename_i h
  obtain ⟨h1, h2, h3⟩ := is_live h
  refine ⟨(dn_bump s t).trans (dn_next _), fun _ => ?_, fun h => absurd h (by simp)⟩
  by_cases hb : (bumpP s t).e = 0
  ·refine Nat.lt_of_lt_of_le (next_lt _ hb ?_) (dn_bump s t).le
   unfold Ps.w
   rw [bump_w]
   change ¬ s.w.kind = 0
   omega
  ·have h4 := (dn_next (bumpP s t)).le
   rw [mu_dead hb] at h4
   show mu (nextP (bumpP s t)) < mu s
   have hl : 0 < mu s := by
    rw [mu_live h1]
    refine List.length_pos_iff.2 fun hw => ?_
    unfold Ps.w at h2
    rw [hw] at h2
    rcases h2 with h2 | h2 <;> exact absurd h2 (by decide)
   omega
 ·rename_i h
  exact ⟨.refl _, fun h => absurd h (by simp), fun _ => ⟨rfl, by simpa using h⟩⟩
theorem got_no {s s1 : Ps} {t : List UInt8} (h : gotP s t = (false, s1)) : s1 = s := by
 have := (got_all s t).2.2
 rw [h] at this
 exact (this rfl).1
def DnE {α : Type} (E : Ps → α × Ps) : Prop := ∀ s, Dn s (E s).2
theorem DnE.at {α : Type} {E : Ps → α × Ps} (h : DnE E) {s s1 : Ps} {x : α} (e : E s = (x, s1)) : Dn s s1 := by
 have := h s
 rw [e] at this
 exact this
theorem DnE.of {α : Type} {E : Ps → α × Ps} (h : ∀ {s s1 : Ps} {x : α}, E s = (x, s1) → Dn s s1) : DnE E := fun s => h (x := (E s).1) rfl
def w9 : WordS := ⟨9, [], 0, 0, 0⟩
def wordsF (bs : List UInt8) : Nat → Nat → List WordS
 | 0, _ => [w9]
 | f + 1, i => if (takeS bs i).2 = 0 then (if (takeS bs i).1.kind = 0 then [(takeS bs i).1] else (takeS bs i).1 :: wordsF bs f (takeS bs i).1.next) else [w9]
def wordsAt (bs : List UInt8) (i : Nat) : List WordS := wordsF bs (bs.length + 1) i
def OkP (bs : List UInt8) (s : Ps) : Prop := s.e = 0 → s.w.kind ≤ 4 ∧ s.w.next ≤ bs.length ∧ s.ws = s.w :: (if s.w.kind = 0 then [] else wordsAt bs s.w.next)
end Go.Proofs.YtnfnbjjnjjdjdaaGreatDoor
namespace Go.Proofs.YtnfnbjjnjjdjdaaGreatDoor
open Go.RowKit Go.Av Go.Ab
theorem ty1 : tyOf Tryz.prog 1 = some ⟨.other, 1, 8, false, [.nilf]⟩ := by kernel_rfl
set_option maxRecDepth 100000
set_option linter.defProp false
def tys := by
 have c := TyK_of Tryz.prog [1, 2, 3, 4, 5, 6, 7, 8, 9, 10, 11, 12, 13, 14, 15, 16, 17, 18, 19, 21, 22, 23, 24, 25, 26, 27, 28, 30, 32, 33, 34, 35, 36, 37, 38, 39, 40, 41, 42, 43, 44, 45, 46, 47, 48, 49, 50, 51, 52, 53, 54, 55, 56, 57, 58, 59, 60, 61, 62, 63, 64, 65, 66, 67, 68, 69, 70, 71, 72, 73, 74, 75, 77, 78, 79, 80, 81, 82, 83, 84, 85, 86, 87, 88, 89, 90, 91, 92, 93, 94, 95, 96, 97, 98, 99, 100, 101, 102, 103, 104, 105, 106, 107, 108, 109, 110, 111, 112, 113, 114, 115, 116, 117, 118, 119, 120, 121, 122, 123, 124, 125, 126, 127, 128, 129, 130, 131, 133, 134, 135, 136, 137, 138, 139, 140, 141, 142, 143, 144, 145, 146, 147, 148, 151, 152, 154, 155, 156, 157, 158, 159, 160, 161, 163, 165, 167, 168, 169, 170, 171, 172, 174, 175, 176, 177, 179, 180, 181, 182, 184, 185, 186, 188, 190, 191, 192, 193, 194, 195, 196, 197, 199, 200, 201, 202, 203, 204, 205, 206, 207, 208, 209, 210, 211, 212, 213, 214, 215, 216, 217, 219, 220, 221, 222, 223, 224, 225, 226, 227, 228, 229, 230] (by conv => lhs; cbv)
 dsimp only [TyK] at c
 exact c
end Go.Proofs.YtnfnbjjnjjdjdaaGreatDoor
namespace Go.Ab
open Go.RowKit Go.Av
set_option maxRecDepth 100000
set_option linter.defProp false
def awC := And.intro @Go.Ab.steps_succ (And.intro @Go.Ab.steps_zero (And.intro @Go.Ab.itemS.eq_1 (And.intro @Go.Ab.itemS.eq_2 (And.intro @Go.Ab.itemS.eq_3 (And.intro @Go.Ab.itemS.eq_4 (And.intro @Go.Ab.itemS.eq_5 (And.intro @Go.Ab.guardS.eq_1 (And.intro @Go.Ab.guardS.eq_2 (And.intro @Go.Ab.guardS.eq_3 (And.intro @Go.Ab.guardV.eq_1 (And.intro @Go.Ab.guardB_yes (And.intro @Go.Ab.guardB_tf (And.intro @Go.Ab.guardB_ft (And.intro @Go.Ab.condS_true (And.intro @Go.Ab.condS_false (And.intro @Go.Ab.bindS_some (And.intro @Go.Ab.op1.eq_1 (And.intro @Go.Ab.op1.eq_2 (And.intro @Go.Ab.op1.eq_3 (And.intro @Go.Ab.op1.eq_4 (And.intro @Go.Ab.op1.eq_5 (And.intro @Go.Ab.op1.eq_6 (And.intro @Go.Ab.op1.eq_7 (And.intro @Go.Ab.op1.eq_8 (And.intro @Go.Ab.op1.eq_9 (And.intro @Go.Ab.op1.eq_10 (And.intro @Go.Ab.op1.eq_11 (And.intro @Go.Ab.op1.eq_12 (And.intro @Go.Ab.op1.eq_13 (And.intro @Go.Ab.op1.eq_14 (And.intro @Go.Ab.op1.eq_15 (And.intro @Go.Ab.op1.eq_16 (And.intro @Go.Ab.op1.eq_17 (And.intro @Go.Ab.op1.eq_18 (And.intro @Go.Ab.op1.eq_19 (And.intro @Go.Ab.op1.eq_20 (And.intro @Go.Ab.op1.eq_21 (And.intro @Go.Ab.opCall.eq_1 (And.intro @Go.Ab.opStore.eq_def (And.intro @Go.Ab.opLoad.eq_1 (And.intro @Go.Ab.opLoad.eq_2 (And.intro @Go.Ab.opLoad.eq_3 (And.intro @Go.Ab.loadV.eq_1 (And.intro @Go.Ab.loadD.eq_1 (And.intro @Go.Ab.opField.eq_1 (And.intro @Go.Ab.moveV.eq_1 (And.intro @Go.Ab.moveV.eq_2 (And.intro @Go.Ab.moveV.eq_3 (And.intro @Go.Ab.opIndexAddr.eq_def (And.intro @Go.Ab.opLen.eq_1 (And.intro @Go.Ab.opBuild.eq_1 (And.intro @Go.Ab.fillV.eq_1 (And.intro @Go.Ab.fillV.eq_2 (And.intro @Go.Ab.opBuildSlice.eq_1 (And.intro @Go.Ab.rep.eq_1 (And.intro @Go.Ab.rep.eq_2 (And.intro @Go.Ab.chunk.eq_1 (And.intro @Go.Ab.chunk.eq_2 (And.intro @Go.Ab.opSlice.eq_1 (And.intro @Go.Ab.bnd.eq_1 (And.intro @Go.Ab.bnd.eq_2 (And.intro @Go.Ab.bnd.eq_3 (And.intro @Go.Ab.opIndex.eq_def (And.intro @Go.Ab.binI.eq_1 (And.intro @Go.Ab.binI.eq_2 (And.intro @Go.Ab.binI.eq_3 (And.intro @Go.Ab.binI.eq_4 (And.intro @Go.Ab.binI.eq_5 (And.intro @Go.Ab.binI.eq_6 (And.intro @Go.Ab.binI.eq_7 (And.intro @Go.Ab.binI.eq_8 (And.intro @Go.Ab.binI.eq_9 (And.intro @Go.Ab.binI.eq_10 (And.intro @Go.Ab.binI.eq_11 (And.intro @Go.Ab.binI.eq_12 (And.intro @Go.Ab.binI.eq_13 (And.intro @Go.Ab.binI.eq_14 (And.intro @Go.Ab.binI.eq_15 (And.intro @Go.Ab.binI.eq_16 (And.intro @Go.Ab.binI.eq_17 (And.intro @Go.Ab.binI.eq_18 (And.intro @Go.Ab.binS.eq_1 (And.intro @Go.Ab.binS.eq_2 (And.intro @Go.Ab.binS.eq_3 (And.intro @Go.Ab.binS.eq_4 (And.intro @Go.Ab.binS.eq_5 (And.intro @Go.Ab.binS.eq_6 (And.intro @Go.Ab.binS.eq_7 (And.intro @Go.Ab.binS.eq_8 (And.intro @Go.Ab.opBin.eq_1 (And.intro @Go.Ab.opBin.eq_2 (And.intro @Go.Ab.opBin.eq_3 (And.intro @Go.Ab.opBin.eq_4 (And.intro @Go.Ab.opUn.eq_1 (And.intro @Go.Ab.opUn.eq_2 (And.intro @Go.Ab.opUn.eq_3 (And.intro @Go.Ab.opConv.eq_1 (And.intro @Go.Ab.newRows.eq_1 (And.intro @Go.Ab.opAppend.eq_1 (And.intro @Go.Ab.opAppend.eq_2 (And.intro @Go.Ab.opAppendT.eq_def (And.intro @Go.Ab.opAppendF.eq_1 (And.intro @Go.Ab.pickV.eq_1 (And.intro @Go.Ab.pickV.eq_2 (And.intro @Go.Ab.mapParts.eq_1 (And.intro @Go.Ab.still.eq_1 (And.intro @Go.Ab.cellsV.eq_1 (And.intro @Go.Ab.cellsV.eq_2 (And.intro @Go.Ab.cellsV.eq_3 (And.intro @Go.Ab.cellsV.eq_4 (And.intro @Go.Ab.toD.eq_1 (And.intro @Go.Ab.toD.eq_2 (And.intro @Go.Ab.toD.eq_3 (And.intro @Go.Ab.toD.eq_4 (And.intro @Go.Ab.evalV.eq_1 (And.intro @Go.Ab.evalV.eq_2 (And.intro @Go.Ab.evalV.eq_3 (And.intro @Go.Ab.evalV.eq_4 (And.intro @Go.Ab.ofVal.eq_1 (And.intro @Go.Ab.ofVal.eq_2 (And.intro @Go.Ab.ofVal1.eq_1 (And.intro @Go.Ab.ofVal1.eq_2 (And.intro @Go.Ab.ofVal1.eq_3 (And.intro @Go.Ab.ofVal1.eq_4 (And.intro @Go.Ab.ofVal1.eq_5 (And.intro @Go.Ab.ofVal1.eq_6 (And.intro @Go.Ab.ofVal1.eq_7 (And.intro @Go.Ab.setV.eq_1 (And.intro @Go.Ab.setV.eq_2 (And.intro @Go.Ab.upTo.eq_1 (And.intro @Go.Ab.upTo.eq_2 (And.intro @Go.exitTo.eq_1 (And.intro @Go.exitTo.eq_2 (And.intro @Go.exitTo.eq_3 (And.intro @List.getElem?_toArray.{0} (And.intro @List.getElem?_cons_zero.{0} (And.intro @List.getElem?_cons_succ.{0} (And.intro @List.set_cons_zero.{0} (And.intro @List.set_cons_succ.{0} (And.intro @Option.map_some.{0, 0} (And.intro @Option.map_none.{0, 0} (And.intro @Option.bind_some.{0, 0} (And.intro @if_true.{1} (And.intro @if_false.{1} (And.intro @ite_true.{1} (And.intro @ite_false.{1} (And.intro @Bool.false_eq_true (And.intro @eq_self.{1} (And.intro @beq_self_eq_true.{0} (And.intro @List.size_toArray.{0} (And.intro @List.length_cons.{0} (And.intro @List.length_nil.{0} (And.intro @List.length_append.{0} (And.intro @List.length_set.{0} (And.intro @List.length_map.{0, 0} (And.intro @List.take_succ_cons.{0} (And.intro @List.take_zero.{0} (And.intro @List.drop_succ_cons.{0} (And.intro @List.drop_zero.{0} (And.intro @List.nil_append.{0} (And.intro @List.cons_append.{0} (And.intro @List.append_nil.{0} (And.intro @List.append_assoc.{0} (And.intro @Nat.zero_add (And.intro @Nat.add_zero (And.intro @List.map_cons.{0, 0} (And.intro @List.map_nil.{0, 0} (And.intro @List.toList_toArray.{0} (And.intro @Array.toList_map.{0, 0} (And.intro @true_and (And.intro @and_true (And.intro @cond_true.{1} (And.intro @cond_false.{1} (And.intro @Go.Ab.bx_loc (And.intro @Go.Ab.bx_loc0 (And.intro @Go.Ab.bx_old (And.intro @Go.Ab.bx_set_loc (And.intro @Go.Ab.bx_set_loc0 (And.intro @Go.Ab.bx_set_old (And.intro @Go.Ab.bx_get (And.intro @List.set_set.{0} (And.intro @List.all_cons.{0} (And.intro @List.all_nil.{0} (And.intro @Bool.and_true (And.intro @Bool.true_and (And.intro @Int.natCast_one (And.intro @Int.natCast_zero (And.intro @Int.cast_ofNat_Int (And.intro @Int.toNat_natCast (And.intro @Int.natCast_nonneg (And.intro @decide_true (And.intro @decide_false (And.intro @Nat.le_refl (And.intro @Int.le_refl (And.intro @Int.natCast_add (And.intro @Int.toNat_zero (And.intro @Nat.sub_zero (And.intro @Go.Ab.lexQ_cons (And.intro @Go.Ab.lexQ_nil (And.intro @Go.Ab.bindQ_some (And.intro @Go.Ab.guardQ_yes (And.intro @Go.Ab.guardQ_tf (And.intro @Go.Ab.guardQ_ft (And.intro @Go.Ab.callQ.eq_def (And.intro @Bool.not_false (And.intro @Bool.not_true (And.intro @Go.Ab.opMin.eq_1 (And.intro @Go.Ab.opMin.eq_2 (And.intro @Go.Ab.opMax.eq_1 (And.intro @Go.Ab.opMax.eq_2 (And.intro @Go.Ab.opPtr.eq_1 (And.intro @Go.Ab.ptrEq.eq_1 (And.intro @Go.Ab.ptrEq.eq_2 (And.intro @Go.Ab.ptrEq.eq_3 (And.intro @Go.Ab.ptrEq.eq_4 (And.intro @Go.Ab.ptrEq.eq_5 (And.intro @Go.Ab.ptrEq.eq_6 (And.intro @Go.Ab.convSame.eq_1 (And.intro @Go.Ab.convSame.eq_2 (And.intro @Go.Ab.globV.eq_1 @Go.Ab.globV.eq_2))))))))))))))))))))))))))))))))))))))))))))))))))))))))))))))))))))))))))))))))))))))))))))))))))))))))))))))))))))))))))))))))))))))))))))))))))))))))))))))))))))))))))))))))))))))))))))))))))))))))))))))))))))))))))))
def awO := And.intro @Go.Ab.codeS.eq_1 (And.intro @Go.Ab.codeS.eq_2 (And.intro @Go.Ab.codeS.eq_3 (And.intro @Go.Ab.codeS.eq_4 (And.intro @Go.Ab.codeS.eq_5 (And.intro @Go.Ab.codeS.eq_6 (And.intro @Go.Ab.codeS.eq_7 (And.intro @Go.Ab.codeS.eq_8 (And.intro @Go.Ab.regS.eq_1 (And.intro @Go.Ab.doOp.eq_1 (And.intro @List.getD_cons_zero.{0} (And.intro @List.getD_cons_succ.{0} (And.intro @List.replicate_succ.{0} (And.intro @List.replicate_zero.{0} (And.intro @Go.Ab.envOf.eq_1 (And.intro @List.foldl_cons.{0, 0} (And.intro @List.foldl_nil.{0, 0} (And.intro @Go.Ab.stepQ.eq_1 @Go.Ab.opQ.eq_1)))))))))))))))))
def awN := And.intro @Go.Ab.exitV_some (And.intro @Go.Ab.envS_eval (And.intro @Go.Ab.envS_get (And.intro @Go.Ab.envS_put (And.intro @Go.Ab.envS_set (And.intro @Go.Ab.envS_no (And.intro @Go.Ab.lk_cons (And.intro @Go.Ab.lk_nil (And.intro @Go.Ab.numbered.eq_1 (And.intro @Go.Ab.numbered.eq_2 (And.intro @Go.Ab.condV_b (And.intro @Go.Ab.stepV_b @Go.Ab.stepV_g)))))))))))
end Go.Ab
namespace Go.Proofs.YtnfnbjjnjjdjdaaGreatDoor
open Go.RowKit Go.Av Go.Ab
set_option linter.unusedSimpArgs false
set_option maxRecDepth 100000
mutual
def tyD : TyT → List D
 | .mk k n es => [.int .i64 k, .str n, .sl (tyDs es)]
def tyDs : List TyT → List (List D)
 | [] => []
 | t :: l => tyD t :: tyDs l
end
theorem tyDs_map : ∀ l : List TyT, tyDs l = l.map tyD
 | [] => by simp [tyDs]
 | t :: l => by simp [tyDs, tyDs_map l]
theorem tyD_eq (t : TyT) : tyD t = [.int .i64 t.kind, .str t.name, .sl (t.elem.map tyD)] := by
 cases t
 rw [tyD, tyDs_map]
 rfl
def ssD (l : List (List UInt8)) : List (List D) := l.map fun s => [.str s]
mutual
def exD : ExT → List D
 | .mk k t i ty ns ks => [.int .i64 k, .str t, .int .u64 i, .int .i64 ty.kind, .str ty.name, .sl (ty.elem.map tyD), .sl (ssD ns), .sl (exDs ks)]
def exDs : List ExT → List (List D)
 | [] => []
 | x :: l => exD x :: exDs l
end
theorem exDs_map : ∀ l : List ExT, exDs l = l.map exD
 | [] => by simp [exDs]
 | t :: l => by simp [exDs, exDs_map l]
theorem exD_eq (x : ExT) : exD x = [.int .i64 x.kind, .str x.text, .int .u64 x.int, .int .i64 x.type.kind, .str x.type.name, .sl (x.type.elem.map tyD), .sl (ssD x.names), .sl (x.kids.map exD)] := by
 cases x
 rw [exD, exDs_map]
 rfl
mutual
def stD : StT → List D
 | .mk k ns ty ls es b e cs => [.int .i64 k, .sl (ssD ns), .int .i64 ty.kind, .str ty.name, .sl (ty.elem.map tyD), .sl (ls.map exD), .sl (es.map exD), .sl (stDs b), .sl (stDs e), .sl (caDs cs)]
def stDs : List StT → List (List D)
 | [] => []
 | x :: l => stD x :: stDs l
def caD : CaT → List D
 | .mk i b => [.int .u64 i, .sl (stDs b)]
def caDs : List CaT → List (List D)
 | [] => []
 | x :: l => caD x :: caDs l
end
theorem stDs_map : ∀ l : List StT, stDs l = l.map stD
 | [] => by simp [stDs]
 | t :: l => by simp [stDs, stDs_map l]
theorem caDs_map : ∀ l : List CaT, caDs l = l.map caD
 | [] => by simp [caDs]
 | t :: l => by simp [caDs, caDs_map l]
theorem caD_eq (c : CaT) : caD c = [.int .u64 c.int, .sl (c.body.map stD)] := by
 cases c
 rw [caD, stDs_map]
 rfl
theorem stD_eq (s : StT) : stD s = [.int .i64 s.kind, .sl (ssD s.names), .int .i64 s.type.kind, .str s.type.name, .sl (s.type.elem.map tyD), .sl (s.lefts.map exD), .sl (s.exprs.map exD), .sl (s.body.map stD), .sl (s.els.map stD), .sl (s.cases.map caD)] := by
 cases s
 rw [stD, stDs_map, stDs_map, caDs_map]
 rfl
def paD (p : PaT) : List D := [.str p.name, .int .i64 p.type.kind, .str p.type.name, .sl (p.type.elem.map tyD)]
def suD (s : SuT) : List D := [.str s.name, .sl (s.fields.map paD)]
def fuD (f : FuT) : List D := [.str f.name, .sl (f.params.map paD), .sl (f.results.map tyD), .sl (f.body.map stD)]
theorem paD_eq (p : PaT) : paD p = [.str p.name, .int .i64 p.type.kind, .str p.type.name, .sl (p.type.elem.map tyD)] := rfl
theorem fuD_eq (f : FuT) : fuD f = [.str f.name, .sl (f.params.map paD), .sl (f.results.map tyD), .sl (f.body.map stD)] := rfl
def tyV (t : TyT) : V := .agg [.d (.int .i64 t.kind), .d (.str t.name), .d (.sl (t.elem.map tyD))]
def exV (x : ExT) : V := .agg [.d (.int .i64 x.kind), .d (.str x.text), .d (.int .u64 x.int), .d (.int .i64 x.type.kind), .d (.str x.type.name), .d (.sl (x.type.elem.map tyD)), .d (.sl (ssD x.names)), .d (.sl (x.kids.map exD))]
def stV (s : StT) : V := .agg [.d (.int .i64 s.kind), .d (.sl (ssD s.names)), .d (.int .i64 s.type.kind), .d (.str s.type.name), .d (.sl (s.type.elem.map tyD)), .d (.sl (s.lefts.map exD)), .d (.sl (s.exprs.map exD)), .d (.sl (s.body.map stD)), .d (.sl (s.els.map stD)), .d (.sl (s.cases.map caD))]
def caV (c : CaT) : V := .agg [.d (.int .u64 c.int), .d (.sl (c.body.map stD))]
def paV (p : PaT) : V := .agg [.d (.str p.name), .d (.int .i64 p.type.kind), .d (.str p.type.name), .d (.sl (p.type.elem.map tyD))]
def suV (s : SuT) : V := .agg [.d (.str s.name), .d (.sl (s.fields.map paD))]
def fuV (f : FuT) : V := .agg [.d (.str f.name), .d (.sl (f.params.map paD)), .d (.sl (f.results.map tyD)), .d (.sl (f.body.map stD))]
def prV (p : PrT) : V := .agg [.d (.sl (p.structs.map suD)), .d (.sl (p.funcs.map fuD))]
theorem rowsSz_ss (l : List (List UInt8)) : rowsSz 1 (ssD l) = true := rowsSz_map (fun s : List UInt8 => [D.str s]) (fun _ => rfl) l
theorem rowsSz_ty (l : List TyT) : rowsSz 3 (l.map tyD) = true := rowsSz_map _ (fun x => by rw [tyD_eq]; rfl) l
theorem rowsSz_ex (l : List ExT) : rowsSz 8 (l.map exD) = true := rowsSz_map _ (fun x => by rw [exD_eq]; rfl) l
theorem rowsSz_st (l : List StT) : rowsSz 10 (l.map stD) = true := rowsSz_map _ (fun x => by rw [stD_eq]; rfl) l
theorem rowsSz_ca (l : List CaT) : rowsSz 2 (l.map caD) = true := rowsSz_map _ (fun x => by rw [caD_eq]; rfl) l
theorem rowsSz_pa (l : List PaT) : rowsSz 4 (l.map paD) = true := rowsSz_map paD (fun _ => rfl) l
theorem rowsSz_su (l : List SuT) : rowsSz 2 (l.map suD) = true := rowsSz_map suD (fun _ => rfl) l
theorem rowsSz_fu (l : List FuT) : rowsSz 4 (l.map fuD) = true := rowsSz_map fuD (fun _ => rfl) l
theorem ssD_length (l : List (List UInt8)) : (ssD l).length = l.length := by simp [ssD]
theorem ssD_get (l : List (List UInt8)) (i : Nat) : (ssD l)[i]? = (l[i]?).map fun s => [.str s] := by simp [ssD]
theorem ssD_take (l : List (List UInt8)) (n : Nat) : (ssD l).take n = ssD (l.take n) := by simp [ssD, List.map_take]
theorem ssD_drop (l : List (List UInt8)) (n : Nat) : (ssD l).drop n = ssD (l.drop n) := by simp [ssD, List.map_drop]
set_option linter.defProp false in
def awT := And.intro @rowsSz_ss ( And.intro @rowsSz_ty ( And.intro @rowsSz_ex ( And.intro @rowsSz_st ( And.intro @rowsSz_ca ( And.intro @rowsSz_pa ( And.intro @rowsSz_su ( And.intro @rowsSz_fu ( And.intro @ssD_length ( And.intro @ssD_get ( And.intro @ssD_take (@ssD_drop)))))))))))
set_option linter.defProp false
def W := And.intro awC (And.intro awN (And.intro awT tys))
def WO := And.intro awC (And.intro awO (And.intro awT tys))
def agb := And.intro @and_self (And.intro @true_and (And.intro @and_true (And.intro @eq_self.{1} (And.intro @Int.natCast_add (And.intro @Int.natCast_one (And.intro @Int.natCast_zero (And.intro @envS_get (And.intro @envS_eval (And.intro @lk_cons (And.intro @lk_nil (And.intro @cond_true.{1} (@cond_false.{1}))))))))))))
def agw := And.intro @agree_cons (And.intro @agree_nil agb)
def agf := And.intro @agreeF_cons (And.intro @agreeF_nil (And.intro @Bool.and_true (And.intro @Bool.true_and (And.intro @Bool.and_self (And.intro @decide_true (And.intro @List.length_set.{0} (And.intro @fit.eq_1 (And.intro @fit.eq_2 (And.intro @fit.eq_3 (And.intro @fit.eq_4 (And.intro @fit.eq_5 (And.intro @fit.eq_6 (And.intro @fit.eq_7 (And.intro @fit.eq_8 (And.intro @fit.eq_9 (And.intro @fit.eq_10 (And.intro @fit.eq_11 (And.intro @fit.eq_12 (And.intro @fitL.eq_1 (And.intro @fitL.eq_2 (And.intro @fit.eq_15 (And.intro @fit.eq_16 (agb)))))))))))))))))))))))
def fnw := And.intro @List.getD_cons_zero.{0} (And.intro @List.getD_cons_succ.{0} (And.intro @wk.eq_1 (And.intro @wk.eq_2 (And.intro @wk.eq_3 (And.intro @wk.eq_4 (And.intro @wk.eq_5 (And.intro @wk.eq_6 (And.intro @wk.eq_7 (And.intro @wk.eq_8 (And.intro @wk.eq_9 (And.intro @wk.eq_10 (And.intro @wk.eq_11 (And.intro @wk.eq_12 (And.intro @wk.eq_15 (And.intro @wk.eq_16 (agb))))))))))))))))
def dnw := And.intro @decide_eq_true_eq (And.intro @decide_eq_false_iff_not (And.intro @Bool.not_eq_true' @Bool.not_eq_false'))
def smw := And.intro @smL.eq_1 (And.intro @smL.eq_2 (And.intro @sm.eq_1 (And.intro @sm.eq_2 (And.intro @sm.eq_3 (And.intro @sm.eq_4 (And.intro @sm_int (And.intro @sm_bool (And.intro @sm_ptr (And.intro @sm_bx (And.intro @sm_nilp (And.intro @sm_nilf (And.intro @sm_func (And.intro @sm_eptr (And.intro @sm_undef (And.intro @sm_tup (And.intro @exV.eq_1 (And.intro @stV.eq_1 (And.intro @tyV.eq_1 (And.intro @caV.eq_1 (And.intro @paV.eq_1 (And.intro @suV.eq_1 (And.intro @fuV.eq_1 (And.intro @prV.eq_1 (And.intro @Bool.and_eq_true (And.intro @decide_eq_true_eq (And.intro @and_true (And.intro @true_and (And.intro @List.length_map.{0, 0} (@ssD_length)))))))))))))))))))))))))))))
theorem wrap_in (n : Int) (h : -9223372036854775808 ≤ n ∧ n ≤ 9223372036854775807) : IntKind.i64.wrap n = n := IntWalk.i64_in _ h
theorem part_ab (c : Nat) (d p : Int) (B : List (List V)) (T : List (Nat × Nat)) (h : B[c]? = some [.d (.int .i64 p)]) (hp : 0 ≤ p ∧ p ≤ 60000) :
 AFn Tryz.prog TabI 90 [.ptr c 0, .d (.int .i64 d)] ⟨B, T⟩ (Same (.d (.bool (partOk d p))) ⟨B.set c [.d (.int .i64 (p + 1))], T⟩) := by
 have hi := (List.getElem?_eq_some_iff.1 h).1
 have hw := wrap_in (p + 1) (by omega)
 unfold partOk
 refine AFn.body Tryz.func90 rfl (by kernel_rfl) ?_
 refine ARun.go 100 ?_
 simp only [Tryz.f90, WO, seval, h, hi, hw]
 refine guardB_of (fun h1 => ?_) (fun h1 => ?_)
 all_goals
  simp only [WO, seval, h1]
  refine ARun.ret Tryz.func90 rfl (Left.set0 rfl ?_)
  exact ⟨rfl, rfl⟩
theorem ident_ab (s : List UInt8) (S : Mem) : AFn Tryz.prog TabI 91 [.d (.str s)] S (Same (.d (.bool (identS s))) S) := by
 refine AFn.of_calls Tryz.func91 rfl (by kernel_rfl) fun c w xs h1 h2 h3 hI => ?_
 have hv := h2 0 (by simp)
 obtain ⟨x, rfl⟩ : ∃ x, xs = #[x] := ⟨xs[0]'(by simp at h1; omega), by apply Array.ext <;> simp_all⟩
 simp at hv
 cases hv with
 | d _ _ hv => cases hv with
  | str _ hl =>
   refine (gIdent s w hI hl).mono ?_
   rintro e w' ⟨rfl, hb⟩
   exact ⟨_, _, rfl, ⟨rfl, rfl⟩, hb, .d _ _ (.bool _)⟩
theorem zero_ab (t : TyT) (B : List (List V)) (T : List (Nat × Nat)) : AFn Tryz.prog TabI 96 [tyV t] ⟨B, T⟩ (Same (.d (.bool (zeroS t))) ⟨B, T⟩) := by
 obtain ⟨n, hn⟩ : ∃ n, B.length = n := ⟨_, rfl⟩
 unfold tyV
 refine AFn.body Tryz.func96 rfl (by kernel_rfl) ?_
 refine ARun.go 100 ?_
 simp only [Tryz.f96, WO, seval, hn]
 repeat' ((first | refine guardB_of (fun h => ?_) (fun h => ?_) | refine condS_of (fun h => ?_) (fun h => ?_)) <;> simp only [WO, seval, h, hn])
 all_goals
  refine ARun.ret Tryz.func96 rfl (Left.box ?_)
  exact ⟨by simp [wk, zeroS, *], rfl⟩
def PF (bx : Ps → Nat → List V) (ok : Ps → Nat → Prop) (f : FuncId) (ar : List V) (s : Ps) (v : V) (s' : Ps) : Prop :=
 ∀ (c : Nat) (B : List (List V)) (T : List (Nat × Nat)) (i : Nat), c < B.length → ok s i → AFn Tryz.prog TabI f (.ptr c 0 :: ar) ⟨B.set c (bx s i), T⟩ fun v' m => v' = v ∧ ∃ i', ok s' i' ∧ m = ⟨B.set c (bx s' i'), T⟩
section
variable {bx : Ps → Nat → List V} {ok : Ps → Nat → Prop} {f : FuncId} {ar : List V} {s s' : Ps} {v : V} {c i : Nat} {B J : List (List V)} {T K : List (Nat × Nat)}
theorem PF.fn (h : PF bx ok f ar s v s') (hc : c < B.length) (hi : ok s i) : AFn Tryz.prog TabI f (.ptr c 0 :: ar) ⟨B.set c (bx s i) ++ J, T⟩ fun v' m => v' = v ∧ ∃ i', ok s' i' ∧ m = ⟨B.set c (bx s' i') ++ J, T⟩ := by
 have := h c (B ++ J) T i (by simp; omega) hi
 rw [List.set_append_left _ _ hc] at this
 refine this.mono ?_
 rintro v' m ⟨rfl, i', h1, rfl⟩
 exact ⟨rfl, i', h1, by rw [List.set_append_left _ _ hc]⟩
theorem PF.call {stop : Cont} {k : List Item} {d : Option Tmp} {env : List V} (h : PF bx ok f ar s v s') (hc : c < B.length) (hi : ok s i) (hk : ∀ i', ok s' i' → stop k (setV env d v) ⟨B.set c (bx s' i') ++ J, T⟩) : callS Tryz.prog TabI stop (.func f [] []) (.ptr c 0 :: ar) k d env ⟨B.set c (bx s i) ++ J, T⟩ :=
 callS_fn (h.fn hc hi) fun _ _ ⟨e1, i', h1, e2⟩ => by rw [e1, e2]; exact hk i' h1
end
section
variable {B J : List (List V)} {T K : List (Nat × Nat)} {c : Nat} {x y : List V} {R : V → Mem → Prop} {v : V}
theorem PF.ret (hy : ∀ n m, y.all (fit n m) = true) (h : R (wk (B.set c x).length T.length v) ⟨B.set c y, T⟩) : Ab.Left ⟨B.set c x, T⟩ R v ⟨B.set c y ++ J, T ++ K⟩ := by
 refine Ab.Left.of (by simp) rfl ?_ h
 have := (FitL.refl (B.set c x).length T.length (B.set c x)).set c (hy _ _)
 rwa [List.set_set] at this
end
end Go.Proofs.YtnfnbjjnjjdjdaaGreatDoor
namespace Go.Ab
open Go.RowKit Go.Av
abbrev EvT := FuncId → List Item → List V → Mem → Option (V × Mem)
def evRes (P : Program) (fn : FuncId) (env : List V) (S : Mem) : Option (V × Mem) :=
 match P.funcs[fn]? with
 | some f => match resV P S env f.results.toList with
  | some v => some (v, S)
  | none => none
 | none => none
def evBack (S : Mem) (v : V) (S' : Mem) : V × Mem :=
 match fit S.boxes.length S'.toks.length v && (S'.boxes.take S.boxes.length).all (fun vs => vs.all (fit S.boxes.length S.toks.length)) && Nat.ble S.boxes.length S'.boxes.length && Nat.ble S.toks.length S'.toks.length with
 | true => (wk S.boxes.length S.toks.length v, ⟨S'.boxes.take S.boxes.length, S'.toks.take S.toks.length⟩)
 | false => (v, S')
def evIn (run : EvT) (g : FuncId) (body : Code) (init : List V) (S : Mem) : Option (V × Mem) :=
 match run g [.code body] init S with
 | some (v, S') => some (evBack S v S')
 | none => none
def evData (P : Program) (orc : FuncId → List V → Option V) (run : EvT) (g : FuncId) (args : List V) : Option V :=
 match P.funcs[g]? with
 | some f => match f.body with
  | some body => match orc g args with
   | some v => some (wk 0 0 v)
   | none => match run g [.code body] (args ++ List.replicate (f.ntmps - args.length) .undef) ⟨[], []⟩ with
    | some (v, S0) => match fit 0 S0.toks.length v with
     | true => some (wk 0 0 v)
     | false => none
    | none => none
  | none => none
 | none => none
def evAny (P : Program) (run : EvT) (g : FuncId) (args : List V) (S : Mem) : Option (V × Mem) :=
 match P.funcs[g]? with
 | some f => match f.body with
  | some body => evIn run g body (args ++ List.replicate (f.ntmps - args.length) .undef) S
  | none => none
 | none => none
def evFn (P : Program) (orc : FuncId → List V → Option V) (run : EvT) (g : FuncId) (args : List V) (S : Mem) : Option (V × Mem) :=
 match fitL 0 0 args with
 | true => match evData P orc run g (wkL 0 0 args) with
  | some v => some (v, S)
  | none => evAny P run g args S
 | false => evAny P run g args S
def evBind (run : EvT) (fn : FuncId) (r : Option (V × Mem)) (k : List Item) (d : Option Tmp) (env : List V) : Option (V × Mem) :=
 match r with
 | some (v, S) => run fn k (setV env d v) S
 | none => none
def evTok (P : Program) (env : List V) (S : Mem) (s : Operand) (t : TypeId) : List V × Mem :=
 match s with
 | .tmp q => match env.getD q .undef with
  | .sl rows .full => match tyOf P t with
   | some ti => match ti.d with
    | .slice e => match tyOf P e with
     | some te => match decide (0 < te.size) && rowsSz te.size rows with
      | true => (env.set q (.sl rows (.own S.toks.length)), { S with toks := S.toks ++ [(rows.length, te.size)] })
      | false => (env, S)
     | none => (env, S)
    | _ => (env, S)
   | none => (env, S)
  | _ => (env, S)
 | _ => (env, S)
def evOp (P : Program) (I : Inv) (orc : FuncId → List V → Option V) (run : EvT) (fn : FuncId) (ops : Array Oper) (rest : List Nat) (o : Oper) (k : List Item) (env : List V) (S : Mem) : Option (V × Mem) :=
 match o.op with
 | .call q => match q.callee with
  | .value f => match evalV I env f with
   | .func g first caps => evBind run fn (evFn P orc run g (first ++ q.args.toList.map (evalV I env) ++ caps) S) (.inRegion ops rest :: k) o.dst env
   | _ => none
  | .builtin .append => match q.args.toList, q.argTypes.toList with
   | [s, _], [t, _] => match evTok P env S s t with
    | (env', S') => evBind run fn (opCall P (evalV I env') S' q) (.inRegion ops rest :: k) o.dst env'
   | _, _ => none
  | _ => evBind run fn (opCall P (evalV I env) S q) (.inRegion ops rest :: k) o.dst env
 | op => evBind run fn (op1 P (evalV I env) S op) (.inRegion ops rest :: k) o.dst env
def evReg (P : Program) (I : Inv) (orc : FuncId → List V → Option V) (run : EvT) (fn : FuncId) (ops : Array Oper) (i : Nat) (rest : List Nat) (k : List Item) (env : List V) (S : Mem) : Option (V × Mem) :=
 match ops[i]? with
 | some o => match o.guard with
  | none => evOp P I orc run fn ops rest o k env S
  | some (j, want) => match guardV env ops j with
   | .d (.bool t) => match t == want with
    | true => evOp P I orc run fn ops rest o k env S
    | false => run fn (.inRegion ops rest :: k) (setV env o.dst (.tup [])) S
   | .tup [] => run fn (.inRegion ops rest :: k) (setV env o.dst (.tup [])) S
   | _ => none
 | none => none
def quietOp : Op → Bool
 | .move _ => true
 | .assign _ => true
 | .pick .. => true
 | .build .. => true
 | .load .. => true
 | .nilCheck _ => true
 | .binOp .. => true
 | .unOp .. => true
 | .makeFunc .. => true
 | .slice .. => true
 | .fieldAddr .. => true
 | .indexAddr .. => true
 | .index .. => true
 | .extract .. => true
 | _ => false
def evFst (r : Option (V × Mem)) : Option V :=
 match r with
 | some (v, _) => some v
 | none => none
def evQOp (P : Program) (I : Inv) (orc : FuncId → List V → Option V) (run : EvT) (o : Oper) (env : List V) (S : Mem) : Option V :=
 match o.op with
 | .call q => match q.callee with
  | .value f => match evalV I env f with
   | .func g first caps => match fitL 0 0 (first ++ q.args.toList.map (evalV I env) ++ caps) with
    | true => evData P orc run g (wkL 0 0 (first ++ q.args.toList.map (evalV I env) ++ caps))
    | false => none
   | _ => none
  | .builtin .len => evFst (opCall P (evalV I env) S q)
  | _ => none
 | op => match quietOp op with
  | true => evFst (op1 P (evalV I env) S op)
  | false => none
def evLex (P : Program) (I : Inv) (orc : FuncId → List V → Option V) (run : EvT) (ops : Array Oper) (S : Mem) : List Oper → List V → Option (List V)
 | [], env => some env
 | o :: l, env => match o.guard with
  | none => match evQOp P I orc run o env S with
   | some v => evLex P I orc run ops S l (setV env o.dst v)
   | none => none
  | some (j, want) => match guardV env ops j with
   | .d (.bool t) => match t == want with
    | true => match evQOp P I orc run o env S with
     | some v => evLex P I orc run ops S l (setV env o.dst v)
     | none => none
    | false => evLex P I orc run ops S l (setV env o.dst (.tup []))
   | .tup [] => evLex P I orc run ops S l (setV env o.dst (.tup []))
   | _ => none
def evCode (P : Program) (I : Inv) (orc : FuncId → List V → Option V) (run : EvT) (fn : FuncId) (c : Code) (k : List Item) (env : List V) (S : Mem) : Option (V × Mem) :=
 match c with
 | .seq a b => run fn (.code a :: .code b :: k) env S
 | .skip => run fn k env S
 | .label _ => run fn k env S
 | .block id a => run fn (.code a :: .inBlock id :: k) env S
 | .region _ ops false => run fn (.inRegion ops (upTo 0 ops.toList) :: k) env S
 | .region _ ops true => match P.follows .mixedOrders && Region.lexB .any ops with
  | true => match evLex P I orc run ops S ops.toList env with
   | some env' => run fn k env' S
   | none => none
  | false => none
 | .cond x a b => match evalV I env x with
  | .d (.bool t) => match t with
   | true => run fn (.code a :: k) env S
   | false => run fn (.code b :: k) env S
  | _ => none
 | .exit id => match exitTo id k with
  | some k' => run fn k' env S
  | none => none
 | .loop x => run fn (.code x :: .inLoop x :: k) env S
 | .ret => evRes P fn env S
 | _ => none
def evStep (P : Program) (I : Inv) (orc : FuncId → List V → Option V) (run : EvT) : EvT := fun fn k env S =>
 match k with
 | [] => evRes P fn env S
 | .code c :: k => evCode P I orc run fn c k env S
 | .inBlock _ :: k => run fn k env S
 | .inLoop x :: k => run fn (.code x :: .inLoop x :: k) env S
 | .inRegion _ [] :: k => run fn k env S
 | .inRegion ops (i :: rest) :: k => evReg P I orc run fn ops i rest k env S
 | _ => none
noncomputable def ev (P : Program) (I : Inv) (orc : FuncId → List V → Option V) (n : Nat) : EvT := Nat.rec (fun _ _ _ _ => none) (fun _ run => evStep P I orc run) n
section
variable {P : Program} {I : Inv} {orc : FuncId → List V → Option V}
end
end Go.Ab
namespace Go.Ab
open Go.RowKit Go.Av
theorem AFn.sameW {P : Program} {I : Inv} {f : FuncId} {args args' : List V} {v : V} (h : AFn P I f args' ⟨[], []⟩ (fun v' _ => v' = v)) (hd : wkL 0 0 args = args') (hv : wk 0 0 v = v) (S : Mem) : AFn P I f args S (Same v S) :=
 AFn.mono (AFn.frame (R := fun v' _ => v' = v) (by rw [hd]; exact h) S) fun v' S' h => by
  obtain ⟨h1, v0, S0, h2, h3⟩ := h
  exact ⟨by rw [h3, h2, hv], h1⟩
theorem AFn.only {P : Program} {I : Inv} {f : FuncId} {args : List V} {v : V} {S : Mem} (h : AFn P I f args S (Same v S)) : AFn P I f args S (fun v' _ => v' = v) := h.mono fun _ _ h => h.1
end Go.Ab
namespace Go.Proofs.YtnfnbjjnjjdjdaaGreatDoor
open Go.RowKit Go.Av Go.Ab
set_option maxRecDepth 100000
end Go.Proofs.YtnfnbjjnjjdjdaaGreatDoor
namespace Go.Proofs.YtnfnbjjnjjdjdaaGreatDoor
open Go.RowKit Go.Av Go.Ab
set_option linter.unusedSimpArgs false
set_option maxRecDepth 100000
set_option linter.defProp false
def byD (bs : List UInt8) : List (List D) := bs.map byteRow
def wdL (x : WordS) : List V := [.d (.int .i64 x.kind), .d (.str x.text), .d (.int .u64 x.int), .d (.int .i64 x.at'), .d (.int .i64 x.next)]
theorem text_len (bs : List UInt8) (i : Int) : (takeS bs i).1.text.length ≤ bs.length + 9 := by
 unfold takeS
 split
 ·simp [WordS.zero]
 ·unfold takeAt
  split
  ·simp
  ·split
   ·simp only [textAt, List.length_take, List.length_drop]; omega
   ·split
    ·split
     ·simp only [numberW, digitsAt, List.length_take, List.length_drop]; omega
     ·simp [WordS.zero]
    ·split
     ·rename_i s hs
      have h3 : ∀ s ∈ signsL, s.length ≤ 9 := by decide
      have := h3 s (List.mem_of_find?_eq_some hs)
      simp only
      omega
     ·simp [WordS.zero]
def bxP (bs : List UInt8) (s : Ps) : List V := [.d (.sl (byD bs)), .d (.int .i64 s.w.kind), .d (.str s.w.text), .d (.int .u64 s.w.int), .d (.int .i64 s.w.at'), .d (.int .i64 s.w.next), .d (.int .i64 s.e), .d (.int .i64 s.o), .d (.bool s.h)]
abbrev PP (bs : List UInt8) (f : FuncId) (ar : List V) (s : Ps) (v : V) (s' : Ps) : Prop := PF (fun s _ => bxP bs s) (fun s _ => OkP bs s) f ar s v s'
theorem PP.of {bs : List UInt8} {f : FuncId} {ar : List V} {s s' : Ps} {v : V} (h : ∀ (c : Nat) (B : List (List V)) (T : List (Nat × Nat)), c < B.length → OkP bs s → OkP bs s' ∧ AFn Tryz.prog TabI f (.ptr c 0 :: ar) ⟨B.set c (bxP bs s), T⟩ (Same v ⟨B.set c (bxP bs s'), T⟩)) : PP bs f ar s v s' :=
 fun c B T i hc hi => (h c B T hc hi).2.mono fun _ _ ⟨e1, e2⟩ => ⟨e1, i, (h c B T hc hi).1, e2⟩
def idxF {α : Type} (p : α → Bool) : List α → Int → Int
 | [], _ => -1
 | x :: l, i => if p x then i else idxF p l (i + 1)
theorem idxF_any {α : Type} (p : α → Bool) : ∀ (l : List α) (i : Int), 0 ≤ i → decide (0 ≤ idxF p l i) = l.any p
 | [], i, _ => by simp [idxF]
 | x :: l, i, hi => by
  unfold idxF
  cases hp : p x
  ·simp [hp, idxF_any p l (i + 1) (by omega)]
  ·simp [hp, hi]
theorem drop_get {α : Type} {l : List α} {i : Nat} (h : i < l.length) : l.drop i = l[i] :: l.drop (i + 1) := List.drop_eq_getElem_cons h
set_option maxHeartbeats 1000000 in
theorem index_str_ab (l : List (List UInt8)) (s : List UInt8) (hl : l.length ≤ 9223372036854775807) (S : Mem) : AFn Tryz.prog TabI 181 [.d (.sl (ssD l)), .d (.str s)] S (Same (.d (.int .i64 (idxF (· == s) l 0))) S) := by
 refine AFn.body Tryz.func181 rfl (by kernel_rfl) ?_
 refine ARun.go 100 ?_
 simp only [Tryz.f181, WO, seval]
 refine ARun.loopW (fun i : Nat => (envOf 19 [(0, .d (.sl (ssD l))), (1, .d (.str s)), (6, .d (.sl (ssD l))), (7, .d (.int .i64 l.length)), (8, .d (.int .i64 i))], S)) (fun i => i ≤ l.length ∧ idxF (· == s) l 0 = idxF (· == s) (l.drop i) i) (fun i => l.length - i) 0 ⟨by omega, rfl⟩ ?_ rfl ?_
 ·simp only [envOf, List.replicate_succ, List.replicate_zero, List.foldl_cons, List.foldl_nil, List.set_cons_zero, List.set_cons_succ, EnvW, eq_self, or_true, true_or, and_self, Int.natCast_add, Int.natCast_one, Int.natCast_zero]
 rintro i ⟨h1, h2⟩ ih
 by_cases hlt : i < l.length
 ·have hw := wrap_in ((i : Int) + 1) (by omega)
  have hg := List.getElem?_eq_getElem hlt
  rw [drop_get hlt] at h2
  have hlt' : decide ((i : Int) < (l.length : Int)) = true := decide_eq_true (by omega)
  refine ARun.go 100 ?_
  simp only [WO, seval, hg, hlt', hw]
  refine condS_of (fun h => ?_) (fun h => ?_)
  ·have hb : (l[i] == s) = true := by rw [beq_iff_eq]; exact (of_decide_eq_true h).symm
   simp only [WO, seval, h]
   refine ARun.ret Tryz.func181 rfl (Left.none ?_)
   have e : idxF (· == s) (l[i] :: l.drop (i + 1)) (i : Int) = i := by simp [idxF, hb]
   rw [h2, e]
   exact ⟨rfl, rfl⟩
  ·have hb : (l[i] == s) = false := by rw [beq_eq_false_iff_ne]; exact fun e => of_decide_eq_false h e.symm
   simp only [WO, seval, h, hw]
   have e : idxF (· == s) (l[i] :: l.drop (i + 1)) (i : Int) = idxF (· == s) (l.drop (i + 1)) ((i + 1 : Nat) : Int) := by simp [idxF, hb]
   refine ih (i + 1) ⟨by omega, by rw [h2, e]⟩ (by omega) _ _ ?_ rfl
   simp only [envOf, List.replicate_succ, List.replicate_zero, List.foldl_cons, List.foldl_nil, List.set_cons_zero, List.set_cons_succ, EnvW, eq_self, or_true, true_or, and_self, Int.natCast_add, Int.natCast_one, Int.natCast_zero]
 ·have hlt' : decide ((i : Int) < (l.length : Int)) = false := decide_eq_false (by omega)
  refine ARun.go 100 ?_
  simp only [WO, seval, hlt']
  refine ARun.ret Tryz.func181 rfl (Left.none ?_)
  rw [h2, List.drop_eq_nil_of_le (by omega)]
  exact ⟨rfl, rfl⟩
theorem contains_eq (l : List (List UInt8)) (s : List UInt8) : decide (0 ≤ idxF (· == s) l 0) = l.contains s := by
 rw [idxF_any _ _ _ (Int.le_refl 0), Bool.eq_iff_iff, List.any_eq_true, List.contains_iff_exists_mem_beq]
 constructor <;> rintro ⟨x, hx, h⟩ <;> exact ⟨x, hx, by rw [beq_iff_eq] at h ⊢; exact h.symm⟩
theorem contains_str_ab (l : List (List UInt8)) (s : List UInt8) (hl : l.length ≤ 9223372036854775807) (S : Mem) : AFn Tryz.prog TabI 161 [.d (.sl (ssD l)), .d (.str s)] S (Same (.d (.bool (l.contains s))) S) := by
 refine AFn.body Tryz.func161 rfl (by kernel_rfl) ?_
 refine ARun.go 100 ?_
 simp only [Tryz.f161, WO, seval]
 refine callS_fn (index_str_ab l s hl _) ?_
 rintro _ _ ⟨rfl, rfl⟩
 refine ARun.go 100 ?_
 simp only [WO, seval, contains_eq]
 refine ARun.ret Tryz.func161 rfl (Left.none ?_)
 exact ⟨rfl, rfl⟩
def walkF {α σ : Type} (f : α → σ → Bool × σ) : List α → Int → σ → Int × σ
 | [], _, s => (-1, s)
 | x :: l, i, s => if (f x s).1 = true then (i, (f x s).2) else walkF f l (i + 1) (f x s).2
def anyF {α σ : Type} (f : α → σ → Bool × σ) : List α → σ → Bool × σ
 | [], s => (false, s)
 | x :: l, s => if (f x s).1 = true then (true, (f x s).2) else anyF f l (f x s).2
theorem walkF_any {α σ : Type} (f : α → σ → Bool × σ) : ∀ (l : List α) (i : Int) (s : σ), 0 ≤ i → decide (0 ≤ (walkF f l i s).1) = (anyF f l s).1 ∧ (walkF f l i s).2 = (anyF f l s).2
 | [], i, s, _ => ⟨by simp [walkF, anyF], rfl⟩
 | x :: l, i, s, hi => by
  unfold walkF anyF
  cases h : (f x s).1
  ·simpa using walkF_any f l (i + 1) (f x s).2 (by omega)
  ·simpa using hi
def Good (P : Program) (I : Inv) {α σ : Type} (g : FuncId) (first caps : List V) (argV : α → V) (mem : σ → Mem) (f : α → σ → Bool × σ) : List α → σ → Prop
 | [], _ => True
 | x :: l, s => AFn P I g (first ++ [argV x] ++ caps) (mem s) (Same (.d (.bool (f x s).1)) (mem (f x s).2)) ∧ ((f x s).1 = false → Good P I g first caps argV mem f l (f x s).2)
set_option maxHeartbeats 1000000 in
theorem indexFunc_Type {σ : Type} (g : FuncId) (first caps : List V) (mem : σ → Mem) (f : TyT → σ → Bool × σ) (hm : ∀ s s', (mem s).boxes.length = (mem s').boxes.length ∧ (mem s).toks.length = (mem s').toks.length) (l : List TyT) (hl : l.length ≤ 9223372036854775807) (s0 : σ) (hg : Good Tryz.prog TabI g first caps tyV mem f l s0) :
 AFn Tryz.prog TabI 107 [.d (.sl (l.map tyD)), .func g first caps] (mem s0) (Same (.d (.int .i64 (walkF f l 0 s0).1)) (mem (walkF f l 0 s0).2)) := by
 refine AFn.body Tryz.func107 rfl (by kernel_rfl) ?_
 refine ARun.go 100 ?_
 simp only [Tryz.f107, WO, seval]
 refine ARun.loopW (fun p : Nat × σ => (envOf 19 [(0, .d (.sl (l.map tyD))), (1, .func g first caps), (6, .d (.sl (l.map tyD))), (7, .d (.int .i64 l.length)), (8, .d (.int .i64 p.1))], mem p.2)) (fun p => p.1 ≤ l.length ∧ walkF f l 0 s0 = walkF f (l.drop p.1) p.1 p.2 ∧ Good Tryz.prog TabI g first caps tyV mem f (l.drop p.1) p.2) (fun p => l.length - p.1) (0, s0) ⟨by omega, rfl, hg⟩ ?_ rfl ?_
 ·simp only [envOf, List.replicate_succ, List.replicate_zero, List.foldl_cons, List.foldl_nil, List.set_cons_zero, List.set_cons_succ, EnvW, eq_self, or_true, true_or, and_self, Int.natCast_add, Int.natCast_one, Int.natCast_zero]
 rintro ⟨i, s⟩ ⟨h1, h2, h3⟩ ih
 dsimp only at h1 h2 h3 ih ⊢
 by_cases hlt : i < l.length
 ·have hw := wrap_in ((i : Int) + 1) (by omega)
  have hge := List.getElem?_eq_getElem hlt
  rw [drop_get hlt] at h2 h3
  obtain ⟨h4, h5⟩ := h3
  have hlt' : decide ((i : Int) < (l.length : Int)) = true := decide_eq_true (by omega)
  refine ARun.go 100 ?_
  simp only [WO, seval, List.getElem?_map, hge, hlt', hw, tyD_eq]
  refine callS_of h4 ?_
  rintro _ _ ⟨rfl, rfl⟩
  refine ARun.go 100 ?_
  simp only [WO, seval, hw]
  refine condS_of (fun h => ?_) (fun h => ?_)
  ·simp only [WO, seval, h]
   refine ARun.fits fun hf => ?_
   refine ARun.ret Tryz.func107 rfl (Left.fits hf (hm _ _).1 (hm _ _).2 ?_)
   have e : walkF f (l[i] :: l.drop (i + 1)) (i : Int) s = ((i : Int), (f l[i] s).2) := by simp [walkF, h]
   rw [h2, e]
   exact ⟨rfl, rfl⟩
  ·simp only [WO, seval, h, hw]
   have e : walkF f (l[i] :: l.drop (i + 1)) (i : Int) s = walkF f (l.drop (i + 1)) ((i + 1 : Nat) : Int) (f l[i] s).2 := by simp [walkF, h]
   refine ih (i + 1, (f l[i] s).2) ⟨hlt, h2.trans e, h5 h⟩ (by simp only; omega) _ _ ?_ rfl
   simp only [envOf, List.replicate_succ, List.replicate_zero, List.foldl_cons, List.foldl_nil, List.set_cons_zero, List.set_cons_succ, EnvW, eq_self, or_true, true_or, and_self, Int.natCast_add, Int.natCast_one, Int.natCast_zero]
 ·have hlt' : decide ((i : Int) < (l.length : Int)) = false := decide_eq_false (by omega)
  refine ARun.go 100 ?_
  simp only [WO, seval, hlt']
  refine ARun.fits fun hf => ?_
  refine ARun.ret Tryz.func107 rfl (Left.fits hf (hm _ _).1 (hm _ _).2 ?_)
  rw [h2, List.drop_eq_nil_of_le (by omega)]
  exact ⟨rfl, rfl⟩
theorem containsFunc_Type {σ : Type} (g : FuncId) (first caps : List V) (mem : σ → Mem) (f : TyT → σ → Bool × σ) (hm : ∀ s s', (mem s).boxes.length = (mem s').boxes.length ∧ (mem s).toks.length = (mem s').toks.length) (l : List TyT) (hl : l.length ≤ 9223372036854775807) (s0 : σ) (hg : Good Tryz.prog TabI g first caps tyV mem f l s0) :
 AFn Tryz.prog TabI 70 [.d (.sl (l.map tyD)), .func g first caps] (mem s0) (Same (.d (.bool (anyF f l s0).1)) (mem (anyF f l s0).2)) := by
 obtain ⟨e1, e2⟩ := walkF_any f l 0 s0 (Int.le_refl 0)
 refine AFn.body Tryz.func70 rfl (by kernel_rfl) ?_
 refine ARun.go 100 ?_
 simp only [Tryz.f70, WO, seval]
 refine callS_fn (indexFunc_Type g first caps mem f hm l hl s0 hg) ?_
 rintro _ _ ⟨rfl, rfl⟩
 refine ARun.go 100 ?_
 simp only [WO, seval, e1]
 refine ARun.fits fun hf => ?_
 refine ARun.ret Tryz.func70 rfl (Left.fits hf (hm _ _).1 (hm _ _).2 ?_)
 rw [e2]
 exact ⟨rfl, rfl⟩
set_option maxHeartbeats 1000000 in
theorem indexFunc_Stmt {σ : Type} (g : FuncId) (first caps : List V) (mem : σ → Mem) (f : StT → σ → Bool × σ) (hm : ∀ s s', (mem s).boxes.length = (mem s').boxes.length ∧ (mem s).toks.length = (mem s').toks.length) (l : List StT) (hl : l.length ≤ 9223372036854775807) (s0 : σ) (hg : Good Tryz.prog TabI g first caps stV mem f l s0) :
 AFn Tryz.prog TabI 162 [.d (.sl (l.map stD)), .func g first caps] (mem s0) (Same (.d (.int .i64 (walkF f l 0 s0).1)) (mem (walkF f l 0 s0).2)) := by
 refine AFn.body Tryz.func162 rfl (by kernel_rfl) ?_
 refine ARun.go 100 ?_
 simp only [Tryz.f162, WO, seval]
 refine ARun.loopW (fun p : Nat × σ => (envOf 19 [(0, .d (.sl (l.map stD))), (1, .func g first caps), (6, .d (.sl (l.map stD))), (7, .d (.int .i64 l.length)), (8, .d (.int .i64 p.1))], mem p.2)) (fun p => p.1 ≤ l.length ∧ walkF f l 0 s0 = walkF f (l.drop p.1) p.1 p.2 ∧ Good Tryz.prog TabI g first caps stV mem f (l.drop p.1) p.2) (fun p => l.length - p.1) (0, s0) ⟨by omega, rfl, hg⟩ ?_ rfl ?_
 ·simp only [envOf, List.replicate_succ, List.replicate_zero, List.foldl_cons, List.foldl_nil, List.set_cons_zero, List.set_cons_succ, EnvW, eq_self, or_true, true_or, and_self, Int.natCast_add, Int.natCast_one, Int.natCast_zero]
 rintro ⟨i, s⟩ ⟨h1, h2, h3⟩ ih
 dsimp only at h1 h2 h3 ih ⊢
 by_cases hlt : i < l.length
 ·have hw := wrap_in ((i : Int) + 1) (by omega)
  have hge := List.getElem?_eq_getElem hlt
  rw [drop_get hlt] at h2 h3
  obtain ⟨h4, h5⟩ := h3
  have hlt' : decide ((i : Int) < (l.length : Int)) = true := decide_eq_true (by omega)
  refine ARun.go 100 ?_
  simp only [WO, seval, List.getElem?_map, hge, hlt', hw, stD_eq]
  refine callS_of h4 ?_
  rintro _ _ ⟨rfl, rfl⟩
  refine ARun.go 100 ?_
  simp only [WO, seval, hw]
  refine condS_of (fun h => ?_) (fun h => ?_)
  ·simp only [WO, seval, h]
   refine ARun.fits fun hf => ?_
   refine ARun.ret Tryz.func162 rfl (Left.fits hf (hm _ _).1 (hm _ _).2 ?_)
   have e : walkF f (l[i] :: l.drop (i + 1)) (i : Int) s = ((i : Int), (f l[i] s).2) := by simp [walkF, h]
   rw [h2, e]
   exact ⟨rfl, rfl⟩
  ·simp only [WO, seval, h, hw]
   have e : walkF f (l[i] :: l.drop (i + 1)) (i : Int) s = walkF f (l.drop (i + 1)) ((i + 1 : Nat) : Int) (f l[i] s).2 := by simp [walkF, h]
   refine ih (i + 1, (f l[i] s).2) ⟨hlt, h2.trans e, h5 h⟩ (by simp only; omega) _ _ ?_ rfl
   simp only [envOf, List.replicate_succ, List.replicate_zero, List.foldl_cons, List.foldl_nil, List.set_cons_zero, List.set_cons_succ, EnvW, eq_self, or_true, true_or, and_self, Int.natCast_add, Int.natCast_one, Int.natCast_zero]
 ·have hlt' : decide ((i : Int) < (l.length : Int)) = false := decide_eq_false (by omega)
  refine ARun.go 100 ?_
  simp only [WO, seval, hlt']
  refine ARun.fits fun hf => ?_
  refine ARun.ret Tryz.func162 rfl (Left.fits hf (hm _ _).1 (hm _ _).2 ?_)
  rw [h2, List.drop_eq_nil_of_le (by omega)]
  exact ⟨rfl, rfl⟩
theorem containsFunc_Stmt {σ : Type} (g : FuncId) (first caps : List V) (mem : σ → Mem) (f : StT → σ → Bool × σ) (hm : ∀ s s', (mem s).boxes.length = (mem s').boxes.length ∧ (mem s).toks.length = (mem s').toks.length) (l : List StT) (hl : l.length ≤ 9223372036854775807) (s0 : σ) (hg : Good Tryz.prog TabI g first caps stV mem f l s0) :
 AFn Tryz.prog TabI 130 [.d (.sl (l.map stD)), .func g first caps] (mem s0) (Same (.d (.bool (anyF f l s0).1)) (mem (anyF f l s0).2)) := by
 obtain ⟨e1, e2⟩ := walkF_any f l 0 s0 (Int.le_refl 0)
 refine AFn.body Tryz.func130 rfl (by kernel_rfl) ?_
 refine ARun.go 100 ?_
 simp only [Tryz.f130, WO, seval]
 refine callS_fn (indexFunc_Stmt g first caps mem f hm l hl s0 hg) ?_
 rintro _ _ ⟨rfl, rfl⟩
 refine ARun.go 100 ?_
 simp only [WO, seval, e1]
 refine ARun.fits fun hf => ?_
 refine ARun.ret Tryz.func130 rfl (Left.fits hf (hm _ _).1 (hm _ _).2 ?_)
 rw [e2]
 exact ⟨rfl, rfl⟩
set_option maxHeartbeats 1000000 in
theorem indexFunc_Case {σ : Type} (g : FuncId) (first caps : List V) (mem : σ → Mem) (f : CaT → σ → Bool × σ) (hm : ∀ s s', (mem s).boxes.length = (mem s').boxes.length ∧ (mem s).toks.length = (mem s').toks.length) (l : List CaT) (hl : l.length ≤ 9223372036854775807) (s0 : σ) (hg : Good Tryz.prog TabI g first caps caV mem f l s0) :
 AFn Tryz.prog TabI 114 [.d (.sl (l.map caD)), .func g first caps] (mem s0) (Same (.d (.int .i64 (walkF f l 0 s0).1)) (mem (walkF f l 0 s0).2)) := by
 refine AFn.body Tryz.func114 rfl (by kernel_rfl) ?_
 refine ARun.go 100 ?_
 simp only [Tryz.f114, WO, seval]
 refine ARun.loopW (fun p : Nat × σ => (envOf 19 [(0, .d (.sl (l.map caD))), (1, .func g first caps), (6, .d (.sl (l.map caD))), (7, .d (.int .i64 l.length)), (8, .d (.int .i64 p.1))], mem p.2)) (fun p => p.1 ≤ l.length ∧ walkF f l 0 s0 = walkF f (l.drop p.1) p.1 p.2 ∧ Good Tryz.prog TabI g first caps caV mem f (l.drop p.1) p.2) (fun p => l.length - p.1) (0, s0) ⟨by omega, rfl, hg⟩ ?_ rfl ?_
 ·simp only [envOf, List.replicate_succ, List.replicate_zero, List.foldl_cons, List.foldl_nil, List.set_cons_zero, List.set_cons_succ, EnvW, eq_self, or_true, true_or, and_self, Int.natCast_add, Int.natCast_one, Int.natCast_zero]
 rintro ⟨i, s⟩ ⟨h1, h2, h3⟩ ih
 dsimp only at h1 h2 h3 ih ⊢
 by_cases hlt : i < l.length
 ·have hw := wrap_in ((i : Int) + 1) (by omega)
  have hge := List.getElem?_eq_getElem hlt
  rw [drop_get hlt] at h2 h3
  obtain ⟨h4, h5⟩ := h3
  have hlt' : decide ((i : Int) < (l.length : Int)) = true := decide_eq_true (by omega)
  refine ARun.go 100 ?_
  simp only [WO, seval, List.getElem?_map, hge, hlt', hw, caD_eq]
  refine callS_of h4 ?_
  rintro _ _ ⟨rfl, rfl⟩
  refine ARun.go 100 ?_
  simp only [WO, seval, hw]
  refine condS_of (fun h => ?_) (fun h => ?_)
  ·simp only [WO, seval, h]
   refine ARun.fits fun hf => ?_
   refine ARun.ret Tryz.func114 rfl (Left.fits hf (hm _ _).1 (hm _ _).2 ?_)
   have e : walkF f (l[i] :: l.drop (i + 1)) (i : Int) s = ((i : Int), (f l[i] s).2) := by simp [walkF, h]
   rw [h2, e]
   exact ⟨rfl, rfl⟩
  ·simp only [WO, seval, h, hw]
   have e : walkF f (l[i] :: l.drop (i + 1)) (i : Int) s = walkF f (l.drop (i + 1)) ((i + 1 : Nat) : Int) (f l[i] s).2 := by simp [walkF, h]
   refine ih (i + 1, (f l[i] s).2) ⟨hlt, h2.trans e, h5 h⟩ (by simp only; omega) _ _ ?_ rfl
   simp only [envOf, List.replicate_succ, List.replicate_zero, List.foldl_cons, List.foldl_nil, List.set_cons_zero, List.set_cons_succ, EnvW, eq_self, or_true, true_or, and_self, Int.natCast_add, Int.natCast_one, Int.natCast_zero]
 ·have hlt' : decide ((i : Int) < (l.length : Int)) = false := decide_eq_false (by omega)
  refine ARun.go 100 ?_
  simp only [WO, seval, hlt']
  refine ARun.fits fun hf => ?_
  refine ARun.ret Tryz.func114 rfl (Left.fits hf (hm _ _).1 (hm _ _).2 ?_)
  rw [h2, List.drop_eq_nil_of_le (by omega)]
  exact ⟨rfl, rfl⟩
theorem containsFunc_Case {σ : Type} (g : FuncId) (first caps : List V) (mem : σ → Mem) (f : CaT → σ → Bool × σ) (hm : ∀ s s', (mem s).boxes.length = (mem s').boxes.length ∧ (mem s).toks.length = (mem s').toks.length) (l : List CaT) (hl : l.length ≤ 9223372036854775807) (s0 : σ) (hg : Good Tryz.prog TabI g first caps caV mem f l s0) :
 AFn Tryz.prog TabI 76 [.d (.sl (l.map caD)), .func g first caps] (mem s0) (Same (.d (.bool (anyF f l s0).1)) (mem (anyF f l s0).2)) := by
 obtain ⟨e1, e2⟩ := walkF_any f l 0 s0 (Int.le_refl 0)
 refine AFn.body Tryz.func76 rfl (by kernel_rfl) ?_
 refine ARun.go 100 ?_
 simp only [Tryz.f76, WO, seval]
 refine callS_fn (indexFunc_Case g first caps mem f hm l hl s0 hg) ?_
 rintro _ _ ⟨rfl, rfl⟩
 refine ARun.go 100 ?_
 simp only [WO, seval, e1]
 refine ARun.fits fun hf => ?_
 refine ARun.ret Tryz.func76 rfl (Left.fits hf (hm _ _).1 (hm _ _).2 ?_)
 rw [e2]
 exact ⟨rfl, rfl⟩
set_option maxHeartbeats 1000000 in
theorem indexFunc_Expr {σ : Type} (g : FuncId) (first caps : List V) (mem : σ → Mem) (f : ExT → σ → Bool × σ) (hm : ∀ s s', (mem s).boxes.length = (mem s').boxes.length ∧ (mem s).toks.length = (mem s').toks.length) (l : List ExT) (hl : l.length ≤ 9223372036854775807) (s0 : σ) (hg : Good Tryz.prog TabI g first caps exV mem f l s0) :
 AFn Tryz.prog TabI 199 [.d (.sl (l.map exD)), .func g first caps] (mem s0) (Same (.d (.int .i64 (walkF f l 0 s0).1)) (mem (walkF f l 0 s0).2)) := by
 refine AFn.body Tryz.func199 rfl (by kernel_rfl) ?_
 refine ARun.go 100 ?_
 simp only [Tryz.f199, WO, seval]
 refine ARun.loopW (fun p : Nat × σ => (envOf 19 [(0, .d (.sl (l.map exD))), (1, .func g first caps), (6, .d (.sl (l.map exD))), (7, .d (.int .i64 l.length)), (8, .d (.int .i64 p.1))], mem p.2)) (fun p => p.1 ≤ l.length ∧ walkF f l 0 s0 = walkF f (l.drop p.1) p.1 p.2 ∧ Good Tryz.prog TabI g first caps exV mem f (l.drop p.1) p.2) (fun p => l.length - p.1) (0, s0) ⟨by omega, rfl, hg⟩ ?_ rfl ?_
 ·simp only [envOf, List.replicate_succ, List.replicate_zero, List.foldl_cons, List.foldl_nil, List.set_cons_zero, List.set_cons_succ, EnvW, eq_self, or_true, true_or, and_self, Int.natCast_add, Int.natCast_one, Int.natCast_zero]
 rintro ⟨i, s⟩ ⟨h1, h2, h3⟩ ih
 dsimp only at h1 h2 h3 ih ⊢
 by_cases hlt : i < l.length
 ·have hw := wrap_in ((i : Int) + 1) (by omega)
  have hge := List.getElem?_eq_getElem hlt
  rw [drop_get hlt] at h2 h3
  obtain ⟨h4, h5⟩ := h3
  have hlt' : decide ((i : Int) < (l.length : Int)) = true := decide_eq_true (by omega)
  refine ARun.go 100 ?_
  simp only [WO, seval, List.getElem?_map, hge, hlt', hw, exD_eq]
  refine callS_of h4 ?_
  rintro _ _ ⟨rfl, rfl⟩
  refine ARun.go 100 ?_
  simp only [WO, seval, hw]
  refine condS_of (fun h => ?_) (fun h => ?_)
  ·simp only [WO, seval, h]
   refine ARun.fits fun hf => ?_
   refine ARun.ret Tryz.func199 rfl (Left.fits hf (hm _ _).1 (hm _ _).2 ?_)
   have e : walkF f (l[i] :: l.drop (i + 1)) (i : Int) s = ((i : Int), (f l[i] s).2) := by simp [walkF, h]
   rw [h2, e]
   exact ⟨rfl, rfl⟩
  ·simp only [WO, seval, h, hw]
   have e : walkF f (l[i] :: l.drop (i + 1)) (i : Int) s = walkF f (l.drop (i + 1)) ((i + 1 : Nat) : Int) (f l[i] s).2 := by simp [walkF, h]
   refine ih (i + 1, (f l[i] s).2) ⟨hlt, h2.trans e, h5 h⟩ (by simp only; omega) _ _ ?_ rfl
   simp only [envOf, List.replicate_succ, List.replicate_zero, List.foldl_cons, List.foldl_nil, List.set_cons_zero, List.set_cons_succ, EnvW, eq_self, or_true, true_or, and_self, Int.natCast_add, Int.natCast_one, Int.natCast_zero]
 ·have hlt' : decide ((i : Int) < (l.length : Int)) = false := decide_eq_false (by omega)
  refine ARun.go 100 ?_
  simp only [WO, seval, hlt']
  refine ARun.fits fun hf => ?_
  refine ARun.ret Tryz.func199 rfl (Left.fits hf (hm _ _).1 (hm _ _).2 ?_)
  rw [h2, List.drop_eq_nil_of_le (by omega)]
  exact ⟨rfl, rfl⟩
theorem containsFunc_Expr {σ : Type} (g : FuncId) (first caps : List V) (mem : σ → Mem) (f : ExT → σ → Bool × σ) (hm : ∀ s s', (mem s).boxes.length = (mem s').boxes.length ∧ (mem s).toks.length = (mem s').toks.length) (l : List ExT) (hl : l.length ≤ 9223372036854775807) (s0 : σ) (hg : Good Tryz.prog TabI g first caps exV mem f l s0) :
 AFn Tryz.prog TabI 182 [.d (.sl (l.map exD)), .func g first caps] (mem s0) (Same (.d (.bool (anyF f l s0).1)) (mem (anyF f l s0).2)) := by
 obtain ⟨e1, e2⟩ := walkF_any f l 0 s0 (Int.le_refl 0)
 refine AFn.body Tryz.func182 rfl (by kernel_rfl) ?_
 refine ARun.go 100 ?_
 simp only [Tryz.f182, WO, seval]
 refine callS_fn (indexFunc_Expr g first caps mem f hm l hl s0 hg) ?_
 rintro _ _ ⟨rfl, rfl⟩
 refine ARun.go 100 ?_
 simp only [WO, seval, e1]
 refine ARun.fits fun hf => ?_
 refine ARun.ret Tryz.func182 rfl (Left.fits hf (hm _ _).1 (hm _ _).2 ?_)
 rw [e2]
 exact ⟨rfl, rfl⟩
set_option maxHeartbeats 1000000 in
theorem many_ab (k : Int) (B : List (List V)) (T : List (Nat × Nat)) : AFn Tryz.prog TabI 201 [.d (.int .i64 k)] ⟨B, T⟩ (Same (.d (.int .i64 (manyS k))) ⟨B, T⟩) := by
 refine AFn.body Tryz.func201 rfl (by kernel_rfl) ?_
 refine ARun.go 300 ?_
 simp only [Tryz.f201, WO, seval]
 repeat' ((first | refine guardB_of (fun h => ?_) (fun h => ?_) | refine condS_of (fun h => ?_) (fun h => ?_)) <;> simp only [WO, seval, h])
 all_goals
  refine ARun.ret Tryz.func201 rfl (Left.none ?_)
  first
   | (obtain rfl := of_decide_eq_true h
      exact ⟨rfl, rfl⟩)
   | (simp only [decide_eq_false_iff_not] at *
      refine ⟨?_, rfl⟩
      have : manyS k = -2 := by simp [manyS, *]
      rw [this]
      rfl)
theorem rank_no (s : List UInt8) (h : ∀ x ∈ rankT, ¬ s = x.1) : rankS s = 0 := by
 unfold rankS
 rw [List.find?_eq_none.2 fun x hx => by simpa using fun e => h x hx e.symm]
 rfl
set_option maxHeartbeats 2000000 in
theorem rank_ab (s : List UInt8) (B : List (List V)) (T : List (Nat × Nat)) : AFn Tryz.prog TabI 206 [.d (.str s)] ⟨B, T⟩ (Same (.d (.int .i64 (rankS s))) ⟨B, T⟩) := by
 refine AFn.body Tryz.func206 rfl (by kernel_rfl) ?_
 refine ARun.go 400 ?_
 simp only [Tryz.f206, WO, seval]
 repeat' ((first | refine guardB_of (fun h => ?_) (fun h => ?_) | refine condS_of (fun h => ?_) (fun h => ?_)) <;> simp only [WO, seval, h])
 all_goals
  refine ARun.ret Tryz.func206 rfl (Left.none ?_)
  first
   | (obtain rfl := of_decide_eq_true h
      exact ⟨rfl, rfl⟩)
   | (simp only [decide_eq_false_iff_not] at *
      refine ⟨?_, rfl⟩
      have : rankS s = 0 := rank_no s (by simp [rankT, *])
      rw [this]
      rfl)
theorem diffS_succ (n : Nat) (l : List (List UInt8)) (h : n < l.length) : diffS (n + 1) l = (diffS n l && identS l[n] && !(l.take n).contains l[n]) := by
 have : l.getD n [] = l[n] := by simp [List.getD, h]
 simp only [diffS, this, hasS]
set_option maxHeartbeats 1000000 in
theorem different_ab (l : List (List UInt8)) (hl : l.length ≤ 9223372036854775807) (B : List (List V)) (T : List (Nat × Nat)) : AFn Tryz.prog TabI 129 [.d (.sl (ssD l))] ⟨B, T⟩ (Same (.d (.bool (diffS l.length l))) ⟨B, T⟩) := by
 refine AFn.body Tryz.func129 rfl (by kernel_rfl) ?_
 refine ARun.go 100 ?_
 simp only [Tryz.f129, WO, seval]
 refine ARun.loopW (fun i : Nat => (envOf 23 [(0, .d (.sl (ssD l))), (5, .d (.sl (ssD l))), (6, .d (.int .i64 l.length)), (7, .d (.int .i64 i))], ⟨B, T⟩)) (fun i => i ≤ l.length ∧ diffS i l = true) (fun i => l.length - i) 0 ⟨by omega, rfl⟩ ?_ rfl ?_
 ·simp only [envOf, List.replicate_succ, List.replicate_zero, List.foldl_cons, List.foldl_nil, List.set_cons_zero, List.set_cons_succ, EnvW, eq_self, or_true, true_or, and_self, Int.natCast_add, Int.natCast_one, Int.natCast_zero]
 rintro i ⟨h1, h2⟩ ih
 by_cases hlt : i < l.length
 ·have hw := wrap_in ((i : Int) + 1) (by omega)
  have hg := List.getElem?_eq_getElem hlt
  have hs := diffS_succ i l hlt
  rw [h2, Bool.true_and] at hs
  have hle : (i : Int) ≤ (l.length : Int) := by omega
  have hlt' : decide ((i : Int) < (l.length : Int)) = true := decide_eq_true (by omega)
  refine ARun.go 100 ?_
  simp only [WO, seval, hg, hlt', hw]
  refine callS_fn (ident_ab _ _) ?_
  rintro _ _ ⟨rfl, rfl⟩
  refine ARun.go 100 ?_
  simp only [WO, seval, hw]
  cases hI : identS l[i]
  ·simp only [WO, seval, hI, Bool.not_false]
   refine ARun.ret Tryz.func129 rfl (Left.none ?_)
   have : diffS l.length l = false := diffS_no l (i + 1) (by rw [hs, hI]; rfl) _ (by omega)
   rw [this]
   exact ⟨rfl, rfl⟩
  ·simp only [WO, seval, hI, Bool.not_true, hle]
   refine callS_fn (contains_str_ab _ _ (by simp; omega) _) ?_
   rintro _ _ ⟨rfl, rfl⟩
   refine ARun.go 100 ?_
   simp only [WO, seval, hw]
   refine condS_of (fun h => ?_) (fun h => ?_)
   ·simp only [WO, seval, h]
    refine ARun.ret Tryz.func129 rfl (Left.none ?_)
    have : diffS l.length l = false := diffS_no l (i + 1) (by rw [hs, hI, h]; rfl) _ (by omega)
    rw [this]
    exact ⟨rfl, rfl⟩
   ·simp only [WO, seval, h, hw]
    refine ih (i + 1) ⟨hlt, by rw [hs, hI, h]; rfl⟩ (by omega) _ _ ?_ rfl
    simp only [envOf, List.replicate_succ, List.replicate_zero, List.foldl_cons, List.foldl_nil, List.set_cons_zero, List.set_cons_succ, EnvW, eq_self, or_true, true_or, and_self, Int.natCast_add, Int.natCast_one, Int.natCast_zero]
 ·have hlt' : decide ((i : Int) < (l.length : Int)) = false := decide_eq_false (by omega)
  refine ARun.go 100 ?_
  simp only [WO, seval, hlt']
  refine ARun.ret Tryz.func129 rfl (Left.none ?_)
  obtain rfl : i = l.length := by omega
  rw [h2]
  exact ⟨rfl, rfl⟩
theorem good_of {P : Program} {I : Inv} {α : Type} {g : FuncId} {first caps : List V} {argV : α → V} {S : Mem} {f : α → Bool} : ∀ (l : List α), (∀ x ∈ l, AFn P I g (first ++ [argV x] ++ caps) S (Same (.d (.bool (f x))) S)) → Good P I g first caps argV (fun _ : Unit => S) (fun x s => (f x, s)) l ()
 | [], _ => trivial
 | x :: l, h => ⟨h x List.mem_cons_self, fun _ => good_of l fun y hy => h y (List.mem_cons_of_mem _ hy)⟩
theorem anyF_unit {α : Type} (f : α → Bool) : ∀ l : List α, (anyF (fun x (s : Unit) => (f x, s)) l ()).1 = l.any f
 | [] => rfl
 | x :: l => by
  unfold anyF
  cases h : f x
  ·simp [h, anyF_unit f l]
  ·simp [h]
theorem headsS_all : ∀ l : List ExT, headsS l = l.all headS
 | [] => by rw [headsS]; rfl
 | x :: l => by rw [headsS, headsS_all l]; rfl
theorem any_not {α : Type} (f : α → Bool) (l : List α) : l.any (fun x => !f x) = !l.all f := by
 induction l with
 | nil => rfl
 | cons x l ih => simp [ih, Bool.not_and]
def HeadOk (x : ExT) : Prop := ∀ (B : List (List V)) (T : List (Nat × Nat)), AFn Tryz.prog TabI 185 [exV x] ⟨B, T⟩ (Same (.d (.bool (headS x))) ⟨B, T⟩)
set_option maxHeartbeats 1000000 in
theorem head1_ab (x : ExT) (h : HeadOk x) (B : List (List V)) (T : List (Nat × Nat)) : AFn Tryz.prog TabI 200 [exV x] ⟨B, T⟩ (Same (.d (.bool (!headS x))) ⟨B, T⟩) := by
 obtain ⟨N, hn⟩ : ∃ N, B.length = N := ⟨_, rfl⟩
 have h := h (B ++ [[.d (.int .i64 x.kind), .d (.str x.text), .d (.int .u64 x.int), .d (.int .i64 x.type.kind), .d (.str x.type.name), .d (.sl (x.type.elem.map tyD)), .d (.sl (ssD x.names)), .d (.sl (x.kids.map exD))]]) T
 unfold exV at h ⊢
 refine AFn.body Tryz.func200 rfl (by kernel_rfl) ?_
 refine ARun.go 100 ?_
 simp only [Tryz.f200, WO, seval, hn]
 refine callS_fn (h) ?_
 rintro _ _ ⟨rfl, rfl⟩
 refine ARun.go 100 ?_
 simp only [WO, seval, hn]
 refine ARun.ret Tryz.func200 rfl (Left.box ?_)
 exact ⟨rfl, rfl⟩
set_option maxHeartbeats 2000000 in
theorem head_step (k : Int) (t : List UInt8) (i : Int) (ty : TyT) (ns : List (List UInt8)) (ks : List ExT) (hx : ∀ x ∈ ks, HeadOk x) : HeadOk (.mk k t i ty ns ks) := by
 intro B T
 obtain ⟨N, hn⟩ : ∃ N, B.length = N := ⟨_, rfl⟩
 have hS : headS (.mk k t i ty ns ks) = (decide (k ≠ 14) && decide (k ≠ 15) && ks.all headS) := by rw [headS, headsS_all]
 simp only [exV, ExT.kind, ExT.text, ExT.int, ExT.type, ExT.names, ExT.kids]
 refine AFn.bodyS Tryz.func185 rfl (by kernel_rfl) fun hsm => ?_
 simp only [smL, sm, exV, stV, tyV, caV, paV, suV, fuV, prV, Bool.and_eq_true, decide_eq_true_eq, and_true, true_and, List.length_map, ssD_length] at hsm
 refine ARun.go 100 ?_
 simp only [Tryz.f185, WO, seval, hn]
 obtain ⟨-, -, -, -, hl⟩ := hsm
 repeat' ((first | refine guardB_of (fun h => ?_) (fun h => ?_) | refine condS_of (fun h => ?_) (fun h => ?_)) <;> simp only [WO, seval, h, hn])
 all_goals first
  | (refine ARun.ret Tryz.func185 rfl (Left.box ?_)
     rw [hS]
     (try clear ih)
     (try simp only [dnw] at *)
     simp only [fnw, seval, Same] <;> simp [*]
     skip)
  | (refine callS_fn (containsFunc_Expr 200 [] [] (fun _ : Unit => _) (fun x s => (!headS x, s)) (fun _ _ => ⟨rfl, rfl⟩) ks hl () (good_of ks fun x hm => head1_ab x (hx x hm) _ T)) ?_
     rintro _ _ ⟨rfl, rfl⟩
     rw [anyF_unit, any_not]
     refine ARun.go 100 ?_
     simp only [WO, seval, hn]
     refine ARun.ret Tryz.func185 rfl (Left.box ?_)
     rw [hS]
     (try clear ih)
     (try simp only [dnw] at *)
     simp only [fnw, seval, Same] <;> simp [*]
     skip)
mutual
theorem head_ab : ∀ x : ExT, HeadOk x
 | .mk k t i ty ns ks => head_step k t i ty ns ks (head_all ks)
theorem head_all : ∀ (ks : List ExT), ∀ x ∈ ks, HeadOk x
 | [], _, h => absurd h List.not_mem_nil
 | y :: l, x, h => by
  rcases List.mem_cons.1 h with e | e
  ·rw [e]; exact head_ab y
  ·exact head_all l x e
end
def exB (x : ExT) : List V := [.d (.int .i64 x.kind), .d (.str x.text), .d (.int .u64 x.int), .d (.int .i64 x.type.kind), .d (.str x.type.name), .d (.sl (x.type.elem.map tyD)), .d (.sl (ssD x.names)), .d (.sl (x.kids.map exD))]
theorem placeS_mk (k : Int) (t : List UInt8) (i : Int) (ty : TyT) (ns : List (List UInt8)) (ks : List ExT) : placeS (.mk k t i ty ns ks) = match ks with | [y] => if k = 9 then placeS y else decide (k = 1) | _ => decide (k = 1) := by
 rcases ks with _ | ⟨z, _ | ⟨z2, l⟩⟩ <;> simp [placeS]
set_option maxHeartbeats 2000000 in
theorem place_ab (x : ExT) (B : List (List V)) (T : List (Nat × Nat)) : AFn Tryz.prog TabI 184 [exV x] ⟨B, T⟩ (Same (.d (.bool (placeS x))) ⟨B, T⟩) := by
 obtain ⟨N, hn⟩ : ∃ N, B.length = N := ⟨_, rfl⟩
 unfold exV
 refine AFn.body Tryz.func184 rfl (by kernel_rfl) ?_
 refine ARun.go 100 ?_
 simp only [Tryz.f184, WO, seval, hn]
 refine ARun.loopW (fun y : ExT => (envOf 19 [(1, .ptr N 0)], ⟨B ++ [exB y], T⟩)) (fun y => placeS y = placeS x) (fun y => SizeOf.sizeOf y) x rfl ?_ rfl ?_
 ·simp only [envOf, List.replicate_succ, List.replicate_zero, List.foldl_cons, List.foldl_nil, List.set_cons_zero, List.set_cons_succ, EnvW, eq_self, or_true, true_or, and_self, Int.natCast_add, Int.natCast_one, Int.natCast_zero]
 rintro y hy ih
 cases y with
 | mk k t i ty ns ks =>
 have hp := placeS_mk k t i ty ns ks
 dsimp only [exB] at ih ⊢
 dsimp only [ExT.kind, ExT.text, ExT.int, ExT.type, ExT.names, ExT.kids] at ⊢
 rw [hp] at hy
 rcases ks with _ | ⟨z, _ | ⟨z2, l⟩⟩
 ·dsimp only at hy
  refine ARun.go 100 ?_
  simp only [WO, seval, hn, exD_eq]
  repeat' ((first | refine guardB_of (fun h => ?_) (fun h => ?_) | refine condS_of (fun h => ?_) (fun h => ?_)) <;> simp only [WO, seval, h, hn, exD_eq])
  all_goals
   refine ARun.ret Tryz.func184 rfl (Left.box ?_)
   rw [← hy]
   (try clear ih)
   (try simp only [dnw] at *)
   simp only [fnw, seval, Same] <;> simp [*]
   skip
 ·dsimp only at hy
  refine ARun.go 100 ?_
  simp only [WO, seval, hn, exD_eq]
  repeat' ((first | refine guardB_of (fun h => ?_) (fun h => ?_) | refine condS_of (fun h => ?_) (fun h => ?_)) <;> simp only [WO, seval, h, hn, exD_eq])
  all_goals first
   | (refine ARun.ret Tryz.func184 rfl (Left.box ?_)
      rw [← hy]
      (try clear ih)
      (try simp only [dnw] at *)
      simp only [fnw, seval, Same] <;> simp [*]
      skip)
   | (refine ih z ?_ (by simp only [ExT.mk.sizeOf_spec, List.cons.sizeOf_spec]; omega) _ _ ?_ ?_
      ·rw [← hy, if_pos (of_decide_eq_true (by assumption))]
      ·skip
       simp only [envOf, List.replicate_succ, List.replicate_zero, List.foldl_cons, List.foldl_nil, List.set_cons_zero, List.set_cons_succ, EnvW, eq_self, or_true, true_or, and_self, Int.natCast_add, Int.natCast_one, Int.natCast_zero]
       skip
      ·rfl)
 ·have hl2 : decide ((l.length : Int) + 1 + 1 = 1) = false := decide_eq_false (by omega)
  dsimp only at hy
  refine ARun.go 100 ?_
  simp only [WO, seval, hn, exD_eq, hl2]
  repeat' ((first | refine guardB_of (fun h => ?_) (fun h => ?_) | refine condS_of (fun h => ?_) (fun h => ?_)) <;> simp only [WO, seval, h, hn, exD_eq, hl2])
  all_goals
   refine ARun.ret Tryz.func184 rfl (Left.box ?_)
   rw [← hy]
   (try clear ih)
   (try simp only [dnw] at *)
   simp only [fnw, seval, Same] <;> simp [*]
   skip
def c183 := by
 have c := KK_of Tryz.f183 (by conv => lhs; cbv)
 dsimp only [KK, KxP, doO, opO, List.map_cons, List.map_nil, List.toList_toArray] at c
 exact c
theorem b183 : FnIs Tryz.prog 183 Tryz.f183 6 := ⟨Tryz.func183, by kernel_rfl⟩
def c163 := by
 have c := KK_of Tryz.f163 (by conv => lhs; cbv)
 dsimp only [KK, KxP, doO, opO, List.map_cons, List.map_nil, List.toList_toArray] at c
 exact c
theorem b163 : FnIs Tryz.prog 163 Tryz.f163 149 := ⟨Tryz.func163, by kernel_rfl⟩
set_option maxHeartbeats 1000000 in
theorem sized1_ab (x : ExT) (B : List (List V)) (T : List (Nat × Nat)) : AFn Tryz.prog TabI 183 [exV x] ⟨B, T⟩ (Same (.d (.bool (!placeS x))) ⟨B, T⟩) := by
 obtain ⟨N, hn⟩ : ∃ N, B.length = N := ⟨_, rfl⟩
 have h := place_ab x (B ++ [[.d (.int .i64 x.kind), .d (.str x.text), .d (.int .u64 x.int), .d (.int .i64 x.type.kind), .d (.str x.type.name), .d (.sl (x.type.elem.map tyD)), .d (.sl (ssD x.names)), .d (.sl (x.kids.map exD))]]) T
 unfold exV at h ⊢
 refine b183.go 100 rfl fun _ => ?_
 simp only [W, seval, c183, hn]
 refine callS_fn (h) ?_
 rintro _ _ ⟨rfl, rfl⟩
 refine ARun.go 100 ?_
 simp only [W, seval, c183, hn]
 refine ARun.ret Tryz.func183 rfl (Left.box ?_)
 (try clear ih)
 (try simp only [dnw] at *)
 simp only [fnw, seval, Same] <;> simp [*]
 skip
def stB (s : StT) : List V := [.d (.int .i64 s.kind), .d (.sl (ssD s.names)), .d (.int .i64 s.type.kind), .d (.str s.type.name), .d (.sl (s.type.elem.map tyD)), .d (.sl (s.lefts.map exD)), .d (.sl (s.exprs.map exD)), .d (.sl (s.body.map stD)), .d (.sl (s.els.map stD)), .d (.sl (s.cases.map caD))]
def headOf : List ExT → Bool | [x] => headS x | _ => false
def sevenOf : List ExT → Bool | [x] => decide (x.kind = 7) | _ => false
def nameOf : List (List UInt8) → Bool | [x] => identS x | _ => false
def sizedB (k : Int) (ns : List (List UInt8)) (ls es : List ExT) (b3 b4 b5 b6 b7 b8 : Bool) : Bool :=
 if k = 1 then decide (es.length = 0) && nameOf ns && !b5 && !b6 && !b7 && !b8
 else if k = 2 then decide (0 < ls.length) && (decide (es.length = ls.length) || sevenOf es) && ls.all placeS && (!b3 && !b4) && !b6 && !b7 && !b8
 else if k = 3 then (!b3 && !b4) && !b5 && headOf es && !b8
 else if k = 4 then (!b3 && !b4) && !b5 && headOf es && !b7 && !b8
 else if k = 5 then (!b3 && !b4) && !b5 && headOf es && !b6
 else if k = 6 then (!b3 && !b4) && !b5 && decide (0 < es.length) && !b6 && !b7 && !b8
 else false
theorem sizedS_eq (s : StT) : sizedS s = sizedB s.kind s.names s.lefts s.exprs (decide ((0 : Int) < (s.names.length : Int))) (!zeroS s.type) (decide ((0 : Int) < (s.lefts.length : Int))) (decide ((0 : Int) < (s.body.length : Int))) (decide ((0 : Int) < (s.els.length : Int))) (decide ((0 : Int) < (s.cases.length : Int))) := by
 have e (n : Nat) : (!decide ((0 : Int) < (n : Int))) = decide (n = 0) := by
  rw [Bool.eq_iff_iff, Bool.not_eq_true', decide_eq_false_iff_not, decide_eq_true_iff]; omega
 have e2 {α : Type} (l : List α) (q : Decidable (l = [])) : decide (l.length = 0) = @decide (l = []) q := decide_eq_decide.2 List.length_eq_zero_iff
 unfold sizedS sizedB
 simp only [e, Bool.not_not]
 rw [e2 s.names, e2 s.lefts]
 rfl
def lastB (k : Int) (es : List ExT) (b3 b4 b5 b6 b7 b8 b9 : Bool) : Bool :=
 (if k = 3 ∨ k = 4 ∨ k = 5 then b9 && headOf es else b9) && !b3 && !b4 && !b5 && !b6 && !b7 && !b8
set_option maxHeartbeats 4000000 in
theorem sized_ab (s : StT) (B : List (List V)) (T : List (Nat × Nat)) : AFn Tryz.prog TabI 163 [stV s] ⟨B, T⟩ (Same (.d (.bool (sizedS s))) ⟨B, T⟩) := by
 obtain ⟨N, hn⟩ : ∃ N, B.length = N := ⟨_, rfl⟩
 have hs := sizedS_eq s
 unfold stV
 refine b163.go 100 rfl fun hsm => ?_
 simp only [smw] at hsm
 simp only [W, seval, c163, hn]
 obtain ⟨-, -, -, hlf, -⟩ := hsm
 refine ARun.draw (by kernel_rfl) (by kernel_rfl) (lexQ_ok 60 _ _ ?_)
 simp only [W, seval, c163, hn]
 refine ⟨_, zero_ab s.type _ _, ?_⟩
 simp only [W, seval, c163, hn]
 generalize decide ((0 : Int) < (s.names.length : Int)) = b3 at hs ⊢
 generalize (!zeroS s.type) = b4 at hs ⊢
 generalize hb5 : decide ((0 : Int) < (s.lefts.length : Int)) = b5 at hs ⊢
 generalize decide ((0 : Int) < (s.body.length : Int)) = b6 at hs ⊢
 generalize decide ((0 : Int) < (s.els.length : Int)) = b7 at hs ⊢
 generalize decide ((0 : Int) < (s.cases.length : Int)) = b8 at hs ⊢
 generalize sizedS s = res at hs ⊢
 refine ARun.go 9 ?_
 simp only [W, seval, c163, hn]
 refine ARun.join (fun c : Bool × Bool × Bool × Bool × Bool × Bool × Bool => (envS 149 [(1, .ptr N 0), (3, .d (.bool c.1)), (4, .d (.bool c.2.1)), (5, .d (.bool c.2.2.1)), (6, .d (.bool c.2.2.2.1)), (7, .d (.bool c.2.2.2.2.1)), (8, .d (.bool c.2.2.2.2.2.1)), (9, .d (.bool c.2.2.2.2.2.2))], ⟨B ++ [stB s], T⟩)) (fun c => (s.kind = 3 ∨ s.kind = 4 ∨ s.kind = 5 → c.2.2.2.2.2.2 = decide (s.exprs.length = 1)) ∧ lastB s.kind s.exprs c.1 c.2.1 c.2.2.1 c.2.2.2.1 c.2.2.2.2.1 c.2.2.2.2.2.1 c.2.2.2.2.2.2 = res) ?_ ?_
 ·rintro ⟨c3, c4, c5, c6, c7, c8, c9⟩ ⟨hc, hr⟩
  dsimp only [stB] at hc hr ⊢
  rw [← hr]
  clear hs hr
  have hcase : (s.kind = 3 ∨ s.kind = 4 ∨ s.kind = 5) → (∃ x, s.exprs[0]? = some x ∧ c9 = true ∧ headOf s.exprs = headS x) ∨ c9 = false := by
   intro h
   rw [hc h]
   rcases s.exprs with _ | ⟨x, _ | ⟨y, l⟩⟩
   ·exact .inr rfl
   ·exact .inl ⟨x, rfl, rfl, rfl⟩
   ·exact .inr (decide_eq_false (by simp))
  clear hc
  by_cases k345 : s.kind = 3 ∨ s.kind = 4 ∨ s.kind = 5
  ·have hl : lastB s.kind s.exprs c3 c4 c5 c6 c7 c8 c9 = ((c9 && headOf s.exprs) && !c3 && !c4 && !c5 && !c6 && !c7 && !c8) := by rw [lastB, if_pos k345]
   rw [hl]
   rcases hcase k345 with ⟨x, hg, rfl, hh⟩ | rfl
   ·rw [hh]
    have hd := head_ab x
    rcases k345 with k | k | k
    all_goals
     refine ARun.go 200 ?_
     simp only [W, seval, c163, hn, k]
     simp only [W, seval, c163, hg, List.getElem?_map, exD_eq, k]
     refine callS_fn (hd _ _) ?_
     rintro _ _ ⟨rfl, rfl⟩
     generalize headS x = q
     refine ARun.go 200 ?_
     simp only [W, seval, c163, hn, k]
     repeat' ((first | refine guardB_of (fun h => ?_) (fun h => ?_) | refine condS_of (fun h => ?_) (fun h => ?_)) <;> simp only [W, seval, c163, h, hn, k])
     all_goals
      refine ARun.ret Tryz.func163 rfl (Left.box ?_)
      (try clear ih)
      (try simp only [dnw] at *)
      simp only [fnw, seval, Same] <;> simp [*]
      skip
   ·rcases k345 with k | k | k
    all_goals
     refine ARun.go 200 ?_
     simp only [W, seval, c163, hn, k]
     refine ARun.ret Tryz.func163 rfl (Left.box ?_)
     (try clear ih)
     (try simp only [dnw] at *)
     simp only [fnw, seval, Same] <;> simp [*]
     skip
  ·have hl : lastB s.kind s.exprs c3 c4 c5 c6 c7 c8 c9 = (c9 && !c3 && !c4 && !c5 && !c6 && !c7 && !c8) := by rw [lastB, if_neg k345]
   rw [hl]
   have k3 : decide (s.kind = 3) = false := decide_eq_false fun h => k345 (.inl h)
   have k4 : decide (s.kind = 4) = false := decide_eq_false fun h => k345 (.inr (.inl h))
   have k5 : decide (s.kind = 5) = false := decide_eq_false fun h => k345 (.inr (.inr h))
   refine ARun.go 200 ?_
   simp only [W, seval, c163, hn, k3, k4, k5]
   repeat' ((first | refine guardB_of (fun h => ?_) (fun h => ?_) | refine condS_of (fun h => ?_) (fun h => ?_)) <;> simp only [W, seval, c163, h, hn, k3, k4, k5])
   all_goals
    refine ARun.ret Tryz.func163 rfl (Left.box ?_)
    (try clear ih)
    (try simp only [dnw] at *)
    simp only [fnw, seval, Same] <;> simp [*]
    skip
 ·intro K' hK
  have he1 : decide ((s.exprs.length : Int) = 1) = decide (s.exprs.length = 1) := decide_eq_decide.2 (by omega)
  have he6 : decide ((0 : Int) < (s.exprs.length : Int)) = decide (0 < s.exprs.length) := decide_eq_decide.2 (by omega)
  have he0 : decide ((s.exprs.length : Int) = 0) = decide (s.exprs.length = 0) := decide_eq_decide.2 (by omega)
  have hh : (decide (s.exprs.length = 1) && headOf s.exprs) = headOf s.exprs := by rcases s.exprs with _ | ⟨x, _ | ⟨y, l⟩⟩ <;> simp [headOf]
  by_cases k1 : s.kind = 1
  ·have hz : ∀ v : Bool, lastB s.kind s.exprs false false b5 b6 b7 b8 v = (v && !b5 && !b6 && !b7 && !b8) := fun v => by simp [lastB, k1]
   have hs : res = (decide (s.exprs.length = 0) && nameOf s.names && !b5 && !b6 && !b7 && !b8) := by rw [hs, sizedB, if_pos k1]
   rcases hN : s.names with _ | ⟨x, _ | ⟨y, l⟩⟩
   all_goals
    have hl2 : ∀ n : Nat, decide ((n : Int) + 1 + 1 = 1) = false := fun n => decide_eq_false (by omega)
    rw [hN] at hs
    refine ARun.goJ 400 ?_
    simp only [W, seval, c163, hn, k1, hN, he0, hl2]
    repeat' ((first | refine guardB_of (fun h => ?_) (fun h => ?_) | refine condS_of (fun h => ?_) (fun h => ?_)) <;> simp only [W, seval, c163, h, hn, k1, hN, he0, hl2])
    all_goals first
     | (refine hK (false, false, b5, b6, b7, b8, false) ⟨fun h => absurd h (by omega), ?_⟩ _ _ ?_ ?_
        ·rw [hz, hs]
         simp only [nameOf, h, Bool.and_false, Bool.false_and]
        ·skip
         refine Agree.env _ ?_
         simp only [agw, seval]
         skip
        ·simp only [stB, k1, hN])
     | (skip
        refine callS_fn (ident_ab _ _) ?_
        rintro _ _ ⟨rfl, rfl⟩
        refine ARun.goK 200 ?_
        simp only [W, seval, c163, hn, k1, hN, he0, hl2]
        refine hK (false, false, b5, b6, b7, b8, identS x) ⟨fun h => absurd h (by omega), ?_⟩ _ _ ?_ ?_
        ·rw [hz, hs]
         simp only [nameOf, h, Bool.true_and]
        ·skip
         refine Agree.env _ ?_
         simp only [agw, seval]
         skip
        ·simp only [stB, k1, hN])
     | (refine hK (false, false, b5, b6, b7, b8, false) ⟨fun h => absurd h (by omega), ?_⟩ _ _ ?_ ?_
        ·fail
        ·skip
         refine Agree.env _ ?_
         simp only [agw, seval]
         skip
        ·simp only [stB, k1, hN])
  by_cases k2 : s.kind = 2
  ·have hz : ∀ v : Bool, lastB s.kind s.exprs b3 b4 false b6 b7 b8 v = (v && !b3 && !b4 && !b6 && !b7 && !b8) := fun v => by simp [lastB, k2]
   have hs : res = (decide (0 < s.lefts.length) && (decide (s.exprs.length = s.lefts.length) || sevenOf s.exprs) && s.lefts.all placeS && (!b3 && !b4) && !b6 && !b7 && !b8) := by rw [hs, sizedB, if_neg k1, if_pos k2]
   have hb5' : decide (0 < s.lefts.length) = b5 := hb5 ▸ decide_eq_decide.2 (by omega)
   obtain ⟨be, hbe⟩ : ∃ b, decide ((s.exprs.length : Int) = (s.lefts.length : Int)) = b := ⟨_, rfl⟩
   have hbe' : decide (s.exprs.length = s.lefts.length) = be := hbe ▸ decide_eq_decide.2 (by omega)
   obtain ⟨b7', hsv⟩ : ∃ b, sevenOf s.exprs = b := ⟨_, rfl⟩
   rw [hb5', hbe', hsv] at hs
   have hw : ∀ v : Bool, v = (b5 && (be || b7') && s.lefts.all placeS) → lastB s.kind s.exprs b3 b4 false b6 b7 b8 v = res := fun v hv => by
    rw [hz, hs, hv]
    generalize s.lefts.all placeS = q
    cases b3 <;> cases b4 <;> cases b5 <;> cases be <;> cases b7' <;> cases q <;> cases b6 <;> cases b7 <;> cases b8 <;> rfl
   clear hz hs
   have hcase : (∃ x, s.exprs[0]? = some x ∧ decide ((s.exprs.length : Int) = 1) = true ∧ decide (x.kind = 7) = b7') ∨ (decide ((s.exprs.length : Int) = 1) = false ∧ b7' = false) := by
    rw [← hsv]
    rcases s.exprs with _ | ⟨x, _ | ⟨y, l⟩⟩
    ·exact .inr ⟨by decide, rfl⟩
    ·exact .inl ⟨x, rfl, by simp, rfl⟩
    ·exact .inr ⟨decide_eq_false (by simp; omega), rfl⟩
   rcases hcase with ⟨x, hg, hg1, hg2⟩ | ⟨hg1, hg2⟩
   ·refine ARun.goJ 400 ?_
    simp only [W, seval, c163, hn, k2, hb5, hbe, hg, hg1, hg2, List.getElem?_map, exD_eq]
    repeat' ((first | refine guardB_of (fun h => ?_) (fun h => ?_) | refine condS_of (fun h => ?_) (fun h => ?_)) <;> simp only [W, seval, c163, h, hn, k2, hb5, hbe, hg, hg1, hg2, List.getElem?_map, exD_eq])
    all_goals first
     | (refine hK (b3, b4, false, b6, b7, b8, false) ⟨fun h => absurd h (by omega), hw _ (by simp [*])⟩ _ _ ?_ ?_
        ·skip
         refine Agree.env _ ?_
         simp only [agw, seval]
         skip
        ·simp only [stB, k2])
     | (refine callS_fn (containsFunc_Expr 183 [] [] (fun _ : Unit => _) (fun x s => (!placeS x, s)) (fun _ _ => ⟨rfl, rfl⟩) s.lefts hlf () (good_of s.lefts fun x hm => sized1_ab x _ T)) ?_
        rintro _ _ ⟨rfl, rfl⟩
        rw [anyF_unit, any_not]
        refine ARun.goK 200 ?_
        simp only [W, seval, c163, hn, k2, Bool.not_not]
        refine hK (b3, b4, false, b6, b7, b8, s.lefts.all placeS) ⟨fun h => absurd h (by omega), hw _ (by simp [*])⟩ _ _ ?_ ?_
        ·skip
         refine Agree.env _ ?_
         simp only [agw, seval]
         skip
        ·simp only [stB, k2])
     | fail
   ·refine ARun.goJ 400 ?_
    simp only [W, seval, c163, hn, k2, hb5, hbe, hg1]
    repeat' ((first | refine guardB_of (fun h => ?_) (fun h => ?_) | refine condS_of (fun h => ?_) (fun h => ?_)) <;> simp only [W, seval, c163, h, hn, k2, hb5, hbe, hg1])
    all_goals first
     | (refine hK (b3, b4, false, b6, b7, b8, false) ⟨fun h => absurd h (by omega), hw _ (by simp [*])⟩ _ _ ?_ ?_
        ·skip
         refine Agree.env _ ?_
         simp only [agw, seval]
         skip
        ·simp only [stB, k2])
     | (refine callS_fn (containsFunc_Expr 183 [] [] (fun _ : Unit => _) (fun x s => (!placeS x, s)) (fun _ _ => ⟨rfl, rfl⟩) s.lefts hlf () (good_of s.lefts fun x hm => sized1_ab x _ T)) ?_
        rintro _ _ ⟨rfl, rfl⟩
        rw [anyF_unit, any_not]
        refine ARun.goK 200 ?_
        simp only [W, seval, c163, hn, k2, Bool.not_not]
        refine hK (b3, b4, false, b6, b7, b8, s.lefts.all placeS) ⟨fun h => absurd h (by omega), hw _ (by simp [*])⟩ _ _ ?_ ?_
        ·skip
         refine Agree.env _ ?_
         simp only [agw, seval]
         skip
        ·simp only [stB, k2])
     | fail
  by_cases k3 : s.kind = 3
  ·have hs : res = ((!b3 && !b4) && !b5 && headOf s.exprs && !b8) := by rw [hs, sizedB, if_neg k1, if_neg k2, if_pos k3]
   refine ARun.goJ 400 ?_
   simp only [W, seval, c163, hn, k3, he1]
   refine hK (b3, b4, b5, false, false, b8, decide (s.exprs.length = 1)) ⟨fun _ => rfl, ?_⟩ _ _ ?_ ?_
   ·rw [hs, lastB, if_pos (.inl k3), hh]
    generalize headOf s.exprs = hd
    cases b3 <;> cases b4 <;> cases b5 <;> cases b8 <;> cases hd <;> rfl
   ·skip
    refine Agree.env _ ?_
    simp only [agw, seval]
    skip
   ·simp only [stB, k3]
  by_cases k4 : s.kind = 4
  ·have hs : res = ((!b3 && !b4) && !b5 && headOf s.exprs && !b7 && !b8) := by rw [hs, sizedB, if_neg k1, if_neg k2, if_neg k3, if_pos k4]
   refine ARun.goJ 400 ?_
   simp only [W, seval, c163, hn, k4, he1]
   refine hK (b3, b4, b5, false, b7, b8, decide (s.exprs.length = 1)) ⟨fun _ => rfl, ?_⟩ _ _ ?_ ?_
   ·rw [hs, lastB, if_pos (.inr (.inl k4)), hh]
    generalize headOf s.exprs = hd
    cases b3 <;> cases b4 <;> cases b5 <;> cases b7 <;> cases b8 <;> cases hd <;> rfl
   ·skip
    refine Agree.env _ ?_
    simp only [agw, seval]
    skip
   ·simp only [stB, k4]
  by_cases k5 : s.kind = 5
  ·have hs : res = ((!b3 && !b4) && !b5 && headOf s.exprs && !b6) := by rw [hs, sizedB, if_neg k1, if_neg k2, if_neg k3, if_neg k4, if_pos k5]
   refine ARun.goJ 400 ?_
   simp only [W, seval, c163, hn, k5, he1]
   refine hK (b3, b4, b5, b6, false, false, decide (s.exprs.length = 1)) ⟨fun _ => rfl, ?_⟩ _ _ ?_ ?_
   ·rw [hs, lastB, if_pos (.inr (.inr k5)), hh]
    generalize headOf s.exprs = hd
    cases b3 <;> cases b4 <;> cases b5 <;> cases b6 <;> cases hd <;> rfl
   ·skip
    refine Agree.env _ ?_
    simp only [agw, seval]
    skip
   ·simp only [stB, k5]
  by_cases k6 : s.kind = 6
  ·have hs : res = ((!b3 && !b4) && !b5 && decide (0 < s.exprs.length) && !b6 && !b7 && !b8) := by rw [hs, sizedB, if_neg k1, if_neg k2, if_neg k3, if_neg k4, if_neg k5, if_pos k6]
   refine ARun.goJ 400 ?_
   simp only [W, seval, c163, hn, k6, he6]
   refine hK (b3, b4, b5, b6, b7, b8, decide (0 < s.exprs.length)) ⟨fun h => absurd h (by omega), ?_⟩ _ _ ?_ ?_
   ·rw [hs, lastB, if_neg (by omega)]
    generalize decide (0 < s.exprs.length) = hd
    cases b3 <;> cases b4 <;> cases b5 <;> cases b6 <;> cases b7 <;> cases b8 <;> cases hd <;> rfl
   ·skip
    refine Agree.env _ ?_
    simp only [agw, seval]
    skip
   ·simp only [stB, k6]
  have hs : res = false := by rw [hs, sizedB, if_neg k1, if_neg k2, if_neg k3, if_neg k4, if_neg k5, if_neg k6]
  have e1 := decide_eq_false k1
  have e2 := decide_eq_false k2
  have e3 := decide_eq_false k3
  have e4 := decide_eq_false k4
  have e5 := decide_eq_false k5
  have e6 := decide_eq_false k6
  refine ARun.goJ 400 ?_
  simp only [W, seval, c163, hn, e1, e2, e3, e4, e5, e6]
  refine ARun.ret Tryz.func163 rfl (Left.box ?_)
  rw [hs]
  (try clear ih)
  (try simp only [dnw] at *)
  simp only [fnw, seval, Same] <;> simp [*]
  skip
set_option maxHeartbeats 1000000 in
theorem typ_ab0 (k : Int) (n : List UInt8) (es : List TyT) (he : es.length ≠ 1) (c : Nat) (d p : Int) (B : List (List V)) (T : List (Nat × Nat)) (h : B[c]? = some [.d (.int .i64 p)]) (hp : 0 ≤ p ∧ p ≤ 60000) :
 AFn Tryz.prog TabI 94 [.ptr c 0, tyV (.mk k n es), .d (.int .i64 d)] ⟨B, T⟩ (Same (.d (.bool (tyS identS (.mk k n es) d p).1)) ⟨B.set c [.d (.int .i64 (tyS identS (.mk k n es) d p).2)], T⟩) := by
 obtain ⟨N, hn⟩ : ∃ N, B.length = N := ⟨_, rfl⟩
 have hc := (List.getElem?_eq_some_iff.1 h).1
 have hi : c < N := by omega
 have he' : decide ((es.length : Int) = 1) = false := decide_eq_false (by omega)
 have hr := tyRest_no identS k n d p es (.inr he)
 have hne : es ≠ [] ∨ es = [] := by by_cases h : es = [] <;> simp [h]
 simp only [tyV, TyT.kind, TyT.name, TyT.elem]
 refine AFn.body Tryz.func94 rfl (by kernel_rfl) ?_
 refine ARun.go 200 ?_
 simp only [Tryz.f94, WO, seval, hn, hi]
 refine callS_fn (part_ab c d p _ _ (by rw [bx_old hc]; exact h) hp) ?_
 rintro _ _ ⟨rfl, rfl⟩
 refine ARun.go 200 ?_
 simp only [WO, seval, hn, hi, he']
 cases hk : partOk d p
 ·simp only [WO, seval, hn, hi, hk, Bool.not_false]
  refine ARun.ret Tryz.func94 rfl (Left.set (by rfl) ?_)
  have hS : tyS identS (.mk k n es) d p = (false, p + 1) := by unfold tyS; rw [if_pos hk]
  rw [hS]
  exact ⟨rfl, rfl⟩
 ·have hS := tyS_go identS k n es d p (by rw [hk]; decide)
  rw [hr] at hS
  rw [hS]
  simp only [WO, seval, hn, hi, hk, Bool.not_true, he']
  repeat' ((first | refine guardB_of (fun h => ?_) (fun h => ?_) | refine condS_of (fun h => ?_) (fun h => ?_)) <;> simp only [WO, seval, h, hn, hi, he'])
  all_goals first
   | (refine ARun.ret Tryz.func94 rfl (Left.set (by rfl) ?_)
      (try clear ih)
      (try simp only [dnw] at *)
      simp only [fnw, seval, Same] <;> simp [*]
      skip)
   | (skip
      refine callS_fn (ident_ab n _) ?_
      rintro _ _ ⟨rfl, rfl⟩
      refine ARun.go 200 ?_
      simp only [WO, seval, hn, hi]
      repeat' ((first | refine guardB_of (fun h => ?_) (fun h => ?_) | refine condS_of (fun h => ?_) (fun h => ?_)) <;> simp only [WO, seval, h, hn, hi])
      all_goals
       refine ARun.ret Tryz.func94 rfl (Left.set (by rfl) ?_)
       (try clear ih)
       (try simp only [dnw] at *)
       simp only [fnw, seval, Same] <;> simp [*]
       skip)
set_option maxHeartbeats 2000000 in
theorem typ_ab : ∀ (t : TyT) (c : Nat) (d p : Int) (B : List (List V)) (T : List (Nat × Nat)), B[c]? = some [.d (.int .i64 p)] → 0 ≤ p ∧ p ≤ 60000 → 0 ≤ d ∧ d ≤ 61 →
 AFn Tryz.prog TabI 94 [.ptr c 0, tyV t, .d (.int .i64 d)] ⟨B, T⟩ (Same (.d (.bool (tyS identS t d p).1)) ⟨B.set c [.d (.int .i64 (tyS identS t d p).2)], T⟩)
 | .mk k n [], c, d, p, B, T, h, hp, hd => typ_ab0 k n [] (by simp) c d p B T h hp
 | .mk k n (e :: e2 :: es), c, d, p, B, T, h, hp, hd => typ_ab0 k n _ (by simp) c d p B T h hp
 | .mk k n [e], c, d, p, B, T, h, hp, hd => by
  obtain ⟨N, hn⟩ : ∃ N, B.length = N := ⟨_, rfl⟩
  have hc := (List.getElem?_eq_some_iff.1 h).1
  have hi : c < N := by omega
  have hw := wrap_in (d + 1) (by omega)
  have ih := typ_ab e c (d + 1) (p + 1)
  simp only [tyV, TyT.kind, TyT.name, TyT.elem]
  refine AFn.body Tryz.func94 rfl (by kernel_rfl) ?_
  refine ARun.go 200 ?_
  simp only [Tryz.f94, WO, seval, hn, hi, tyD_eq]
  refine callS_fn (part_ab c d p _ _ (by rw [bx_old hc]; exact h) hp) ?_
  rintro _ _ ⟨rfl, rfl⟩
  refine ARun.go 200 ?_
  simp only [WO, seval, hn, hi, hw, tyD_eq]
  cases hk : partOk d p
  ·simp only [WO, seval, hn, hi, hk, Bool.not_false]
   refine ARun.ret Tryz.func94 rfl (Left.set (by rfl) ?_)
   have hS : tyS identS (.mk k n [e]) d p = (false, p + 1) := by unfold tyS; rw [if_pos hk]
   rw [hS]
   exact ⟨rfl, rfl⟩
  ·have hS := tyS_go identS k n [e] d p (by rw [hk]; decide)
   have hpo : p + 1 ≤ 60000 ∧ d ≤ 60 := by
    unfold partOk at hk
    rw [Bool.and_eq_true, decide_eq_true_iff, decide_eq_true_iff] at hk
    exact hk
   simp only [tyRest] at hS
   rw [hS]
   simp only [WO, seval, hn, hi, hk, Bool.not_true, hw, tyD_eq]
   repeat' ((first | refine guardB_of (fun h => ?_) (fun h => ?_) | refine condS_of (fun h => ?_) (fun h => ?_)) <;> simp only [WO, seval, h, hn, hi, hw, tyD_eq])
   all_goals first
    | (refine ARun.ret Tryz.func94 rfl (Left.set (by rfl) ?_)
       (try clear ih)
       (try simp only [dnw] at *)
       simp only [fnw, seval, Same] <;> simp [*]
       skip)
    | (skip
       refine callS_fn (ident_ab n _) ?_
       rintro _ _ ⟨rfl, rfl⟩
       refine ARun.go 200 ?_
       simp only [WO, seval, hn, hi]
       repeat' ((first | refine guardB_of (fun h => ?_) (fun h => ?_) | refine condS_of (fun h => ?_) (fun h => ?_)) <;> simp only [WO, seval, h, hn, hi])
       all_goals
        refine ARun.ret Tryz.func94 rfl (Left.set (by rfl) ?_)
        (try clear ih)
        (try simp only [dnw] at *)
        simp only [fnw, seval, Same] <;> simp [*]
        skip)
    | (skip
       refine callS_fn (ih _ T ?_ (by omega) (by omega)) ?_
       ·rw [bx_old (by simp; omega)]; exact bx_get hc
       rintro _ _ ⟨rfl, rfl⟩
       refine ARun.go 200 ?_
       simp only [WO, seval, hn, hi]
       repeat' ((first | refine guardB_of (fun h => ?_) (fun h => ?_) | refine condS_of (fun h => ?_) (fun h => ?_)) <;> simp only [WO, seval, h, hn, hi])
       all_goals
        refine ARun.ret Tryz.func94 rfl (Left.set (by rfl) ?_)
        (try clear ih)
        (try simp only [dnw] at *)
        simp only [fnw, seval, Same] <;> simp [*]
        skip)
set_option maxHeartbeats 4000000 in
theorem bare_ab (x : ExT) (c : Nat) (d p : Int) (B : List (List V)) (T : List (Nat × Nat)) (hB : B[c]? = some [.d (.int .i64 p)]) (hp : 0 ≤ p ∧ p ≤ 60000) (hd : 0 ≤ d ∧ d ≤ 60) :
 AFn Tryz.prog TabI 202 [.ptr c 0, exV x, .d (.int .i64 d)] ⟨B, T⟩ (Same (.d (.bool (bareS x d p).1)) ⟨B.set c [.d (.int .i64 (bareS x d p).2)], T⟩) := by
 obtain ⟨N, hn⟩ : ∃ N, B.length = N := ⟨_, rfl⟩
 have hc := (List.getElem?_eq_some_iff.1 hB).1
 have hi : c < N := by omega
 have hw := wrap_in (d + 1) (by omega)
 cases x with
 | mk k t i ty ns ks =>
 simp only [exV, ExT.kind, ExT.text, ExT.int, ExT.type, ExT.names, ExT.kids]
 refine AFn.bodyS Tryz.func202 rfl (by kernel_rfl) fun hsm => ?_
 simp only [smL, sm, exV, stV, tyV, caV, paV, suV, fuV, prV, Bool.and_eq_true, decide_eq_true_eq, and_true, true_and, List.length_map, ssD_length] at hsm
 refine ARun.go 200 ?_
 simp only [Tryz.f202, WO, seval, hn, hi]
 obtain ⟨bn, hz2⟩ : ∃ b, ∀ q : Decidable (0 < ns.length), @decide (0 < ns.length) q = b := ⟨decide (0 < ns.length), fun _ => decide_eq_decide.2 Iff.rfl⟩
 have hz : decide ((0 : Int) < (ns.length : Int)) = bn := (decide_eq_decide.2 (by omega)).trans (hz2 inferInstance)
 obtain ⟨-, -, -, hs4, -⟩ := hsm
 obtain ⟨bl, hz3⟩ : ∃ b, ∀ q : Decidable (ns.length = ks.length), @decide (ns.length = ks.length) q = b := ⟨decide (ns.length = ks.length), fun _ => decide_eq_decide.2 Iff.rfl⟩
 have hz4 : decide ((ns.length : Int) = (ks.length : Int)) = bl := (decide_eq_decide.2 (by omega)).trans (hz3 inferInstance)
 refine ARun.draw (by kernel_rfl) (by kernel_rfl) (lexQ_ok 60 _ _ ?_)
 simp only [WO, seval, hn, hi, hz]
 refine ⟨_, zero_ab ty _ _, ?_⟩
 simp only [WO, seval, hn, hi, hz]
 have hbs : B.set c [.d (.int .i64 p)] = B := by
  obtain ⟨_, h⟩ := List.getElem?_eq_some_iff.1 hB
  rw [← h, List.set_getElem_self]
 refine ARun.go 400 ?_
 simp only [WO, seval, hn, hi, hw, hz]
 repeat' ((first | refine guardB_of (fun h => ?_) (fun h => ?_) | refine condS_of (fun h => ?_) (fun h => ?_)) <;> simp only [WO, seval, h, hn, hi, hw])
 all_goals first
  | (skip
     refine callS_fn (ident_ab _ _) ?_
     rintro _ _ ⟨rfl, rfl⟩
     refine ARun.go 200 ?_
     simp only [WO, seval, hn, hi]
     repeat' ((first | refine guardB_of (fun h => ?_) (fun h => ?_) | refine condS_of (fun h => ?_) (fun h => ?_)) <;> simp only [WO, seval, h, hn, hi])
     all_goals
      refine ARun.ret Tryz.func202 rfl (Left.box ?_)
      simp only [bareS, bareT, ExT.kind, ExT.text, ExT.int, ExT.type, ExT.names, ExT.kids, hz2]
      (try clear ih)
      (try simp only [dnw] at *)
      simp only [fnw, seval, Same] <;> simp [*]
      (try exact (hz2 _).symm)
      skip)
  | (skip
     refine callS_fn (rank_ab _ _ _) ?_
     rintro _ _ ⟨rfl, rfl⟩
     refine ARun.go 200 ?_
     simp only [WO, seval, hn, hi]
     repeat' ((first | refine guardB_of (fun h => ?_) (fun h => ?_) | refine condS_of (fun h => ?_) (fun h => ?_)) <;> simp only [WO, seval, h, hn, hi])
     all_goals
      refine ARun.ret Tryz.func202 rfl (Left.box ?_)
      simp only [bareS, bareT, ExT.kind, ExT.text, ExT.int, ExT.type, ExT.names, ExT.kids, hz2]
      (try clear ih)
      (try simp only [dnw] at *)
      simp only [fnw, seval, Same] <;> simp [*]
      (try exact (hz2 _).symm)
      skip)
  | (skip
     refine ARun.draw (by kernel_rfl) (by kernel_rfl) (lexQ_ok 60 _ _ ?_)
     simp only [WO, seval, hn, hi]
     refine ARun.go 200 ?_
     simp only [WO, seval, hn, hi]
     repeat' ((first | refine guardB_of (fun h => ?_) (fun h => ?_) | refine condS_of (fun h => ?_) (fun h => ?_)) <;> simp only [WO, seval, h, hn, hi])
     all_goals
      refine ARun.ret Tryz.func202 rfl (Left.box ?_)
      simp only [bareS, bareT, ExT.kind, ExT.text, ExT.int, ExT.type, ExT.names, ExT.kids, hz2]
      (try clear ih)
      (try simp only [dnw] at *)
      simp only [fnw, seval, Same] <;> simp [*]
      (try exact (hz2 _).symm)
      skip)
  | (refine ARun.ret Tryz.func202 rfl (Left.box ?_)
     simp only [bareS, bareT, ExT.kind, ExT.text, ExT.int, ExT.type, ExT.names, ExT.kids, hz2]
     (try clear ih)
     (try simp only [dnw] at *)
     simp only [fnw, seval, Same] <;> simp [*]
     (try exact (hz2 _).symm)
     skip)
  | (refine callS_fn (typ_ab ty c (d + 1) p _ T (by rw [bx_old (by omega)]; exact hB) hp (by omega)) ?_
     rintro _ _ ⟨rfl, rfl⟩
     obtain ⟨⟨b, q⟩, hty⟩ : ∃ r, tyS identS ty (d + 1) p = r := ⟨_, rfl⟩
     simp only [WO, seval, hty]
     refine ARun.go 300 ?_
     simp only [WO, seval, hn, hi, hz4]
     repeat' ((first | refine guardB_of (fun h => ?_) (fun h => ?_) | refine condS_of (fun h => ?_) (fun h => ?_)) <;> simp only [WO, seval, h, hn, hi, hz4])
     all_goals first
      | (refine ARun.ret Tryz.func202 rfl (Left.set (by rfl) ?_)
         simp only [bareS, bareT, ExT.kind, ExT.text, ExT.int, ExT.type, ExT.names, ExT.kids, hz2, hz3, hty]
         (try clear ih)
         (try simp only [dnw] at *)
         simp only [fnw, seval, Same] <;> simp [*]
         (try exact (hz2 _).symm)
         (try (intro e; have e2 := (hz3 _).symm.trans e; simp_all))
         skip)
      | (skip
         refine callS_fn (different_ab ns hs4 _ _) ?_
         rintro _ _ ⟨rfl, rfl⟩
         refine ARun.go 300 ?_
         simp only [WO, seval, hn, hi, hz4]
         repeat' ((first | refine guardB_of (fun h => ?_) (fun h => ?_) | refine condS_of (fun h => ?_) (fun h => ?_)) <;> simp only [WO, seval, h, hn, hi, hz4])
         all_goals
          refine ARun.ret Tryz.func202 rfl (Left.set (by rfl) ?_)
          simp only [bareS, bareT, ExT.kind, ExT.text, ExT.int, ExT.type, ExT.names, ExT.kids, hz2, hz3, hty]
          (try clear ih)
          (try simp only [dnw] at *)
          simp only [fnw, seval, Same] <;> simp [*]
          (try exact (hz2 _).symm)
          (try exact (hz3 _).trans (by assumption))
          (try (intro e; have e2 := (hz3 _).symm.trans e; simp_all))
          skip))
def ExprOk (x : ExT) : Prop := ∀ (c : Nat) (d p : Int) (B : List (List V)) (T : List (Nat × Nat)), B[c]? = some [.d (.int .i64 p)] → 0 ≤ p ∧ p ≤ 60000 → 0 ≤ d ∧ d ≤ 61 →
 AFn Tryz.prog TabI 186 [.ptr c 0, exV x, .d (.int .i64 d)] ⟨B, T⟩ (Same (.d (.bool (exS x d p).1)) ⟨B.set c [.d (.int .i64 (exS x d p).2)], T⟩)
set_option maxHeartbeats 2000000 in
theorem exprs_ab (l : List ExT) (hx : ∀ x ∈ l, ExprOk x) (c : Nat) (d m p : Int) (B : List (List V)) (T : List (Nat × Nat)) (hB : B[c]? = some [.d (.int .i64 p)]) (hp : 0 ≤ p ∧ p ≤ 60000) (hd : 0 ≤ d ∧ d ≤ 61) :
 AFn Tryz.prog TabI 165 [.ptr c 0, .d (.sl (l.map exD)), .d (.int .i64 d), .d (.int .i64 m)] ⟨B, T⟩ (Same (.d (.bool ((exsS l d p).1 && decide ((l.length : Int) ≤ m)))) ⟨B.set c [.d (.int .i64 (exsS l d p).2)], T⟩) := by
 obtain ⟨N, hn⟩ : ∃ N, B.length = N := ⟨_, rfl⟩
 have hc := (List.getElem?_eq_some_iff.1 hB).1
 have hi : c < N := by omega
 have hbs : B.set c [.d (.int .i64 p)] = B := by
  obtain ⟨_, h⟩ := List.getElem?_eq_some_iff.1 hB
  rw [← h, List.set_getElem_self]
 refine AFn.bodyS Tryz.func165 rfl (by kernel_rfl) fun hsm => ?_
 simp only [smL, sm, exV, stV, tyV, caV, paV, suV, fuV, prV, Bool.and_eq_true, decide_eq_true_eq, and_true, true_and, List.length_map, ssD_length] at hsm
 refine ARun.go 100 ?_
 simp only [Tryz.f165, WO, seval, hn, hi]
 refine ARun.fits fun hf => ?_
 refine ARun.loopB (fun a : Nat × Int => (envOf 30 [(0, .ptr c 0), (1, .d (.sl (l.map exD))), (2, .d (.int .i64 d)), (3, .d (.int .i64 m)), (8, .d (.bool false)), (9, .func 186 [.ptr c 0] []), (14, .d (.sl (l.map exD))), (15, .d (.int .i64 l.length)), (16, .d (.int .i64 a.1))], ⟨B.set c [.d (.int .i64 a.2)], T⟩)) (fun a => a.1 ≤ l.length ∧ (0 ≤ a.2 ∧ a.2 ≤ 60000) ∧ exsS l d p = exsS (l.drop a.1) d a.2) (fun a => l.length - a.1) (0, p) ⟨by omega, hp, rfl⟩ ?_ (by rw [hbs]) ?_
 ·simp only [envOf, List.replicate_succ, List.replicate_zero, List.foldl_cons, List.foldl_nil, List.set_cons_zero, List.set_cons_succ, EnvW, eq_self, or_true, true_or, and_self, Int.natCast_add, Int.natCast_one, Int.natCast_zero]
 rintro ⟨i, q⟩ ⟨h1, h2, h3⟩ ih
 dsimp only at h1 h2 h3 ih ⊢
 by_cases hlt : i < l.length
 ·have hw := wrap_in ((i : Int) + 1) (by omega)
  have hg := List.getElem?_eq_getElem hlt
  rw [exsS_step l i hlt] at h3
  have hlt' : decide ((i : Int) < (l.length : Int)) = true := decide_eq_true (by omega)
  refine ARun.go 100 ?_
  simp only [WO, seval, hn, hi, List.getElem?_map, hg, hlt', exD_eq]
  refine callS_of (hx l[i] (List.getElem_mem hlt) c d q _ T (by rw [bx_old (by simp; omega)]; exact bx_get hc) h2 hd) ?_
  rintro _ _ ⟨rfl, rfl⟩
  have hok := exS_ok l[i] d q
  obtain ⟨⟨b, r⟩, he⟩ : ∃ r, exS l[i] d q = r := ⟨_, rfl⟩
  rw [he] at h3 hok
  dsimp only at hok
  refine ARun.go 100 ?_
  simp only [WO, seval, hn, hi, he]
  cases b
  ·simp only [WO, seval, hn, hi]
   refine ARun.ret Tryz.func165 rfl (Left.set (by rfl) ?_)
   rw [h3, if_pos rfl]
   exact ⟨rfl, rfl⟩
  ·have hok := hok rfl
   simp only [WO, seval, hn, hi, hw]
   refine ih (i + 1, r) ⟨hlt, by dsimp only; omega, by rw [h3]; rfl⟩ (by dsimp only; omega) _ _ _ _ rfl ⟨by simp; omega, Nat.le_refl _⟩ (hf.set rfl) ?_
   simp only [envOf, List.replicate_succ, List.replicate_zero, List.foldl_cons, List.foldl_nil, List.set_cons_zero, List.set_cons_succ, EnvLe, fit, fitL, eq_self, or_true, true_or, and_self, true_and, and_true, Bool.and_true, Bool.true_and, Bool.and_self, decide_true, List.length_set, Int.natCast_add, Int.natCast_one, Int.natCast_zero, hn, hi]
 ·have hlt' : decide ((i : Int) < (l.length : Int)) = false := decide_eq_false (by omega)
  refine ARun.go 100 ?_
  simp only [WO, seval, hlt']
  refine ARun.ret Tryz.func165 rfl (Left.set0 rfl ?_)
  rw [List.drop_eq_nil_of_le (by omega), exsS] at h3
  rw [h3]
  exact ⟨rfl, rfl⟩
theorem partOk_in {d p : Int} (h : partOk d p = true) : p + 1 ≤ 60000 ∧ d ≤ 60 := by
 unfold partOk at h
 rw [Bool.and_eq_true, decide_eq_true_iff, decide_eq_true_iff] at h
 exact h
set_option maxHeartbeats 4000000 in
theorem expr_step (k : Int) (t : List UInt8) (i : Int) (ty : TyT) (ns : List (List UInt8)) (ks : List ExT) (hx : ∀ x ∈ ks, ExprOk x) : ExprOk (.mk k t i ty ns ks) := by
 intro c d p B T hB hp hd
 obtain ⟨N, hn⟩ : ∃ N, B.length = N := ⟨_, rfl⟩
 have hc := (List.getElem?_eq_some_iff.1 hB).1
 have hi : c < N := by omega
 have hw := wrap_in (d + 1) (by omega)
 obtain ⟨mo, hmo⟩ : ∃ m, manyS k = m := ⟨_, rfl⟩
 have hS : exS (.mk k t i ty ns ks) d p = if partOk d p = false then (false, p + 1)
  else if mostS k < (ks.length : Int) ∨ mo = -2 ∨ (0 ≤ mo ∧ (ks.length : Int) ≠ mo) then (false, p + 1)
  else if (bareS (.mk k t i ty ns ks) d (p + 1)).1 = false then (false, (bareS (.mk k t i ty ns ks) d (p + 1)).2)
  else exsS ks (d + 1) (bareS (.mk k t i ty ns ks) d (p + 1)).2 := by rw [exS, hmo]
 have hpart := part_ab c d p (B ++ [[.d (.int .i64 k), .d (.str t), .d (.int .u64 i), .d (.int .i64 ty.kind), .d (.str ty.name), .d (.sl (ty.elem.map tyD)), .d (.sl (ssD ns)), .d (.sl (ks.map exD))]]) T (by rw [bx_old hc]; exact hB) hp
 have hbare := bare_ab (.mk k t i ty ns ks) c d (p + 1)
 simp only [exV, ExT.kind, ExT.text, ExT.int, ExT.type, ExT.names, ExT.kids] at hbare ⊢
 refine AFn.body Tryz.func186 rfl (by kernel_rfl) ?_
 refine ARun.go 100 ?_
 simp only [Tryz.f186, WO, seval, hn, hi]
 refine callS_fn (many_ab k _ _) ?_
 rintro _ _ ⟨rfl, rfl⟩
 refine ARun.go 100 ?_
 simp only [WO, seval, hn, hi, hmo]
 refine condS_of (fun h15 => ?_) (fun h15 => ?_)
 all_goals
  have hmost : mostS k = if k = 15 then 30000 else 40 := rfl
  simp only [WO, seval, h15, hn, hi, hmo]
  refine callS_fn hpart ?_
  rintro _ _ ⟨rfl, rfl⟩
  first
   | have hm : mostS k = 30000 := if_pos (of_decide_eq_true h15)
   | have hm : mostS k = 40 := if_neg (of_decide_eq_false h15)
  cases hk : partOk d p
  ·rw [if_pos hk] at hS
   refine ARun.go 200 ?_
   simp only [WO, seval, hn, hi, hmo, hw, hk]
   refine ARun.ret Tryz.func186 rfl (Left.set (by rfl) ?_)
   rw [hS]
   exact ⟨rfl, rfl⟩
  ·rw [if_neg (by rw [hk]; decide), hm] at hS
   have hpo := partOk_in hk
   have hbare := hbare (B.set c [.d (.int .i64 (p + 1))] ++ [[.d (.int .i64 k), .d (.str t), .d (.int .u64 i), .d (.int .i64 ty.kind), .d (.str ty.name), .d (.sl (ty.elem.map tyD)), .d (.sl (ssD ns)), .d (.sl (ks.map exD))]]) T (by rw [bx_old (by simp; omega)]; exact bx_get hc) ⟨by omega, by omega⟩ ⟨by omega, by omega⟩
   have hbo := bareS_ok (.mk k t i ty ns ks) d (p + 1) hpo.1
   obtain ⟨⟨bb, bq⟩, hb⟩ : ∃ r, bareS (.mk k t i ty ns ks) d (p + 1) = r := ⟨_, rfl⟩
   rw [hb] at hbare hS hbo
   dsimp only at hbo
   refine ARun.go 200 ?_
   simp only [WO, seval, hn, hi, hmo, hw, hk]
   repeat' ((first | refine guardB_of (fun h => ?_) (fun h => ?_) | refine condS_of (fun h => ?_) (fun h => ?_)) <;> simp only [WO, seval, h, hn, hi, hmo, hw])
   all_goals first
    | (refine ARun.ret Tryz.func186 rfl (Left.set (by rfl) ?_)
       rw [hS]
       clear hS hbare
       (try clear ih)
       (try simp only [dnw] at *)
       simp only [fnw, seval, Same] <;> simp [*]
       skip)
    | (rw [if_neg (by (simp only [decide_eq_true_eq, decide_eq_false_iff_not, Bool.not_eq_false', Bool.not_eq_true'] at *); omega)] at hS
       refine callS_fn hbare ?_
       rintro _ _ ⟨rfl, rfl⟩
       refine ARun.go 200 ?_
       simp only [WO, seval, hn, hi, hmo, hw]
       cases bb
       ·simp only [WO, seval, hn, hi, hmo, hw]
        refine ARun.ret Tryz.func186 rfl (Left.set (by rfl) ?_)
        rw [hS, if_pos rfl]
        exact ⟨rfl, rfl⟩
       ·have hbo := hbo rfl
        simp only [WO, seval, hn, hi, hmo, hw]
        refine callS_fn (exprs_ab ks hx c (d + 1) _ bq _ T (by rw [bx_old (by simp; omega)]; exact bx_get hc) (by omega) (by omega)) ?_
        rintro _ _ ⟨rfl, rfl⟩
        refine ARun.go 200 ?_
        simp only [WO, seval, hn, hi, hmo, hw]
        refine ARun.ret Tryz.func186 rfl (Left.set (by rfl) ?_)
        rw [hS, if_neg (by simp)]
        refine ⟨?_, rfl⟩
        have hlen : ∀ m : Int, decide (m < (ks.length : Int)) = false → decide ((ks.length : Int) ≤ m) = true := fun m h => decide_eq_true (by have := of_decide_eq_false h; omega)
        have hl1 := hlen _ (by assumption)
        show V.d (D.bool ((exsS ks (d + 1) bq).1 && decide _)) = _
        rw [hl1, Bool.and_true])
mutual
theorem expr_ab : ∀ x : ExT, ExprOk x
 | .mk k t i ty ns ks => expr_step k t i ty ns ks (expr_all ks)
theorem expr_all : ∀ (ks : List ExT), ∀ x ∈ ks, ExprOk x
 | [], _, h => absurd h List.not_mem_nil
 | y :: l, x, h => by
  rcases List.mem_cons.1 h with e | e
  ·rw [e]; exact expr_ab y
  ·exact expr_all l x e
end
def c131 := by
 have c := KK_of Tryz.f131 (by conv => lhs; cbv)
 dsimp only [KK, KxP, doO, opO, List.map_cons, List.map_nil, List.toList_toArray] at c
 exact c
theorem b131 : FnIs Tryz.prog 131 Tryz.f131 10 := ⟨Tryz.func131, by kernel_rfl⟩
def c95 := by
 have c := KK_of Tryz.f95 (by conv => lhs; cbv)
 dsimp only [KK, KxP, doO, opO, List.map_cons, List.map_nil, List.toList_toArray] at c
 exact c
theorem b95 : FnIs Tryz.prog 95 Tryz.f95 11 := ⟨Tryz.func95, by kernel_rfl⟩
def c164 := by
 have c := KK_of Tryz.f164 (by conv => lhs; cbv)
 dsimp only [KK, KxP, doO, opO, List.map_cons, List.map_nil, List.toList_toArray] at c
 exact c
theorem b164 : FnIs Tryz.prog 164 Tryz.f164 9 := ⟨Tryz.func164, by kernel_rfl⟩
def StmtOk (n : Nat) (s : StT) : Prop := ∀ (c : Nat) (d p : Int) (B : List (List V)) (T : List (Nat × Nat)), B[c]? = some [.d (.int .i64 p)] → 0 ≤ p ∧ p ≤ 60000 → 0 ≤ d ∧ d ≤ 62 →
 AFn Tryz.prog TabI 132 [.ptr c 0, stV s, .d (.int .i64 d)] ⟨B, T⟩ (Same (.d (.bool (stS n s d p).1)) ⟨B.set c [.d (.int .i64 (stS n s d p).2)], T⟩)
set_option maxHeartbeats 1000000 in
theorem stmts1_ab (n : Nat) (x : StT) (h : StmtOk n x) (a b c : Nat) (d p : Int) (B : List (List V)) (T : List (Nat × Nat)) (hB : B[c]? = some [.d (.int .i64 p)]) (ha : B[a]? = some [.ptr c 0]) (hb : B[b]? = some [.d (.int .i64 d)]) (hp : 0 ≤ p ∧ p ≤ 60000) (hd : 0 ≤ d ∧ d ≤ 62) :
 AFn Tryz.prog TabI 131 [stV x, .ptr a 0, .ptr b 0] ⟨B, T⟩ (Same (.d (.bool (!(stS n x d p).1))) ⟨B.set c [.d (.int .i64 (stS n x d p).2)], T⟩) := by
 obtain ⟨N, hn⟩ : ∃ N, B.length = N := ⟨_, rfl⟩
 have hc := (List.getElem?_eq_some_iff.1 hB).1
 have hi : c < N := by omega
 have hia : a < N := by have := (List.getElem?_eq_some_iff.1 ha).1; omega
 have hib : b < N := by have := (List.getElem?_eq_some_iff.1 hb).1; omega
 have h := h c d p (B ++ [stB x]) T (by rw [bx_old hc]; exact hB) hp hd
 unfold stV at h ⊢
 simp only [stB] at h
 refine b131.go 100 rfl fun hsm => ?_
 simp only [smw] at hsm
 simp only [W, seval, c131, hn, hi, hia, hib, ha, hb]
 refine callS_fn (h) ?_
 rintro _ _ ⟨rfl, rfl⟩
 refine ARun.go 100 ?_
 simp only [W, seval, c131, hn, hi, hia, hib, ha, hb]
 refine ARun.ret Tryz.func131 rfl (Left.set (by rfl) ?_)
 (try clear ih)
 (try simp only [dnw] at *)
 simp only [fnw, seval, Same] <;> simp [*]
 skip
theorem anyF_row {α : Type} (g : α → Int → Bool × Int) : ∀ (l : List α) (p : Int), anyF (fun x q => (!(g x q).1, (g x q).2)) l p = (!(rowS g l p).1, (rowS g l p).2)
 | [], p => rfl
 | x :: l, p => by
  rw [anyF]
  show _ = (!(andS (g x) (rowS g l) p).1, (andS (g x) (rowS g l) p).2)
  unfold andS
  cases h : (g x p).1
  ·simp
  ·simp [anyF_row g l]
theorem st_good (n : Nat) (a b c : Nat) (d : Int) (B X : List (List V)) (T : List (Nat × Nat)) (hd : 0 ≤ d ∧ d ≤ 62) (hc : c < B.length) (ha : ∀ q : Int, (B.set c [.d (.int .i64 q)] ++ X)[a]? = some [.ptr c 0]) (hb : ∀ q : Int, (B.set c [.d (.int .i64 q)] ++ X)[b]? = some [.d (.int .i64 d)]) :
 ∀ (l : List StT) (q : Int), (∀ x ∈ l, StmtOk n x) → 0 ≤ q ∧ q ≤ 60000 → Good Tryz.prog TabI 131 [] [.ptr a 0, .ptr b 0] stV (fun q : Int => ⟨B.set c [.d (.int .i64 q)] ++ X, T⟩) (fun x q => (!(stS n x d q).1, (stS n x d q).2)) l q
 | [], _, _, _ => trivial
 | x :: l, q, hl, hq => by
  have hx := hl x List.mem_cons_self
  have hcx : c < (B.set c [.d (.int .i64 q)]).length := by simpa using hc
  refine ⟨?_, fun h => ?_⟩
  ·have := stmts1_ab n x hx a b c d q (B.set c [.d (.int .i64 q)] ++ X) T (by rw [bx_old hcx]; exact bx_get hc) (ha q) (hb q) hq hd
   rw [bx_set_old hcx, List.set_set] at this
   exact this
  ·have h : (stS n x d q).1 = true := by simpa using h
   have h1 := (Cnts.st n x d).up q h
   have h2 := Bnds.st n x d q hq.2 h
   exact st_good n a b c d B X T hd hc ha hb l _ (fun y hy => hl y (List.mem_cons_of_mem _ hy)) ⟨Int.le_trans hq.1 h1, h2⟩
set_option maxHeartbeats 1000000 in
theorem stmts_ab (n : Nat) (l : List StT) (hl : ∀ x ∈ l, StmtOk n x) (c : Nat) (d p : Int) (B : List (List V)) (T : List (Nat × Nat)) (hB : B[c]? = some [.d (.int .i64 p)]) (hp : 0 ≤ p ∧ p ≤ 60000) (hd : 0 ≤ d ∧ d ≤ 62) :
 AFn Tryz.prog TabI 95 [.ptr c 0, .d (.sl (l.map stD)), .d (.int .i64 d)] ⟨B, T⟩ (Same (.d (.bool (rowS (fun s => stS n s d) l p).1)) ⟨B.set c [.d (.int .i64 (rowS (fun s => stS n s d) l p).2)], T⟩) := by
 obtain ⟨N, hn⟩ : ∃ N, B.length = N := ⟨_, rfl⟩
 have hc := (List.getElem?_eq_some_iff.1 hB).1
 have hi : c < N := by omega
 have hbs : B.set c [.d (.int .i64 p)] = B := by
  obtain ⟨_, h⟩ := List.getElem?_eq_some_iff.1 hB
  rw [← h, List.set_getElem_self]
 refine b95.go 100 rfl fun hsm => ?_
 simp only [smw] at hsm
 simp only [W, seval, c95, hn, hi]
 have hg := st_good n N (N + 1) c d B [[.ptr c 0], [.d (.int .i64 d)]] T hd hc (fun q => by rw [bx_loc0 (by simpa using hn)]; rfl) (fun q => by rw [bx_loc (by simpa using hn)]; rfl) l p hl hp
 have hcf := containsFunc_Stmt 131 [] [.ptr N 0, .ptr (N + 1) 0] (fun q : Int => ⟨B.set c [.d (.int .i64 q)] ++ [[.ptr c 0], [.d (.int .i64 d)]], T⟩) (fun x q => (!(stS n x d q).1, (stS n x d q).2)) (fun _ _ => ⟨by simp, rfl⟩) l (by first | exact hsm | exact hsm.1) p hg
 rw [anyF_row (fun x => stS n x d), hbs] at hcf
 refine callS_fn hcf ?_
 rintro _ _ ⟨rfl, rfl⟩
 refine ARun.go 100 ?_
 simp only [W, seval, c95, hn, hi, Bool.not_not]
 refine ARun.ret Tryz.func95 rfl (Left.set (by rfl) ?_)
 (try clear ih)
 (try simp only [dnw] at *)
 simp only [fnw, seval, Same] <;> simp [*]
 skip
set_option maxHeartbeats 1000000 in
theorem stmt1_ab (x y : CaT) (b : Nat) (bv : V) (B : List (List V)) (T : List (Nat × Nat)) (hb : B[b]? = some [.d (.int .u64 x.int), bv]) :
 AFn Tryz.prog TabI 164 [caV y, .ptr b 0] ⟨B, T⟩ (Same (.d (.bool (decide (y.int = x.int)))) ⟨B, T⟩) := by
 obtain ⟨N, hn⟩ : ∃ N, B.length = N := ⟨_, rfl⟩
 have hib : b < N := by have := (List.getElem?_eq_some_iff.1 hb).1; omega
 unfold caV
 refine b164.go 100 rfl fun hsm => ?_
 simp only [smw] at hsm
 simp only [W, seval, c164, hn, hib, hb]
 refine ARun.ret Tryz.func164 rfl (Left.box ?_)
 (try clear ih)
 (try simp only [dnw] at *)
 simp only [fnw, seval, Same] <;> simp [*]
 skip
theorem case_seen (x : CaT) : ∀ l : List CaT, l.any (fun y => decide (y.int = x.int)) = (l.map CaT.int).contains x.int
 | [] => rfl
 | y :: l => by
  rw [List.any_cons, case_seen x l, List.map_cons, List.contains_cons]
  congr 1
  rw [Bool.eq_iff_iff, decide_eq_true_iff, beq_iff_eq]
  exact eq_comm
def c132 := by
 have c := KK_of Tryz.f132 (by conv => lhs; cbv)
 dsimp only [KK, KxP, doO, opO, List.map_cons, List.map_nil, List.toList_toArray] at c
 exact c
theorem b132 : FnIs Tryz.prog 132 Tryz.f132 97 := ⟨Tryz.func132, by kernel_rfl⟩
theorem andS_no {f g : Int → Bool × Int} {p : Int} (h : (f p).1 = false) : andS f g p = (false, (f p).2) := if_pos h
theorem andS_yes {f g : Int → Bool × Int} {p : Int} (h : (f p).1 = true) : andS f g p = g (f p).2 := if_neg (by rw [h]; simp)
theorem andS_assoc (f g k : Int → Bool × Int) (p : Int) : andS (andS f g) k p = andS f (andS g k) p := by
 cases h : (f p).1
 ·have e : andS f g p = (false, (f p).2) := andS_no h
  rw [andS_no h, andS_no (by rw [e]), e]
 ·have e : andS f g p = g (f p).2 := andS_yes h
  rw [andS_yes h]
  unfold andS at e ⊢
  rw [e]
def lastS (n : Nat) (s : StT) (d : Int) : Int → Bool × Int := andS (exs40 s.lefts (d + 1)) (andS (exs40 s.exprs (d + 1)) (andS (rowS (fun x => stS n x (d + 1)) s.body) (rowS (fun x => stS n x (d + 1)) s.els)))
theorem stS_eq (n : Nat) (s : StT) (d p : Int) : stS (n + 1) s d p = andS (partS d) (andS (allowS (sizedS s && decide (s.cases.length ≤ 40))) (andS (if s.kind = 1 then fun p => tyS identS s.type (d + 1) p else allowS true) (andS (casS (stS n) d [] s.cases) (lastS n s d)))) p := rfl
theorem casS_cons (R : StT → Int → Int → Bool × Int) (d : Int) (seen : List Int) (k : CaT) (l : List CaT) : casS R d seen (k :: l) = andS (partS (d + 1)) (andS (allowS (!seen.contains k.int)) (andS (rowS (fun s => R s (d + 2)) k.body) (casS R d (seen ++ [k.int]) l))) := rfl
theorem app2 {α : Type} (A : List α) (a b : α) : A ++ [a, b] = (A ++ [a]) ++ [b] := by simp
theorem exs40_eq (l : List ExT) (d p : Int) : exs40 l d p = ((exsS l d p).1 && decide ((l.length : Int) ≤ 40), (exsS l d p).2) := by
 have e : decide ((l.length : Int) ≤ 40) = decide (l.length ≤ 40) := decide_eq_decide.2 (by omega)
 rw [e]
 unfold exs40
 cases h : (exsS l d p).1
 ·rw [andS_no h, Bool.false_and]
 ·rw [andS_yes h, Bool.true_and]
  rfl
set_option maxHeartbeats 8000000 in
theorem stmt_step (n : Nat) (s : StT) (hsb : ∀ x ∈ s.body, StmtOk n x) (hse : ∀ x ∈ s.els, StmtOk n x) (hsc : ∀ k ∈ s.cases, ∀ x ∈ k.body, StmtOk n x) : StmtOk (n + 1) s := by
 intro c d p B T hB hp hd
 obtain ⟨N, hn⟩ : ∃ N, B.length = N := ⟨_, rfl⟩
 have hc := (List.getElem?_eq_some_iff.1 hB).1
 have hi : c < N := by omega
 have hi1 : c < N + 1 := by omega
 have hN1 : N < N + 1 := by omega
 have hw1 := wrap_in (d + 1) (by omega)
 have hw2 := wrap_in (d + 2) (by omega)
 generalize hres : stS (n + 1) s d p = res
 rw [stS_eq] at hres
 have hpart := part_ab c d p (B ++ [stB s]) T (by rw [bx_old hc]; exact hB) hp
 have hsz := fun q : Int => sized_ab s (B.set c [.d (.int .i64 q)] ++ [stB s]) T
 unfold stV at hsz ⊢
 simp only [stB] at hpart hsz
 refine b132.go 6 rfl fun hsm => ?_
 simp only [smw] at hsm
 simp only [W, seval, c132, hn, hi]
 refine ARun.join (fun _ : Unit => (envS 97 [(0, .ptr c 0), (2, .d (.int .i64 d)), (4, .ptr N 0)], ⟨B.set c [.d (.int .i64 (p + 1))] ++ [stB s], T⟩)) (fun _ => partOk d p = true ∧ sizedS s = true ∧ s.cases.length ≤ 40) ?_ ?_
 rotate_left
 ·intro K' hK
  refine ARun.goJ 200 ?_
  simp only [W, seval, c132, hn, hi]
  refine callS_fn hpart ?_
  rintro _ _ ⟨rfl, rfl⟩
  refine ARun.goK 200 ?_
  simp only [W, seval, c132, hn, hi]
  cases hk : partOk d p
  ·rw [andS_no (show (partS d p).1 = false from hk)] at hres
   simp only [W, seval, c132, hk, hn, hi]
   refine ARun.ret Tryz.func132 rfl (Left.set (by rfl) ?_)
   rw [← hres]
   (try clear ih)
   (try simp only [dnw] at *)
   simp only [fnw, seval, Same] <;> simp [*]
   rfl
  ·have hpo := partOk_in hk
   rw [andS_yes (show (partS d p).1 = true from hk)] at hres
   simp only [W, seval, c132, hk, hn, hi]
   refine callS_fn (hsz (p + 1)) ?_
   rintro _ _ ⟨rfl, rfl⟩
   refine ARun.goK 200 ?_
   simp only [W, seval, c132, hn, hi]
   cases hz : sizedS s
   ·rw [andS_no (by rw [hz]; rfl)] at hres
    simp only [W, seval, c132, hk, hn, hi]
    refine ARun.ret Tryz.func132 rfl (Left.set (by rfl) ?_)
    rw [← hres]
    (try clear ih)
    (try simp only [dnw] at *)
    simp only [fnw, seval, Same] <;> simp [*]
    rfl
   ·simp only [W, seval, c132, hk, hn, hi]
    refine condS_of (fun h40 => ?_) (fun h40 => ?_)
    ·rw [andS_no (by rw [hz, decide_eq_false (by have := of_decide_eq_true h40; omega)]; rfl)] at hres
     simp only [W, seval, c132, hk, hn, hi]
     refine ARun.ret Tryz.func132 rfl (Left.set (by rfl) ?_)
     rw [← hres]
     (try clear ih)
     (try simp only [dnw] at *)
     simp only [fnw, seval, Same] <;> simp [*]
     rfl
    ·simp only [W, seval, c132, hk, hn, hi]
     refine hK () ⟨hk, hz, by have := of_decide_eq_false h40; omega⟩ _ _ ?_ rfl
     refine Agree.env _ ?_
     simp only [agw, seval, hn]
 ·rintro ⟨⟩ ⟨hk, hz, hcl⟩
  have hpo := partOk_in hk
  rw [andS_yes (show (partS d p).1 = true from hk), andS_yes (by simp [allowS, hz, hcl])] at hres
  change andS _ _ (p + 1) = res at hres
  clear hpart hsz
  dsimp only [stB]
  refine ARun.go 1 ?_
  simp only [W, seval, c132]
  refine ARun.join (fun q : Int => (envS 97 [(0, .ptr c 0), (2, .d (.int .i64 d)), (4, .ptr N 0)], ⟨B.set c [.d (.int .i64 q)] ++ [stB s], T⟩)) (fun q => (0 ≤ q ∧ q ≤ 60000) ∧ andS (casS (stS n) d [] s.cases) (lastS n s d) q = res) ?_ ?_
  rotate_left
  ·intro K' hK
   by_cases k1 : s.kind = 1
   ·rw [if_pos k1] at hres
    have e1 := decide_eq_true k1
    refine ARun.goJ 200 ?_
    simp only [W, seval, c132, hn, hi, hw1, e1]
    refine callS_fn (typ_ab s.type c (d + 1) (p + 1) _ T (by rw [bx_old (by simp; omega)]; exact bx_get hc) ⟨by omega, by omega⟩ ⟨by omega, by omega⟩) ?_
    rintro _ _ ⟨rfl, rfl⟩
    have hok := tyS_ok identS s.type (d + 1) (p + 1)
    obtain ⟨⟨b, q⟩, hty⟩ : ∃ r, tyS identS s.type (d + 1) (p + 1) = r := ⟨_, rfl⟩
    rw [hty] at hok
    refine ARun.goK 200 ?_
    simp only [W, seval, c132, hn, hi, hty]
    cases b
    ·rw [andS_no (by rw [hty]), hty] at hres
     simp only [W, seval, c132, hn, hi]
     refine ARun.ret Tryz.func132 rfl (Left.set (by rfl) ?_)
     rw [← hres]
     (try clear ih)
     (try simp only [dnw] at *)
     simp only [fnw, seval, Same] <;> simp [*]
     skip
    ·rw [andS_yes (by rw [hty]), hty] at hres
     have hok := hok rfl
     simp only [W, seval, c132, hn, hi]
     refine hK q ⟨⟨by omega, hok.2⟩, hres⟩ _ _ ?_ rfl
     refine Agree.env _ ?_
     simp only [agw, seval, hn]
   ·rw [if_neg k1, andS_yes rfl] at hres
    have e1 := decide_eq_false k1
    refine ARun.goJ 200 ?_
    simp only [W, seval, c132, hn, hi, hw1, e1]
    refine hK (p + 1) ⟨⟨by omega, hpo.1⟩, hres⟩ _ _ ?_ rfl
    refine Agree.env _ ?_
    simp only [agw, seval, hn]
  ·rintro q ⟨hq, hres2⟩
   clear hres
   dsimp only [stB]
   refine ARun.go 20 ?_
   simp only [W, seval, c132, hn, hi]
   refine ARun.fits fun hf => ?_
   have hf2 : ∀ q' : Int, Fits ⟨B.set c [.d (.int .i64 q')] ++ [[.d (.int .i64 s.kind), .d (.sl (ssD s.names)), .d (.int .i64 s.type.kind), .d (.str s.type.name), .d (.sl (s.type.elem.map tyD)), .d (.sl (s.lefts.map exD)), .d (.sl (s.exprs.map exD)), .d (.sl (s.body.map stD)), .d (.sl (s.els.map stD)), .d (.sl (s.cases.map caD))]], T⟩ := fun q' => by
    have := hf.set (i := c) (vs := [.d (.int .i64 q')]) rfl
    rwa [bx_set_old (by simp; omega), List.set_set] at this
   refine ARun.small fun hsm2 => ?_
   have hcl2 : (s.cases.length : Int) ≤ 40 := by omega
   clear hsm2
   refine ARun.loopB (fun a : Nat × Int => (envS 97 [(0, .ptr c 0), (2, .d (.int .i64 d)), (4, .ptr N 0), (37, .d (.sl (s.cases.map caD))), (38, .d (.int .i64 s.cases.length)), (39, .d (.int .i64 a.1))], ⟨B.set c [.d (.int .i64 a.2)] ++ [[.d (.int .i64 s.kind), .d (.sl (ssD s.names)), .d (.int .i64 s.type.kind), .d (.str s.type.name), .d (.sl (s.type.elem.map tyD)), .d (.sl (s.lefts.map exD)), .d (.sl (s.exprs.map exD)), .d (.sl (s.body.map stD)), .d (.sl (s.els.map stD)), .d (.sl (s.cases.map caD))]], T⟩)) (fun a => a.1 ≤ s.cases.length ∧ (0 ≤ a.2 ∧ a.2 ≤ 60000) ∧ andS (casS (stS n) d ((s.cases.take a.1).map CaT.int) (s.cases.drop a.1)) (lastS n s d) a.2 = res) (fun a => s.cases.length - a.1) (0, q) ⟨by omega, hq, hres2⟩ ?_ rfl ?_
   ·skip
    refine Agree.env _ ?_
    simp only [agw, seval, hn]
   rintro ⟨i, r⟩ ⟨h1, h2, h3⟩ ih
   dsimp only at h1 h2 h3 ih ⊢
   by_cases hlt : i < s.cases.length
   ·have hw := wrap_in ((i : Int) + 1) (by omega)
    have hg := List.getElem?_eq_getElem hlt
    have hlt' : decide ((i : Int) < (s.cases.length : Int)) = true := decide_eq_true (by omega)
    have hle : (i : Int) ≤ (s.cases.length : Int) := by omega
    have hle' : decide ((i : Int) ≤ (s.cases.length : Int)) = true := decide_eq_true hle
    rw [drop_get hlt, casS_cons, andS_assoc] at h3
    obtain ⟨x, hx⟩ : ∃ x, s.cases[i] = x := ⟨_, rfl⟩
    rw [hx] at hg h3
    have hmt : (s.cases.map caD).take i = (s.cases.take i).map caD := (List.map_take).symm
    have hpart := part_ab c (d + 1) r
    refine ARun.go 200 ?_
    simp only [W, seval, c132, hn, hi, hw1, List.getElem?_map, hg, hlt', caD_eq]
    refine callS_fn (hpart _ T (by rw [bx_old (by simp; omega)]; exact bx_get hc) h2) ?_
    rintro _ _ ⟨rfl, rfl⟩
    refine ARun.go 200 ?_
    simp only [W, seval, c132, hn, hi, hw1]
    cases hk2 : partOk (d + 1) r
    ·rw [andS_no (show (partS (d + 1) r).1 = false from hk2)] at h3
     simp only [W, seval, c132, hn, hi, hk2]
     refine ARun.ret Tryz.func132 rfl (Left.set (by rfl) ?_)
     rw [← h3]
     (try clear ih)
     (try simp only [dnw] at *)
     simp only [fnw, seval, Same] <;> simp [*]
     rfl
    ·have hpo2 := partOk_in hk2
     rw [andS_yes (show (partS (d + 1) r).1 = true from hk2), andS_assoc] at h3
     change andS _ _ (r + 1) = res at h3
     simp only [W, seval, c132, hn, hi, hk2, hle, hle', hmt]
     have hcf := fun S => containsFunc_Case 164 [] [.ptr (N + 1) 0] (fun _ : Unit => S) (fun y s => (decide (y.int = x.int), s)) (fun _ _ => ⟨rfl, rfl⟩) (s.cases.take i) (by simp; omega) ()
     refine callS_fn (hcf _ (good_of (s.cases.take i) fun y _ => stmt1_ab x y (N + 1) _ _ T (by rw [bx_loc (by simpa using hn)]; rfl))) ?_
     rintro _ _ ⟨rfl, rfl⟩
     rw [anyF_unit, case_seen]
     refine ARun.go 200 ?_
     simp only [W, seval, c132, hn, hi, hw2]
     cases hcs : ((s.cases.take i).map CaT.int).contains x.int
     ·rw [andS_yes (by rw [hcs]; rfl), andS_assoc] at h3
      change andS _ _ (r + 1) = res at h3
      simp only [W, seval, c132, hn, hi, hcs, hw2]
      refine callS_fn (stmts_ab n x.body (hsc x (by rw [← hx]; exact List.getElem_mem hlt)) c (d + 2) (r + 1) _ T (by rw [bx_old (by simp; omega)]; exact bx_get hc) ⟨by omega, hpo2.1⟩ ⟨by omega, by omega⟩) ?_
      rintro _ _ ⟨rfl, rfl⟩
      have hup := (Cnts.row (f := fun s => stS n s (d + 2)) (c := stC n) x.body fun y _ => Cnts.st n y (d + 2)).up (r + 1)
      have hbn := Bnds.row (f := fun s => stS n s (d + 2)) (fun y => Bnds.st n y (d + 2)) x.body (r + 1) hpo2.1
      obtain ⟨⟨b, q2⟩, hrow⟩ : ∃ z, rowS (fun s => stS n s (d + 2)) x.body (r + 1) = z := ⟨_, rfl⟩
      rw [hrow] at hup hbn
      refine ARun.go 200 ?_
      simp only [W, seval, c132, hn, hi, hrow]
      cases b
      ·rw [andS_no (by rw [hrow]), hrow] at h3
       simp only [W, seval, c132, hn, hi]
       refine ARun.ret Tryz.func132 rfl (Left.set (by rfl) ?_)
       rw [← h3]
       (try clear ih)
       (try simp only [dnw] at *)
       simp only [fnw, seval, Same] <;> simp [*]
       skip
      ·rw [andS_yes (by rw [hrow]), hrow] at h3
       have hup := hup rfl
       have hbn := hbn rfl
       simp only [W, seval, c132, hn, hi, hw]
       have hstep : (s.cases.take (i + 1)).map CaT.int = (s.cases.take i).map CaT.int ++ [x.int] := by
        rw [List.take_succ_eq_append_getElem hlt, List.map_append, hx]
        rfl
       rw [app2]
       refine ih (i + 1, q2) ⟨hlt, ⟨by dsimp only; omega, hbn⟩, ?_⟩ (by dsimp only; omega) _ _ _ _ rfl ⟨by simp; omega, Nat.le_refl _⟩ (hf2 q2) ?_
       ·dsimp only
        rw [hstep]
        exact h3
       ·skip
        refine AgreeF.env _ ?_
        simp only [agf, seval, hn, List.length_append, List.length_cons, List.length_nil, Nat.zero_add, hi1, hN1]
     ·rw [andS_no (by rw [hcs]; rfl)] at h3
      simp only [W, seval, c132, hn, hi, hcs]
      refine ARun.ret Tryz.func132 rfl (Left.set (by rfl) ?_)
      rw [← h3]
      (try clear ih)
      (try simp only [dnw] at *)
      simp only [fnw, seval, Same] <;> simp [*]
      rfl
   ·have hlt' : decide ((i : Int) < (s.cases.length : Int)) = false := decide_eq_false (by omega)
    rw [List.drop_eq_nil_of_le (by omega), andS_yes rfl] at h3
    change lastS n s d r = res at h3
    unfold lastS at h3
    refine ARun.go 200 ?_
    simp only [W, seval, c132, hn, hi, hlt', hw1]
    refine callS_fn (exprs_ab s.lefts (fun x _ => expr_ab x) c (d + 1) 40 r _ T (by rw [bx_old (by simp; omega)]; exact bx_get hc) h2 ⟨by omega, by omega⟩) ?_
    rintro _ _ ⟨rfl, rfl⟩
    have hup := (Cnts.exs40 s.lefts (d + 1)).up r
    have hbn := Bnds.exs40 s.lefts (d + 1) r h2.2
    have he := exs40_eq s.lefts (d + 1) r
    obtain ⟨⟨b1, q1⟩, hq1⟩ : ∃ z, exs40 s.lefts (d + 1) r = z := ⟨_, rfl⟩
    rw [hq1] at hup hbn he
    obtain ⟨he1, he2⟩ := Prod.mk.inj he
    rw [← he1, ← he2]
    clear he he1 he2
    refine ARun.go 200 ?_
    simp only [W, seval, c132, hn, hi, hw1]
    cases b1
    ·rw [andS_no (by rw [hq1]), hq1] at h3
     simp only [W, seval, c132, hn, hi, hw1]
     refine ARun.ret Tryz.func132 rfl (Left.set (by rfl) ?_)
     rw [← h3]
     (try clear ih)
     (try simp only [dnw] at *)
     simp only [fnw, seval, Same] <;> simp [*]
     skip
    rw [andS_yes (by rw [hq1]), hq1] at h3
    dsimp only at h3
    have hup1 := hup rfl
    have hbn1 := hbn rfl
    dsimp only at hup1 hbn1
    simp only [W, seval, c132, hn, hi, hw1]
    refine callS_fn (exprs_ab s.exprs (fun x _ => expr_ab x) c (d + 1) 40 q1 _ T (by rw [bx_old (by simp; omega)]; exact bx_get hc) ⟨by omega, hbn1⟩ ⟨by omega, by omega⟩) ?_
    rintro _ _ ⟨rfl, rfl⟩
    have hup := (Cnts.exs40 s.exprs (d + 1)).up q1
    have hbn := Bnds.exs40 s.exprs (d + 1) q1 hbn1
    have he := exs40_eq s.exprs (d + 1) q1
    obtain ⟨⟨b2, q2⟩, hq2⟩ : ∃ z, exs40 s.exprs (d + 1) q1 = z := ⟨_, rfl⟩
    rw [hq2] at hup hbn he
    obtain ⟨he1, he2⟩ := Prod.mk.inj he
    rw [← he1, ← he2]
    clear he he1 he2
    refine ARun.go 200 ?_
    simp only [W, seval, c132, hn, hi, hw1]
    cases b2
    ·rw [andS_no (by rw [hq2]), hq2] at h3
     simp only [W, seval, c132, hn, hi, hw1]
     refine ARun.ret Tryz.func132 rfl (Left.set (by rfl) ?_)
     rw [← h3]
     (try clear ih)
     (try simp only [dnw] at *)
     simp only [fnw, seval, Same] <;> simp [*]
     skip
    rw [andS_yes (by rw [hq2]), hq2] at h3
    dsimp only at h3
    have hup2 := hup rfl
    have hbn2 := hbn rfl
    dsimp only at hup2 hbn2
    simp only [W, seval, c132, hn, hi, hw1]
    refine callS_fn (stmts_ab n s.body hsb c (d + 1) q2 _ T (by rw [bx_old (by simp; omega)]; exact bx_get hc) ⟨by omega, hbn2⟩ ⟨by omega, by omega⟩) ?_
    rintro _ _ ⟨rfl, rfl⟩
    have hup := (Cnts.row (f := fun s => stS n s (d + 1)) (c := stC n) s.body fun y _ => Cnts.st n y (d + 1)).up q2
    have hbn := Bnds.row (f := fun s => stS n s (d + 1)) (fun y => Bnds.st n y (d + 1)) s.body q2 hbn2
    obtain ⟨⟨b3, q3⟩, hq3⟩ : ∃ z, rowS (fun s => stS n s (d + 1)) s.body q2 = z := ⟨_, rfl⟩
    rw [hq3] at hup hbn
    refine ARun.go 200 ?_
    simp only [W, seval, c132, hn, hi, hw1, hq3]
    cases b3
    ·rw [andS_no (by rw [hq3]), hq3] at h3
     simp only [W, seval, c132, hn, hi, hw1]
     refine ARun.ret Tryz.func132 rfl (Left.set (by rfl) ?_)
     rw [← h3]
     (try clear ih)
     (try simp only [dnw] at *)
     simp only [fnw, seval, Same] <;> simp [*]
     skip
    rw [andS_yes (by rw [hq3]), hq3] at h3
    dsimp only at h3
    have hup3 := hup rfl
    have hbn3 := hbn rfl
    dsimp only at hup3 hbn3
    simp only [W, seval, c132, hn, hi, hw1]
    refine callS_fn (stmts_ab n s.els hse c (d + 1) q3 _ T (by rw [bx_old (by simp; omega)]; exact bx_get hc) ⟨by omega, hbn3⟩ ⟨by omega, by omega⟩) ?_
    rintro _ _ ⟨rfl, rfl⟩
    rw [h3]
    refine ARun.go 200 ?_
    simp only [W, seval, c132, hn, hi, hw1]
    refine ARun.ret Tryz.func132 rfl (Left.set (by rfl) ?_)
    (try clear ih)
    (try simp only [dnw] at *)
    simp only [fnw, seval, Same] <;> simp [*]
    skip
def Dp : Nat → StT → Prop
 | 0, _ => False
 | n + 1, s => (∀ x ∈ s.body, Dp n x) ∧ (∀ x ∈ s.els, Dp n x) ∧ ∀ k ∈ s.cases, ∀ x ∈ k.body, Dp n x
theorem stmt_ab : ∀ (n : Nat) (s : StT), Dp n s → StmtOk n s
 | 0, _, h => h.elim
 | n + 1, s, h => stmt_step n s (fun x hx => stmt_ab n x (h.1 x hx)) (fun x hx => stmt_ab n x (h.2.1 x hx)) (fun k hk x hx => stmt_ab n x (h.2.2 k hk x hx))
theorem Dp.of_size : ∀ (n : Nat) (s : StT), SizeOf.sizeOf s ≤ n → Dp n s
 | 0, s, h => by
  cases s with
  | mk k ns ty ls es b e cs => simp at h
 | n + 1, s, h => by
  cases s with
  | mk k ns ty ls es b e cs =>
   have h0 : 1 + SizeOf.sizeOf b + SizeOf.sizeOf e + SizeOf.sizeOf cs ≤ n + 1 := by
    simp only [StT.mk.sizeOf_spec] at h
    omega
   refine ⟨fun x hx => Dp.of_size n x ?_, fun x hx => Dp.of_size n x ?_, fun c hc x hx => Dp.of_size n x ?_⟩
   ·have := List.sizeOf_lt_of_mem (show x ∈ b from hx)
    omega
   ·have := List.sizeOf_lt_of_mem (show x ∈ e from hx)
    omega
   ·have h1 := List.sizeOf_lt_of_mem (show c ∈ cs from hc)
    have h2 := List.sizeOf_lt_of_mem hx
    have h3 : SizeOf.sizeOf c.body ≤ SizeOf.sizeOf c := by
     cases c with
     | mk i b => simp only [CaT.body, CaT.mk.sizeOf_spec]; omega
    omega
def c92 := by
 have c := KK_of Tryz.f92 (by conv => lhs; cbv)
 dsimp only [KK, KxP, doO, opO, List.map_cons, List.map_nil, List.toList_toArray] at c
 exact c
theorem b92 : FnIs Tryz.prog 92 Tryz.f92 40 := ⟨Tryz.func92, by kernel_rfl⟩
theorem mapD_nil : List.mapM toD [] = some [] := rfl
theorem mapD_cons (x : D) (l : List V) : List.mapM toD (.d x :: l) = (List.mapM toD l).map (x :: ·) := by
 rw [List.mapM_cons]
 show (some x).bind _ = _
 rw [Option.bind_some]
 cases List.mapM toD l <;> rfl
theorem vr_plain {c : Cx} {w : World} {rows : List (List D)} {tk : Tok} {v : Value} (h : VR c w (.sl rows tk) v) : VR c w (.d (.sl rows)) v := by
 cases h with
 | full _ a h ha => exact .d _ _ h
 | own _ t a cap i h ht hr hn hl => exact .d _ _ h
theorem sl_plain {P : Program} {I : Inv} {f : FuncId} {rows : List (List D)} {tk : Tok} {S : Mem} {R : V → Mem → Prop} (h : AFn P I f [.d (.sl rows)] S R) : AFn P I f [.sl rows tk] S R :=
 ⟨h.1, fun c w xs h1 h2 h3 hI => h.2 c w xs h1 (fun j hj => by
  have hj0 : j = 0 := by simpa using hj
  subst hj0
  exact vr_plain (h2 0 (by simp))) h3 hI⟩
theorem setAll0 {B : List (List V)} {T K : List (Nat × Nat)} {R : V → Mem → Prop} {v : V} {i : Nat} {vs : List V} (hf : vs.all (fit B.length T.length) = true) (h : R (wk B.length T.length v) ⟨B.set i vs, T⟩) : Ab.Left ⟨B, T⟩ R v ⟨B.set i vs, T ++ K⟩ := by
 have := Left.setAll (J := []) (K := K) hf h
 rwa [List.append_nil] at this
theorem pa_step (most : Nat) (l : List PaT) (p : Int) : paS most l p = andS (rowS (fun x : PaT => andS (partS 0) (fun p => tyS identS x.type 0 p)) l) (allowS (decide (l.length ≤ most) && diffS l.length (l.map PaT.name))) p := rfl
set_option maxHeartbeats 4000000 in
theorem params_ab (most : Nat) (_ : most ≤ 1000) (l : List PaT) (c : Nat) (p : Int) (B : List (List V)) (T : List (Nat × Nat)) (hB : B[c]? = some [.d (.int .i64 p)]) (hp : 0 ≤ p ∧ p ≤ 60000) :
 AFn Tryz.prog TabI 92 [.ptr c 0, .d (.sl (l.map paD)), .d (.int .i64 most)] ⟨B, T⟩ (Same (.d (.bool (paS most l p).1)) ⟨B.set c [.d (.int .i64 (paS most l p).2)], T⟩) := by
 obtain ⟨N, hn⟩ : ∃ N, B.length = N := ⟨_, rfl⟩
 obtain ⟨M, hM⟩ : ∃ M, T.length = M := ⟨_, rfl⟩
 have hc := (List.getElem?_eq_some_iff.1 hB).1
 have hi : c < N := by omega
 have hbs : B.set c [.d (.int .i64 p)] = B := by
  obtain ⟨_, h⟩ := List.getElem?_eq_some_iff.1 hB
  rw [← h, List.set_getElem_self]
 generalize hres : paS most l p = res
 rw [pa_step] at hres
 refine b92.go 14 rfl fun hsm => ?_
 simp only [smw] at hsm
 simp only [W, seval, c92, hn, hi]
 refine ARun.fits fun hf => ?_
 refine ARun.token 7 [] (by rfl) 1 (by omega) rfl ?_
 simp only [envS_put, hM]
 refine ARun.go 20 ?_
 simp only [W, seval, c92, hn, hi]
 refine ARun.loopB (fun a : Nat × Int => (envS 40 [(0, .ptr c 0), (1, .d (.sl (l.map paD))), (2, .d (.int .i64 most)), (6, .d (.bool false)), (7, .sl (ssD ((l.take a.1).map PaT.name)) (.own M)), (10, .d (.sl (l.map paD))), (11, .d (.int .i64 l.length)), (12, .d (.int .i64 a.1))], ⟨B.set c [.d (.int .i64 a.2)], T ++ [(a.1, 1)]⟩)) (fun a => a.1 ≤ l.length ∧ ((a.1 : Int) ≤ a.2 ∧ a.2 ≤ 60000) ∧ andS (rowS (fun x : PaT => andS (partS 0) (fun p => tyS identS x.type 0 p)) (l.drop a.1)) (allowS (decide (l.length ≤ most) && diffS l.length (l.map PaT.name))) a.2 = res) (fun a => l.length - a.1) (0, p) ⟨by omega, hp, hres⟩ ?_ (by rw [hbs]) ?_
 ·skip
  refine Agree.env _ ?_
  simp only [agw, seval, hn]
  trivial
 rintro ⟨i, q⟩ ⟨h1, h2, h3⟩ ih
 dsimp only at h1 h2 h3 ih ⊢
 by_cases hlt : i < l.length
 ·have hw := wrap_in ((i : Int) + 1) (by omega)
  have hlt' : decide ((i : Int) < (l.length : Int)) = true := decide_eq_true (by omega)
  have hg := List.getElem?_eq_getElem hlt
  have hmin : min i l.length = i := by omega
  have hcap : (i + 1) * 16 ≤ 140737488355328 := by omega
  have hss : ssD ((l.take i).map PaT.name) ++ [[.str l[i].name]] = ssD ((l.take (i + 1)).map PaT.name) := by
   rw [List.take_succ_eq_append_getElem hlt, List.map_append]
   simp [ssD]
  have hr1 : ∀ s : List UInt8, rowsSz 1 [[D.str s]] = true := fun _ => rfl
  have hM1 : M < M + 1 := by omega
  rw [drop_get hlt] at h3
  change andS (andS (andS (partS 0) (fun p => tyS identS l[i].type 0 p)) (rowS _ (l.drop (i + 1)))) _ q = res at h3
  rw [andS_assoc, andS_assoc] at h3
  refine ARun.go 100 ?_
  simp only [W, seval, c92, hn, hi, hM, List.getElem?_map, hg, hlt', paD, hmin, List.length_take, hcap, hss, mapD_nil, mapD_cons, Nat.reduceMul, hr1]
  refine callS_fn (part_ab c 0 q _ _ (by rw [bx_old (by simp; omega)]; exact bx_get hc) ⟨by omega, h2.2⟩) ?_
  rintro _ _ ⟨rfl, rfl⟩
  refine ARun.go 200 ?_
  simp only [W, seval, c92, hn, hi, hM]
  cases hk : partOk 0 q
  ·rw [andS_no (show (partS 0 q).1 = false from hk)] at h3
   simp only [W, seval, c92, hn, hi, hk]
   refine ARun.ret Tryz.func92 rfl (Left.setAll rfl ?_)
   rw [← h3]
   (try clear ih)
   (try simp only [dnw] at *)
   simp only [fnw, seval, Same] <;> simp [*]
   rfl
  ·have hpo := partOk_in hk
   rw [andS_yes (show (partS 0 q).1 = true from hk)] at h3
   change andS _ _ (q + 1) = res at h3
   simp only [W, seval, c92, hn, hi, hk]
   refine callS_fn (typ_ab l[i].type c 0 (q + 1) _ _ (by rw [bx_old (by simp; omega)]; exact bx_get hc) ⟨by omega, hpo.1⟩ ⟨by omega, by omega⟩) ?_
   rintro _ _ ⟨rfl, rfl⟩
   have hok := tyS_ok identS l[i].type 0 (q + 1)
   obtain ⟨⟨b, r⟩, hty⟩ : ∃ z, tyS identS l[i].type 0 (q + 1) = z := ⟨_, rfl⟩
   rw [hty] at hok
   refine ARun.go 200 ?_
   simp only [W, seval, c92, hn, hi, hM, hty]
   cases b
   ·rw [andS_no (by rw [hty]), hty] at h3
    simp only [W, seval, c92, hn, hi]
    refine ARun.ret Tryz.func92 rfl (Left.setAll rfl ?_)
    rw [← h3]
    (try clear ih)
    (try simp only [dnw] at *)
    simp only [fnw, seval, Same] <;> simp [*]
    skip
   ·rw [andS_yes (by rw [hty]), hty] at h3
    have hok := hok rfl
    dsimp only at hok h3
    simp only [W, seval, c92, hn, hi, hM, hw]
    refine ih (i + 1, r) ⟨hlt, ⟨by dsimp only; omega, hok.2⟩, h3⟩ (by dsimp only; omega) _ _ _ _ rfl ⟨by simp; omega, by simp; omega⟩ ?_ ?_
    ·have := Fits.more (X := []) (Y := [(i + 1, 1)]) (Fits.set hf (i := c) (vs := [.d (.int .i64 r)]) rfl) (fun vs hv => absurd hv List.not_mem_nil)
     rwa [List.append_nil] at this
    ·skip
     refine AgreeF.env _ ?_
     simp only [agf, seval, hn, hi, hM, List.length_append, List.length_cons, List.length_nil, Nat.zero_add, hM1]
 ·have hlt' : decide ((i : Int) < (l.length : Int)) = false := decide_eq_false (by omega)
  rw [List.drop_eq_nil_of_le (by omega), andS_yes rfl] at h3
  have hti : l.take i = l := List.take_of_length_le (by omega)
  have hmo : decide ((l.length : Int) ≤ (most : Int)) = decide (l.length ≤ most) := decide_eq_decide.2 (by omega)
  refine ARun.go 200 ?_
  simp only [W, seval, c92, hn, hi, hM, hlt', hti, hmo]
  cases hle : decide (l.length ≤ most)
  ·simp only [W, seval, c92, hn, hi, hM]
   refine ARun.ret Tryz.func92 rfl (setAll0 rfl ?_)
   rw [← h3, hle]
   (try clear ih)
   (try simp only [dnw] at *)
   simp only [fnw, seval, Same] <;> simp [*]
   exact ⟨rfl, rfl⟩
  ·simp only [W, seval, c92, hn, hi, hM]
   refine callS_fn (sl_plain (different_ab (l.map PaT.name) (by simp; have := of_decide_eq_true hle; omega) _ _)) ?_
   rintro _ _ ⟨rfl, rfl⟩
   refine ARun.go 200 ?_
   simp only [W, seval, c92, hn, hi, hM]
   refine ARun.ret Tryz.func92 rfl (setAll0 rfl ?_)
   rw [← h3, hle]
   (try clear ih)
   (try simp only [dnw] at *)
   simp only [fnw, seval, Same] <;> simp [*]
   exact ⟨rfl, rfl⟩
def c93 := by
 have c := KK_of Tryz.f93 (by conv => lhs; cbv)
 dsimp only [KK, KxP, doO, opO, List.map_cons, List.map_nil, List.toList_toArray] at c
 exact c
theorem b93 : FnIs Tryz.prog 93 Tryz.f93 8 := ⟨Tryz.func93, by kernel_rfl⟩
def c46 := by
 have c := KK_of Tryz.f46 (by conv => lhs; cbv)
 dsimp only [KK, KxP, doO, opO, List.map_cons, List.map_nil, List.toList_toArray] at c
 exact c
theorem b46 : FnIs Tryz.prog 46 Tryz.f46 80 := ⟨Tryz.func46, by kernel_rfl⟩
def c16 := by
 have c := KK_of Tryz.f16 (by conv => lhs; cbv)
 dsimp only [KK, KxP, doO, opO, List.map_cons, List.map_nil, List.toList_toArray] at c
 exact c
theorem b16 : FnIs Tryz.prog 16 Tryz.f16 6 := ⟨Tryz.func16, by kernel_rfl⟩
set_option maxHeartbeats 1000000 in
theorem prog1_ab (x : TyT) (a c : Nat) (p : Int) (B : List (List V)) (T : List (Nat × Nat)) (hB : B[c]? = some [.d (.int .i64 p)]) (ha : B[a]? = some [.ptr c 0]) (hp : 0 ≤ p ∧ p ≤ 60000) :
 AFn Tryz.prog TabI 93 [tyV x, .ptr a 0] ⟨B, T⟩ (Same (.d (.bool (!(tyS identS x 0 p).1))) ⟨B.set c [.d (.int .i64 (tyS identS x 0 p).2)], T⟩) := by
 obtain ⟨N, hn⟩ : ∃ N, B.length = N := ⟨_, rfl⟩
 have hc := (List.getElem?_eq_some_iff.1 hB).1
 have hi : c < N := by omega
 have hia : a < N := by have := (List.getElem?_eq_some_iff.1 ha).1; omega
 have h := typ_ab x c 0 p (B ++ [[.d (.int .i64 x.kind), .d (.str x.name), .d (.sl (x.elem.map tyD))]]) T (by rw [bx_old hc]; exact hB) hp (by omega)
 unfold tyV at h ⊢
 refine b93.go 100 rfl fun hsm => ?_
 simp only [smw] at hsm
 simp only [W, seval, c93, hn, hi, hia, ha]
 refine callS_fn (h) ?_
 rintro _ _ ⟨rfl, rfl⟩
 refine ARun.go 100 ?_
 simp only [W, seval, c93, hn, hi, hia, ha]
 refine ARun.ret Tryz.func93 rfl (Left.set (by rfl) ?_)
 (try clear ih)
 (try simp only [dnw] at *)
 simp only [fnw, seval, Same] <;> simp [*]
 skip
theorem ty_good (a c : Nat) (B X : List (List V)) (T : List (Nat × Nat)) (hc : c < B.length) (ha : ∀ q : Int, (B.set c [.d (.int .i64 q)] ++ X)[a]? = some [.ptr c 0]) :
 ∀ (l : List TyT) (q : Int), 0 ≤ q ∧ q ≤ 60000 → Good Tryz.prog TabI 93 [] [.ptr a 0] tyV (fun q : Int => ⟨B.set c [.d (.int .i64 q)] ++ X, T⟩) (fun x q => (!(tyS identS x 0 q).1, (tyS identS x 0 q).2)) l q
 | [], _, _ => trivial
 | x :: l, q, hq => by
  have hcx : c < (B.set c [.d (.int .i64 q)]).length := by simpa using hc
  refine ⟨?_, fun h => ?_⟩
  ·have := prog1_ab x a c q (B.set c [.d (.int .i64 q)] ++ X) T (by rw [bx_old hcx]; exact bx_get hc) (ha q) hq
   rw [bx_set_old hcx, List.set_set] at this
   exact this
  ·have h : (tyS identS x 0 q).1 = true := by simpa using h
   have h1 := tyS_ok identS x 0 q h
   exact ty_good a c B X T hc ha l _ ⟨Int.le_trans hq.1 (by dsimp only; omega), h1.2⟩
theorem app3 {α : Type} (A : List α) (a b c : α) : A ++ [a, b, c] = (A ++ [a, b]) ++ [c] := by simp
set_option maxHeartbeats 4000000 in
theorem prog_ab (n : Nat) (pr : PrT) (hst : ∀ f ∈ pr.funcs, ∀ x ∈ f.body, StmtOk n x) (c : Nat) (p : Int) (B : List (List V)) (T : List (Nat × Nat)) (hB : B[c]? = some [.d (.int .i64 p)]) (hp : 0 ≤ p ∧ p ≤ 60000) :
 AFn Tryz.prog TabI 46 [.ptr c 0, prV pr] ⟨B, T⟩ (Same (.d (.bool (prS n pr p).1)) ⟨B.set c [.d (.int .i64 (prS n pr p).2)], T⟩) := by
 obtain ⟨N, hn⟩ : ∃ N, B.length = N := ⟨_, rfl⟩
 have hc := (List.getElem?_eq_some_iff.1 hB).1
 have hi : c < N := by omega
 have hi1 : c < N + 2 := by omega
 have hN1 : N < N + 2 := by omega
 have hN2 : N + 1 < N + 2 := by omega
 have hbs : B.set c [.d (.int .i64 p)] = B := by
  obtain ⟨_, h⟩ := List.getElem?_eq_some_iff.1 hB
  rw [← h, List.set_getElem_self]
 generalize hres : prS n pr p = res
 change andS (rowS suS pr.structs) (rowS (fuS n) pr.funcs) p = res at hres
 unfold prV
 refine b46.go 7 rfl fun hsm => ?_
 simp only [smw] at hsm
 simp only [W, seval, c46, hn, hi]
 refine ARun.join (fun q : Int => (envS 80 [(2, .ptr N 0), (3, .ptr (N + 1) 0), (4, .d (.bool false))], ⟨B.set c [.d (.int .i64 q)] ++ [[.ptr c 0], [.d (.sl (pr.structs.map suD)), .d (.sl (pr.funcs.map fuD))]], T⟩)) (fun q => (0 ≤ q ∧ q ≤ 60000) ∧ rowS (fuS n) pr.funcs q = res) ?_ ?_
 rotate_left
 ·intro K' hK
  refine ARun.goJ 30 ?_
  simp only [W, seval, c46, hn, hi]
  refine ARun.fits fun hf => ?_
  have hf2 : ∀ q' : Int, Fits ⟨B.set c [.d (.int .i64 q')] ++ [[.ptr c 0], [.d (.sl (pr.structs.map suD)), .d (.sl (pr.funcs.map fuD))]], T⟩ := fun q' => by
   have := hf.set (i := c) (vs := [.d (.int .i64 q')]) rfl
   rwa [bx_set_old (by omega)] at this
  refine ARun.loopB (fun a : Nat × Int => (envS 80 [(2, .ptr N 0), (3, .ptr (N + 1) 0), (4, .d (.bool false)), (10, .d (.sl (pr.structs.map suD))), (11, .d (.int .i64 pr.structs.length)), (12, .d (.int .i64 a.1))], ⟨B.set c [.d (.int .i64 a.2)] ++ [[.ptr c 0], [.d (.sl (pr.structs.map suD)), .d (.sl (pr.funcs.map fuD))]], T⟩)) (fun a => a.1 ≤ pr.structs.length ∧ (0 ≤ a.2 ∧ a.2 ≤ 60000) ∧ andS (rowS suS (pr.structs.drop a.1)) (rowS (fuS n) pr.funcs) a.2 = res) (fun a => pr.structs.length - a.1) (0, p) ⟨by omega, hp, hres⟩ ?_ (by rw [hbs]) ?_
  ·skip
   refine Agree.env _ ?_
   simp only [agw, seval, hn]
  rintro ⟨i, q⟩ ⟨h1, h2, h3⟩ ih
  dsimp only at h1 h2 h3 ih ⊢
  by_cases hlt : i < pr.structs.length
  ·have hw := wrap_in ((i : Int) + 1) (by omega)
   have hg := List.getElem?_eq_getElem hlt
   have hlt' : decide ((i : Int) < (pr.structs.length : Int)) = true := decide_eq_true (by omega)
   rw [drop_get hlt] at h3
   obtain ⟨x, hx⟩ : ∃ x, pr.structs[i] = x := ⟨_, rfl⟩
   rw [hx] at hg h3
   change andS (andS (suS x) (rowS suS (pr.structs.drop (i + 1)))) (rowS (fuS n) pr.funcs) q = res at h3
   rw [andS_assoc] at h3
   change andS (andS (partS 0) (andS (allowS (identS x.name)) (paS 60 x.fields))) _ q = res at h3
   rw [andS_assoc] at h3
   have hpar := params_ab 60 (by omega) x.fields c
   have hcast : ((60 : Nat) : Int) = 60 := rfl
   rw [hcast] at hpar
   refine ARun.goJ 100 ?_
   simp only [W, seval, c46, hn, hi, List.getElem?_map, hg, hlt', suD]
   refine callS_fn (part_ab c 0 q _ _ (by rw [bx_old (by simp; omega)]; exact bx_get hc) h2) ?_
   rintro _ _ ⟨rfl, rfl⟩
   refine ARun.goK 200 ?_
   simp only [W, seval, c46, hn, hi]
   cases hk : partOk 0 q
   ·rw [andS_no (show (partS 0 q).1 = false from hk)] at h3
    simp only [W, seval, c46, hn, hi, hk]
    refine ARun.ret Tryz.func46 rfl (Left.set (by rfl) ?_)
    rw [← h3]
    (try clear ih)
    (try simp only [dnw] at *)
    simp only [fnw, seval, Same] <;> simp [*]
    rfl
   have hpo := partOk_in hk
   rw [andS_yes (show (partS 0 q).1 = true from hk)] at h3
   change andS _ _ (q + 1) = res at h3
   rw [andS_assoc] at h3
   simp only [W, seval, c46, hn, hi, hk]
   refine callS_fn (ident_ab x.name _) ?_
   rintro _ _ ⟨rfl, rfl⟩
   refine ARun.goK 200 ?_
   simp only [W, seval, c46, hn, hi]
   cases hid : identS x.name
   ·rw [andS_no (by rw [hid]; rfl)] at h3
    simp only [W, seval, c46, hn, hi]
    refine ARun.ret Tryz.func46 rfl (Left.set (by rfl) ?_)
    rw [← h3]
    (try clear ih)
    (try simp only [dnw] at *)
    simp only [fnw, seval, Same] <;> simp [*]
    rfl
   rw [andS_yes (by rw [hid]; rfl)] at h3
   change andS _ _ (q + 1) = res at h3
   simp only [W, seval, c46, hn, hi]
   refine callS_fn (hpar (q + 1) _ T (by rw [bx_old (by simp; omega)]; exact bx_get hc) ⟨by omega, hpo.1⟩) ?_
   rintro _ _ ⟨rfl, rfl⟩
   have hup := (Cnts.pa 60 x.fields).up (q + 1)
   have hbn := Bnds.pa 60 x.fields (q + 1) hpo.1
   obtain ⟨⟨b, r⟩, hpa⟩ : ∃ z, paS 60 x.fields (q + 1) = z := ⟨_, rfl⟩
   rw [hpa] at hup hbn
   refine ARun.goK 200 ?_
   simp only [W, seval, c46, hn, hi, hpa]
   cases b
   ·rw [andS_no (by rw [hpa]), hpa] at h3
    simp only [W, seval, c46, hn, hi]
    refine ARun.ret Tryz.func46 rfl (Left.set (by rfl) ?_)
    rw [← h3]
    (try clear ih)
    (try simp only [dnw] at *)
    simp only [fnw, seval, Same] <;> simp [*]
    skip
   ·rw [andS_yes (by rw [hpa]), hpa] at h3
    have hup := hup rfl
    have hbn := hbn rfl
    dsimp only at hup hbn h3
    simp only [W, seval, c46, hn, hi, hw]
    rw [app3]
    refine ih (i + 1, r) ⟨hlt, ⟨by dsimp only; omega, hbn⟩, h3⟩ (by dsimp only; omega) _ _ _ _ rfl ⟨by simp; omega, Nat.le_refl _⟩ (hf2 r) ?_
    refine AgreeF.env _ ?_
    simp only [agf, seval, hn, List.length_append, List.length_cons, List.length_nil, Nat.zero_add, Nat.reduceAdd, hN1, hN2]
  ·have hlt' : decide ((i : Int) < (pr.structs.length : Int)) = false := decide_eq_false (by omega)
   rw [List.drop_eq_nil_of_le (by omega), andS_yes rfl] at h3
   refine ARun.goK 100 (k := [_, _, _]) (K := K') ?_
   simp only [W, seval, c46, hn, hi, hlt']
   refine hK q ⟨h2, h3⟩ _ _ ?_ rfl
   refine Agree.env _ ?_
   simp only [agw, seval, hn]
 ·rintro q0 ⟨hq0, hres2⟩
  clear hres hbs
  dsimp only
  refine ARun.go 20 ?_
  simp only [W, seval, c46, hn, hi]
  refine ARun.fits fun hf => ?_
  have hf2 : ∀ q' : Int, Fits ⟨B.set c [.d (.int .i64 q')] ++ [[.ptr c 0], [.d (.sl (pr.structs.map suD)), .d (.sl (pr.funcs.map fuD))]], T⟩ := fun q' => by
   have := hf.set (i := c) (vs := [.d (.int .i64 q')]) rfl
   rwa [bx_set_old (by simp; omega), List.set_set] at this
  refine ARun.loopB (fun a : Nat × Int => (envS 80 [(2, .ptr N 0), (3, .ptr (N + 1) 0), (4, .d (.bool false)), (34, .d (.sl (pr.funcs.map fuD))), (35, .d (.int .i64 pr.funcs.length)), (36, .d (.int .i64 a.1))], ⟨B.set c [.d (.int .i64 a.2)] ++ [[.ptr c 0], [.d (.sl (pr.structs.map suD)), .d (.sl (pr.funcs.map fuD))]], T⟩)) (fun a => a.1 ≤ pr.funcs.length ∧ (0 ≤ a.2 ∧ a.2 ≤ 60000) ∧ rowS (fuS n) (pr.funcs.drop a.1) a.2 = res) (fun a => pr.funcs.length - a.1) (0, q0) ⟨by omega, hq0, hres2⟩ ?_ rfl ?_
  ·skip
   refine Agree.env _ ?_
   simp only [agw, seval, hn]
  rintro ⟨i, q⟩ ⟨h1, h2, h3⟩ ih
  dsimp only at h1 h2 h3 ih ⊢
  by_cases hlt : i < pr.funcs.length
  ·have hw := wrap_in ((i : Int) + 1) (by omega)
   have hg := List.getElem?_eq_getElem hlt
   have hlt' : decide ((i : Int) < (pr.funcs.length : Int)) = true := decide_eq_true (by omega)
   rw [drop_get hlt] at h3
   obtain ⟨x, hx⟩ : ∃ x, pr.funcs[i] = x := ⟨_, rfl⟩
   have hxm : x ∈ pr.funcs := by rw [← hx]; exact List.getElem_mem hlt
   rw [hx] at hg h3
   change andS (andS (partS 0) (andS (allowS (identS x.name)) (andS (paS 20 x.params) (andS (allowS (decide (1 ≤ x.results.length) && decide (x.results.length ≤ 20))) (andS (rowS (fun t p => tyS identS t 0 p) x.results) (rowS (fun s => stS n s 0) x.body)))))) (rowS (fuS n) (pr.funcs.drop (i + 1))) q = res at h3
   rw [andS_assoc] at h3
   have hpar := params_ab 20 (by omega) x.params c
   have hcast : ((20 : Nat) : Int) = 20 := rfl
   rw [hcast] at hpar
   refine ARun.go 100 ?_
   simp only [W, seval, c46, hn, hi, List.getElem?_map, hg, hlt', fuD]
   refine callS_fn (part_ab c 0 q _ _ (by rw [bx_old (by simp; omega)]; exact bx_get hc) h2) ?_
   rintro _ _ ⟨rfl, rfl⟩
   refine ARun.go 200 ?_
   simp only [W, seval, c46, hn, hi]
   cases hk : partOk 0 q
   ·rw [andS_no (show (partS 0 q).1 = false from hk)] at h3
    simp only [W, seval, c46, hn, hi, hk]
    refine ARun.ret Tryz.func46 rfl (Left.set (by rfl) ?_)
    rw [← h3]
    (try clear ih)
    (try simp only [dnw] at *)
    simp only [fnw, seval, Same] <;> simp [*]
    rfl
   have hpo := partOk_in hk
   rw [andS_yes (show (partS 0 q).1 = true from hk)] at h3
   change andS _ _ (q + 1) = res at h3
   rw [andS_assoc] at h3
   simp only [W, seval, c46, hn, hi, hk]
   refine callS_fn (ident_ab x.name _) ?_
   rintro _ _ ⟨rfl, rfl⟩
   refine ARun.go 200 ?_
   simp only [W, seval, c46, hn, hi]
   cases hid : identS x.name
   ·rw [andS_no (by rw [hid]; rfl)] at h3
    simp only [W, seval, c46, hn, hi]
    refine ARun.ret Tryz.func46 rfl (Left.set (by rfl) ?_)
    rw [← h3]
    (try clear ih)
    (try simp only [dnw] at *)
    simp only [fnw, seval, Same] <;> simp [*]
    rfl
   rw [andS_yes (by rw [hid]; rfl)] at h3
   change andS _ _ (q + 1) = res at h3
   rw [andS_assoc] at h3
   simp only [W, seval, c46, hn, hi]
   refine callS_fn (hpar (q + 1) _ T (by rw [bx_old (by simp; omega)]; exact bx_get hc) ⟨by omega, hpo.1⟩) ?_
   rintro _ _ ⟨rfl, rfl⟩
   have hup := (Cnts.pa 20 x.params).up (q + 1)
   have hbn := Bnds.pa 20 x.params (q + 1) hpo.1
   obtain ⟨⟨b, r⟩, hpa⟩ : ∃ z, paS 20 x.params (q + 1) = z := ⟨_, rfl⟩
   rw [hpa] at hup hbn
   refine ARun.go 200 ?_
   simp only [W, seval, c46, hn, hi, hpa]
   cases b
   ·rw [andS_no (by rw [hpa]), hpa] at h3
    simp only [W, seval, c46, hn, hi]
    refine ARun.ret Tryz.func46 rfl (Left.set (by rfl) ?_)
    rw [← h3]
    (try clear ih)
    (try simp only [dnw] at *)
    simp only [fnw, seval, Same] <;> simp [*]
    skip
   rw [andS_yes (by rw [hpa]), hpa] at h3
   have hup := hup rfl
   have hbn := hbn rfl
   dsimp only at hup hbn h3
   rw [andS_assoc] at h3
   by_cases hlo : 1 ≤ x.results.length
   case neg =>
    have e1 : decide ((x.results.length : Int) < 1) = true := decide_eq_true (by omega)
    rw [andS_no (by rw [decide_eq_false hlo]; rfl)] at h3
    simp only [W, seval, c46, hn, hi, e1]
    refine ARun.ret Tryz.func46 rfl (Left.set (by rfl) ?_)
    rw [← h3]
    (try clear ih)
    (try simp only [dnw] at *)
    simp only [fnw, seval, Same] <;> simp [*]
    rfl
   have e1 : decide ((x.results.length : Int) < 1) = false := decide_eq_false (by omega)
   by_cases hhi : x.results.length ≤ 20
   case neg =>
    have e2 : decide ((20 : Int) < (x.results.length : Int)) = true := decide_eq_true (by omega)
    rw [andS_no (by rw [decide_eq_false hhi, Bool.and_false]; rfl)] at h3
    simp only [W, seval, c46, hn, hi, e1, e2]
    refine ARun.ret Tryz.func46 rfl (Left.set (by rfl) ?_)
    rw [← h3]
    (try clear ih)
    (try simp only [dnw] at *)
    simp only [fnw, seval, Same] <;> simp [*]
    rfl
   have e2 : decide ((20 : Int) < (x.results.length : Int)) = false := decide_eq_false (by omega)
   rw [andS_yes (by rw [decide_eq_true hlo, decide_eq_true hhi]; rfl)] at h3
   change andS _ _ r = res at h3
   rw [andS_assoc] at h3
   simp only [W, seval, c46, hn, hi, e1, e2]
   have hgd := ty_good N c B [[.ptr c 0], [.d (.sl (pr.structs.map suD)), .d (.sl (pr.funcs.map fuD))], [.d (.str x.name), .d (.sl (x.params.map paD)), .d (.sl (x.results.map tyD)), .d (.sl (x.body.map stD))]] T hc (fun q => by rw [bx_loc0 (by simpa using hn)]; rfl) x.results r ⟨by omega, hbn⟩
   have hcf := containsFunc_Type 93 [] [.ptr N 0] (fun q : Int => ⟨B.set c [.d (.int .i64 q)] ++ [[.ptr c 0], [.d (.sl (pr.structs.map suD)), .d (.sl (pr.funcs.map fuD))], [.d (.str x.name), .d (.sl (x.params.map paD)), .d (.sl (x.results.map tyD)), .d (.sl (x.body.map stD))]], T⟩) (fun x q => (!(tyS identS x 0 q).1, (tyS identS x 0 q).2)) (fun _ _ => ⟨by simp, rfl⟩) x.results (by omega) r hgd
   rw [anyF_row (fun x => tyS identS x 0)] at hcf
   refine callS_fn hcf ?_
   rintro _ _ ⟨rfl, rfl⟩
   have hup2 := (Cnts.row (f := fun t p => tyS identS t 0 p) (c := tcS) x.results fun t _ => Cnts.ty t 0).up r
   have hbn2 := Bnds.row (f := fun t p => tyS identS t 0 p) (fun t => Bnds.ty t 0) x.results r hbn
   obtain ⟨⟨b, r2⟩, hty⟩ : ∃ z, rowS (fun t p => tyS identS t 0 p) x.results r = z := ⟨_, rfl⟩
   rw [hty] at hup2 hbn2
   refine ARun.go 200 ?_
   simp only [W, seval, c46, hn, hi, hty]
   cases b
   ·rw [andS_no (by rw [hty]), hty] at h3
    simp only [W, seval, c46, hn, hi]
    refine ARun.ret Tryz.func46 rfl (Left.set (by rfl) ?_)
    rw [← h3]
    (try clear ih)
    (try simp only [dnw] at *)
    simp only [fnw, seval, Same] <;> simp [*]
    skip
   rw [andS_yes (by rw [hty]), hty] at h3
   have hup2 := hup2 rfl
   have hbn2 := hbn2 rfl
   dsimp only at hup2 hbn2 h3
   simp only [W, seval, c46, hn, hi]
   refine callS_fn (stmts_ab n x.body (hst x hxm) c 0 r2 _ T (by rw [bx_old (by simp; omega)]; exact bx_get hc) ⟨by omega, hbn2⟩ ⟨by omega, by omega⟩) ?_
   rintro _ _ ⟨rfl, rfl⟩
   have hup3 := (Cnts.row (f := fun s => stS n s 0) (c := stC n) x.body fun y _ => Cnts.st n y 0).up r2
   have hbn3 := Bnds.row (f := fun s => stS n s 0) (fun y => Bnds.st n y 0) x.body r2 hbn2
   obtain ⟨⟨b, r3⟩, hst3⟩ : ∃ z, rowS (fun s => stS n s 0) x.body r2 = z := ⟨_, rfl⟩
   rw [hst3] at hup3 hbn3
   refine ARun.go 200 ?_
   simp only [W, seval, c46, hn, hi, hst3]
   cases b
   ·rw [andS_no (by rw [hst3]), hst3] at h3
    simp only [W, seval, c46, hn, hi]
    refine ARun.ret Tryz.func46 rfl (Left.set (by rfl) ?_)
    rw [← h3]
    (try clear ih)
    (try simp only [dnw] at *)
    simp only [fnw, seval, Same] <;> simp [*]
    skip
   rw [andS_yes (by rw [hst3]), hst3] at h3
   have hup3 := hup3 rfl
   have hbn3 := hbn3 rfl
   dsimp only at hup3 hbn3 h3
   simp only [W, seval, c46, hn, hi, hw]
   rw [app3]
   refine ih (i + 1, r3) ⟨hlt, ⟨by dsimp only; omega, hbn3⟩, h3⟩ (by dsimp only; omega) _ _ _ _ rfl ⟨by simp; omega, Nat.le_refl _⟩ (hf2 r3) ?_
   refine AgreeF.env _ ?_
   simp only [agf, seval, hn, List.length_append, List.length_cons, List.length_nil, Nat.zero_add, Nat.reduceAdd, hN1, hN2]
  ·have hlt' : decide ((i : Int) < (pr.funcs.length : Int)) = false := decide_eq_false (by omega)
   rw [List.drop_eq_nil_of_le (by omega)] at h3
   refine ARun.go 100 ?_
   simp only [W, seval, c46, hn, hi, hlt']
   refine ARun.ret Tryz.func46 rfl (Left.set (by rfl) ?_)
   rw [← h3]
   (try clear ih)
   (try simp only [dnw] at *)
   simp only [fnw, seval, Same] <;> simp [*]
   rw [← h3]
   exact ⟨rfl, rfl⟩
set_option maxHeartbeats 1000000 in
theorem right_ab (n : Nat) (pr : PrT) (hst : ∀ f ∈ pr.funcs, ∀ x ∈ f.body, StmtOk n x) (B : List (List V)) (T : List (Nat × Nat)) :
 AFn Tryz.prog TabI 16 [prV pr] ⟨B, T⟩ (Same (.d (.bool (prS n pr 0).1)) ⟨B, T⟩) := by
 obtain ⟨N, hn⟩ : ∃ N, B.length = N := ⟨_, rfl⟩
 have h := prog_ab n pr hst (N + 1) 0 (B ++ [[.d (.sl (pr.structs.map suD)), .d (.sl (pr.funcs.map fuD))], [.d (.int .i64 0)]]) T (by rw [bx_loc hn]; rfl) (by omega)
 unfold prV at h ⊢
 refine b16.go 100 rfl fun hsm => ?_
 simp only [smw] at hsm
 simp only [W, seval, c16, hn]
 refine callS_fn h ?_
 rintro _ _ ⟨rfl, rfl⟩
 refine ARun.go 100 ?_
 simp only [W, seval, c16, hn]
 refine ARun.ret Tryz.func16 rfl (Left.box ?_)
 (try clear ih)
 (try simp only [dnw] at *)
 simp only [fnw, seval, Same] <;> simp [*]
 skip
end Go.Proofs.YtnfnbjjnjjdjdaaGreatDoor
namespace Go.Ab
open Go.RowKit Go.Av
def lookW : List (Nat × Nat × Nat × List Nat) → Nat → Nat → Option (Nat × List Nat)
 | [], _, _ => none
 | (f, r, p, A) :: l, g, s => match Nat.beq f g && Nat.beq r s with
  | true => some (p, A)
  | false => lookW l g s
end Go.Ab
namespace Go.Proofs.YtnfnbjjnjjdjdaaGreatDoor
open Go.RowKit Go.Av Go.Ab
set_option maxRecDepth 100000
def tabW : List (Nat × Nat × Nat × List Nat) := [(101, 1, 14, [13]), (203, 7, 8, []), (21, 8, 5, []), (21, 10, 5, []), (60, 6, 5, []), (60, 12, 5, []),
 (207, 11, 5, []), (207, 13, 5, []), (207, 15, 8, []), (207, 20, 7, []), (190, 7, 5, [])]
theorem namesW : namesOkW Tryz.prog = true := by kernel_rfl
def txA : List UInt8 := [112, 97, 99, 107, 97, 103, 101, 32, 112, 32, 102, 117, 110, 99, 32, 102, 40, 97, 32, 105, 110, 116, 41, 32, 40, 105, 110, 116, 41, 32, 123, 32, 114, 101, 116, 117, 114, 110, 32, 97, 32, 43, 32, 49, 32, 125]
def txB : List UInt8 := [112, 97, 99, 107, 97, 103, 101, 32, 112, 32, 102, 117, 110, 99, 32, 102, 40, 97, 32, 105, 110, 116, 41, 32, 40, 98, 121, 116, 101, 41, 32, 123, 32, 114, 101, 116, 117, 114, 110, 32, 97, 32, 43, 32, 49, 32, 125]
def pgT (k : Int) (t : TyT) : PrT := ⟨[], [⟨[102], [⟨[97], .mk 4 [] []⟩], [.mk k [] []], [.mk 6 [] (.mk 0 [] []) [] [.mk 6 [43] 0 (.mk 0 [] []) [] [.mk 1 [97] 0 (.mk 0 [] []) [] [], .mk 2 [] 1 t [] []]] [] [] []]⟩]⟩
theorem takeT_ab {bs : List UInt8} (h0 : bs ≠ []) (hl : bs.length ≤ 400000) (i : Int) (S : Mem) : AFn Tryz.prog TabI 128 [.d (.sl (byD bs)), .d (.int .i64 i)] S (Same (.tup [.agg (wdL (takeS bs i).1), .d (.int .i64 ((takeS bs i).2 : Nat))]) S) := by
 refine AFn.of_calls Tryz.func128 rfl (by kernel_rfl) fun c w xs h1 h2 h3 hI => ?_
 have hv0 := h2 0 (by simp)
 have hv1 := h2 1 (by simp)
 obtain ⟨x, y, rfl⟩ : ∃ x y, xs = #[x, y] := ⟨xs[0]'(by simp at h1; omega), xs[1]'(by simp at h1; omega), by
  apply Array.ext
  ·simpa using h1
  ·intro j hj hj'
   have : j = 0 ∨ j = 1 := by simp at hj'; omega
   rcases this with rfl | rfl <;> rfl⟩
 simp at hv0 hv1
 cases hv1 with
 | d _ _ hv1 => cases hv1 with
  | int => cases hv0 with
   | d _ _ hv0 => cases hv0 with
    | sl _ sz a cap f hsz hr hcp hm hs hd =>
     have hC : Calls Tryz.prog 128 #[.slice a (byD bs).length cap, .int .i64 i] w (Took (takeS bs i) w) := by
      have hne : byD bs ≠ [] := by simpa [byD] using h0
      obtain ⟨g, off, ha, hc⟩ := hs hne
      have hbl : (byD bs).length = bs.length := by simp [byD]
      have hz : sz = 1 := by
       obtain ⟨b, r, rfl⟩ : ∃ b r, bs = b :: r := by cases bs with
        | nil => exact absurd rfl h0
        | cons b r => exact ⟨b, r, rfl⟩
       exact (hr _ List.mem_cons_self).symm
      subst hz
      have hlp : 0 < bs.length := List.length_pos_iff.2 h0
      have hcell : ∀ j u, (bv bs)[j]? = some u → w.cell? ⟨g, off + j, none⟩ = some u := by
       intro j u hu
       obtain ⟨b, hb, rfl⟩ := bv_get? hu
       obtain ⟨hj, hb⟩ := List.getElem?_eq_some_iff.1 hb
       have hjD : j < (byD bs).length := by omega
       have hrow : (byD bs)[j] = [.int .u8 (b.toNat : Int)] := by simp [byD, hb, byteRow]
       have h4 := hc j hjD 0 (by rw [hrow]; simp)
       have h5 := hd j hjD 0 (by rw [hrow]; simp)
       simp only [hrow, List.getElem_cons_zero] at h5
       cases hf : f j 0 with
       | int k n =>
        rw [hf] at h5
        cases h5
        rw [← hf]
        simpa using h4.2
       | _ => rw [hf] at h5; cases h5
      have hg : g < w.heap.size := by
       have := hcell 0 (.int .u8 ((bs[0]'hlp).toNat : Int)) (bv_at (List.getElem?_eq_getElem hlp))
       exact cell_lt this
      exact gTake w.heap.size _ bs i w hI (.inr ⟨g, off, cap, by rw [ha, hbl], hg, by omega, hm, hcell⟩) (Nat.le_refl _)
     refine hC.mono ?_
     rintro e w' ⟨rfl, hb⟩
     have htl := text_len bs i
     refine ⟨_, _, rfl, ⟨rfl, rfl⟩, hb, .tup _ _ rfl fun j hj => ?_⟩
     have hj2 : j = 0 ∨ j = 1 := by simp at hj; omega
     rcases hj2 with rfl | rfl
     ·refine .agg _ _ rfl (fun j hj => ?_) (fun j hj => ?_)
      ·have hj5 : j = 0 ∨ j = 1 ∨ j = 2 ∨ j = 3 ∨ j = 4 := by simp [wdL] at hj; omega
       rcases hj5 with rfl | rfl | rfl | rfl | rfl
       ·exact .d _ _ (.int _ _)
       ·exact .d _ _ (.str _ (by omega))
       ·exact .d _ _ (.int _ _)
       ·exact .d _ _ (.int _ _)
       ·exact .d _ _ (.int _ _)
      ·have hj5 : j = 0 ∨ j = 1 ∨ j = 2 ∨ j = 3 ∨ j = 4 := by simp [wdL] at hj; omega
       rcases hj5 with rfl | rfl | rfl | rfl | rfl <;> rfl
     ·exact .d _ _ (.int _ _)
noncomputable def rgP (p : PrT) : Bool := (prS (SizeOf.sizeOf p.funcs) p 0).1
theorem rgP_ab (p : PrT) (B : List (List V)) (T : List (Nat × Nat)) : AFn Tryz.prog TabI 16 [prV p] ⟨B, T⟩ (Same (.d (.bool (rgP p))) ⟨B, T⟩) := by
 refine right_ab (SizeOf.sizeOf p.funcs) p (fun f hf x hx => stmt_ab _ x (Dp.of_size _ x ?_)) B T
 have h1 := List.sizeOf_lt_of_mem hf
 have h2 := List.sizeOf_lt_of_mem hx
 have h3 : SizeOf.sizeOf f.body < SizeOf.sizeOf f := by cases f; simp only [FuT.mk.sizeOf_spec]; omega
 omega
noncomputable def orcW (bs : List UInt8) (p : PrT) : FuncId → List V → Option V := fun g args =>
 match Nat.beq g 128 with
 | true => match args with
  | [.d (.sl rows), .d (.int .i64 i)] => match eqRows rows (byD bs) with
   | true => some (.tup [.agg (wdL (takeS bs i).1), .d (.int .i64 ((takeS bs i).2 : Nat))])
   | false => none
  | _ => none
 | false => match Nat.beq g 16 with
  | true => match args with
   | [.agg [.d a, .d b]] => match eqD a (.sl (p.structs.map suD)) && eqD b (.sl (p.funcs.map fuD)) with
    | true => some (.d (.bool (rgP p)))
    | false => none
   | _ => none
  | false => none
theorem orcW_ok {bs : List UInt8} (h0 : bs ≠ []) (hl : bs.length ≤ 400000) (p : PrT) : ∀ g args v, orcW bs p g args = some v → AFn Tryz.prog TabI g args ⟨[], []⟩ (fun v' _ => v' = v) := by
 intro g args v h
 unfold orcW at h
 split at h
 ·rename_i hg
  obtain rfl := Nat.eq_of_beq_eq_true hg
  split at h
  case h_2 => cases h
  split at h
  case h_2 => cases h
  rename_i he
  obtain rfl := eqRows_ok _ _ he
  obtain rfl := Option.some.inj h
  exact (takeT_ab h0 hl _ _).mono fun _ _ h => h.1
 ·split at h
  case h_2 => cases h
  rename_i hg
  obtain rfl := Nat.eq_of_beq_eq_true hg
  split at h
  case h_2 => cases h
  split at h
  case h_2 => cases h
  rename_i he
  rw [Bool.and_eq_true] at he
  obtain rfl := eqD_ok _ _ he.1
  obtain rfl := eqD_ok _ _ he.2
  obtain rfl := Option.some.inj h
  exact (rgP_ab p [] []).mono fun _ _ h => h.1
theorem parseA_run : ewCall Tryz.prog TabI (orcW txA (pgT 4 (.mk 0 [] []))) (lookW tabW) 100000 21 [.d (.sl (byD txA))] = some (.tup [prV (pgT 4 (.mk 0 [] [])), .d (.int .i64 0)]) := by kernel_rfl
theorem parseB_run : ewCall Tryz.prog TabI (orcW txB (pgT 2 (.mk 0 [] []))) (lookW tabW) 100000 21 [.d (.sl (byD txB))] = some (.tup [prV (pgT 2 (.mk 0 [] [])), .d (.int .i64 0)]) := by kernel_rfl
theorem parseA_ab : AFn Tryz.prog TabI 21 [.d (.sl (byD txA))] ⟨[], []⟩ fun v' _ => v' = .tup [prV (pgT 4 (.mk 0 [] [])), .d (.int .i64 0)] := ewCall_ok namesW (orcW_ok (by simp [txA]) (by simp [txA]) _) parseA_run
theorem parseB_ab : AFn Tryz.prog TabI 21 [.d (.sl (byD txB))] ⟨[], []⟩ fun v' _ => v' = .tup [prV (pgT 2 (.mk 0 [] [])), .d (.int .i64 0)] := ewCall_ok namesW (orcW_ok (by simp [txB]) (by simp [txB]) _) parseB_run
end Go.Proofs.YtnfnbjjnjjdjdaaGreatDoor
namespace Go.Proofs.YtnfnbjjnjjdjdaaGreatDoor
open Go.RowKit Go.Av
abbrev Wd := Nat × List UInt8 × Nat
def okD (l : List UInt8) : Bool :=
 decide (valD (l.takeWhile digitB) ≤ maxU) && !(decide ((l.takeWhile digitB).length < l.length) && letterB (l.getD (l.takeWhile digitB).length 0)) && !(decide (1 < (l.takeWhile digitB).length) && decide (l.getD 0 0 = 48))
def wl (l : List UInt8) : Option Wd :=
 if l = [] then some (0, [], 0)
 else if letterB (l.getD 0 0) = true then some (if reservedS (l.takeWhile wordB) = true then 4 else 1, l.takeWhile wordB, 0)
 else if digitB (l.getD 0 0) = true then (if okD l = true then some (2, l.takeWhile digitB, valD (l.takeWhile digitB)) else none)
 else match signAt l with
  | some s => some (3, s, 0)
  | none => none
def strip (x : WordS) : Wd := (x.kind, x.text, x.int)
set_option linter.unusedSimpArgs false
def wordsT : Nat → List UInt8 → List Wd
 | 0, _ => [(9, [], 0)]
 | f + 1, l => match wl (skipM false l) with
  | none => [(9, [], 0)]
  | some x => if x.1 = 0 then [(0, [], 0)] else x :: wordsT f ((skipM false l).drop x.2.1.length)
def stopB : List UInt8 → Bool
 | [] => true
 | c :: _ => !wordB c
inductive OkT : TyT → Prop
 | bas (k : Int) : 1 ≤ k → k ≤ 6 → OkT (.mk k [] [])
 | nam (n : List UInt8) : identS n = true → OkT (.mk 7 n [])
 | sli (t : TyT) : OkT t → OkT (.mk 8 [] [t])
theorem ok_type : ∀ (t : TyT) (d p : Int), (tyS identS t d p).1 = true → OkT t
 | .mk k n es, d, p, h => by
  unfold tyS at h
  by_cases hp : partOk d p = false
  ·rw [if_pos hp] at h; cases h
  rw [if_neg hp] at h
  by_cases h1 : 1 ≤ k ∧ k ≤ 6
  ·rw [if_pos h1] at h
   simp only [Bool.and_eq_true, decide_eq_true_eq] at h
   obtain rfl := List.eq_nil_of_length_eq_zero h.2
   obtain rfl := h.1
   exact .bas k h1.1 h1.2
  rw [if_neg h1] at h
  by_cases h7 : k = 7
  ·subst h7
   rw [if_pos rfl] at h
   simp only [Bool.and_eq_true, decide_eq_true_eq] at h
   obtain rfl := List.eq_nil_of_length_eq_zero h.2
   exact .nam n h.1
  rw [if_neg h7] at h
  match es, h with
  | [e], h =>
   dsimp only at h
   by_cases h8 : k = 8 ∧ n = []
   ·rw [if_pos h8] at h
    have ih := ok_type e _ _ h
    obtain ⟨rfl, rfl⟩ := h8
    exact .sli e ih
   ·rw [if_neg h8] at h; cases h
  | [], h => cases h
  | _ :: _ :: _, h => cases h
mutual
def numE : ExT → Prop
 | .mk _ _ i _ _ ks => (0 ≤ i ∧ i ≤ 18446744073709551615) ∧ numEs ks
def numEs : List ExT → Prop
 | [] => True
 | x :: l => numE x ∧ numEs l
end
inductive OkE : Int → ExT → Prop
 | nam (d : Int) (t : List UInt8) : d ≤ 60 → identS t = true → OkE d (.mk 1 t 0 noT [] [])
 | num (d i : Int) : d ≤ 60 → 0 ≤ i → i ≤ 18446744073709551615 → OkE d (.mk 2 [] i noT [] [])
 | tru (d i : Int) : d ≤ 60 → 0 ≤ i → i ≤ 1 → OkE d (.mk 3 [] i noT [] [])
 | sgn (d k : Int) (y : ExT) : d ≤ 60 → k = 4 ∨ k = 5 → OkE (d + 1) y → OkE d (.mk k [] 0 noT [] [y])
 | bin (d : Int) (t : List UInt8) (y z : ExT) : d ≤ 60 → 0 < rankS t → OkE (d + 1) y → OkE (d + 1) z → OkE d (.mk 6 t 0 noT [] [y, z])
 | cal (d : Int) (t : List UInt8) (ks : List ExT) : d ≤ 60 → identS t = true → (∀ x ∈ ks, OkE (d + 1) x) → OkE d (.mk 7 t 0 noT [] ks)
 | con (d k : Int) (y : ExT) : d ≤ 60 → 2 ≤ k → k ≤ 6 → OkE (d + 1) y → OkE d (.mk 8 [] 0 (.mk k [] []) [] [y])
 | fld (d : Int) (t : List UInt8) (y : ExT) : d ≤ 60 → identS t = true → OkE (d + 1) y → OkE d (.mk 9 t 0 noT [] [y])
 | idx (d : Int) (y z : ExT) : d ≤ 60 → OkE (d + 1) y → OkE (d + 1) z → OkE d (.mk 10 [] 0 noT [] [y, z])
 | cut (d : Int) (y z u : ExT) : d ≤ 60 → OkE (d + 1) y → OkE (d + 1) z → OkE (d + 1) u → OkE d (.mk 11 [] 0 noT [] [y, z, u])
 | len (d : Int) (y : ExT) : d ≤ 60 → OkE (d + 1) y → OkE d (.mk 12 [] 0 noT [] [y])
 | app (d : Int) (y z : ExT) : d ≤ 60 → OkE (d + 1) y → OkE (d + 1) z → OkE d (.mk 13 [] 0 noT [] [y, z])
 | str (d : Int) (n : List UInt8) (ns : List (List UInt8)) (ks : List ExT) : d ≤ 60 → identS n = true → ns.length = ks.length → (∀ m ∈ ns, identS m = true) → (∀ x ∈ ks, OkE (d + 1) x) → OkE d (.mk 14 [] 0 (.mk 7 n []) ns ks)
 | lis (d : Int) (t : TyT) (ks : List ExT) : d ≤ 60 → OkT t → (∀ x ∈ ks, OkE (d + 1) x) → OkE d (.mk 15 [] 0 (.mk 8 [] [t]) [] ks)
theorem names_ident {l : List (List UInt8)} (h : diffS l.length l = true) : ∀ n ∈ l, identS n = true := by
 have hd : ∀ (j : Nat) (l : List (List UInt8)), diffS j l = true → ∀ i < j, identS (l.getD i []) = true := by
  intro j
  induction j with
  | zero => exact fun _ _ i hi => absurd hi (Nat.not_lt_zero _)
  | succ j ih =>
   intro l h i hi
   unfold diffS at h
   simp only [Bool.and_eq_true] at h
   rcases Nat.lt_or_ge i j with h1 | h1
   ·exact ih l h.1.1 i h1
   ·obtain rfl : i = j := by omega
    exact h.1.2
 intro n hn
 obtain ⟨i, hi, rfl⟩ := List.mem_iff_getElem.1 hn
 have := hd l.length l h i hi
 simpa [List.getD, hi] using this
theorem zero_noT {t : TyT} (h : zeroS t = true) : t = noT := by
 obtain ⟨k, n, es⟩ := t
 unfold zeroS at h
 simp only [Bool.and_eq_true] at h
 obtain ⟨⟨h1, h2⟩, h3⟩ := h
 obtain rfl : k = 0 := of_decide_eq_true h1
 obtain rfl : n = [] := of_decide_eq_true h2
 obtain rfl := List.eq_nil_of_length_eq_zero (show es.length = 0 from of_decide_eq_true h3)
 rfl
theorem bare_all {x : ExT} {d p : Int} (h : (bareS x d p).1 = true) : (bareT x d p).1 = true ∧ (¬ (x.kind = 1 ∨ x.kind = 7 ∨ x.kind = 9 ∨ x.kind = 6) → x.text = []) ∧ (¬ (x.kind = 2 ∨ x.kind = 3) → x.int = 0) ∧
 (¬ (x.kind = 8 ∨ x.kind = 14 ∨ x.kind = 15) → x.type = noT) ∧ (¬ x.kind = 14 → x.names = []) := by
 unfold bareS at h
 simp only [Bool.and_eq_true] at h
 obtain ⟨⟨⟨⟨h1, h2⟩, h3⟩, h4⟩, h5⟩ := h
 refine ⟨h1, fun hk => ?_, fun hk => ?_, fun hk => ?_, fun hk => ?_⟩
 ·rw [if_neg hk] at h2
  simpa using h2
 ·rw [if_neg hk] at h3
  simpa using h3
 ·rw [if_neg hk] at h4
  exact zero_noT (by simpa using h4)
 ·rw [if_neg hk] at h5
  simpa using h5
theorem ok_make {k : Int} {t : List UInt8} {i : Int} {ty : TyT} {ns : List (List UInt8)} {ks : List ExT} {d p : Int} (hd : d ≤ 60) (hm : ¬ (mostS k < (ks.length : Int) ∨ manyS k = -2 ∨ (0 ≤ manyS k ∧ (ks.length : Int) ≠ manyS k)))
 (hb : (bareS (.mk k t i ty ns ks) d p).1 = true) (hi : 0 ≤ i ∧ i ≤ 18446744073709551615) (hks : ∀ x ∈ ks, OkE (d + 1) x) : OkE d (.mk k t i ty ns ks) := by
 obtain ⟨b1, b2, b3, b4, b5⟩ := bare_all hb
 change ¬ (k = 1 ∨ k = 7 ∨ k = 9 ∨ k = 6) → t = [] at b2
 change ¬ (k = 2 ∨ k = 3) → i = 0 at b3
 change ¬ (k = 8 ∨ k = 14 ∨ k = 15) → ty = noT at b4
 change ¬ k = 14 → ns = [] at b5
 have c1 : (if k = 8 then (if 2 ≤ ty.kind ∧ ty.kind ≤ 6 then tyS identS ty (d + 1) p else (false, p))
  else if k = 14 then (if ty.kind = 7 then (if (tyS identS ty (d + 1) p).1 = true then (decide (ns.length = ks.length) && diffS ns.length ns, (tyS identS ty (d + 1) p).2) else (false, (tyS identS ty (d + 1) p).2)) else (false, p))
  else if k = 15 then (if ty.kind = 8 then tyS identS ty (d + 1) p else (false, p))
  else (if k = 1 ∨ k = 7 ∨ k = 9 then identS t else if k = 6 then decide (0 < rankS t) else if k = 3 then decide (i ≤ 1) else true, p)).1 = true := b1
 clear b1
 have hlen : 0 ≤ manyS k → (ks.length : Int) = manyS k := fun h => by
  by_cases e : (ks.length : Int) = manyS k
  ·exact e
  ·exact absurd (.inr (.inr ⟨h, e⟩)) hm
 have hne : ¬ manyS k = -2 := fun e => hm (.inr (.inl e))
 unfold manyS at hlen hne
 by_cases k8 : k = 8
 ·subst k8
  rw [if_pos rfl] at c1
  obtain rfl := b2 (by omega)
  obtain rfl := b3 (by omega)
  obtain rfl := b5 (by omega)
  have hl := hlen (by decide)
  by_cases hq : 2 ≤ ty.kind ∧ ty.kind ≤ 6
  ·rw [if_pos hq] at c1
   have := ok_type ty _ _ c1
   match ks, hl with
   | [y], _ =>
    cases this with
    | bas k' _ _ => exact .con d k' y hd hq.1 hq.2 (hks y (by simp))
    | nam _ _ => exact absurd hq.2 (by simp [TyT.kind])
    | sli _ _ => exact absurd hq.2 (by simp [TyT.kind])
   | [], h => exact absurd h (by decide)
   | _ :: _ :: _, h => simp at h; omega
  ·rw [if_neg hq] at c1; cases c1
 rw [if_neg k8] at c1
 by_cases k14 : k = 14
 ·subst k14
  rw [if_pos rfl] at c1
  obtain rfl := b2 (by omega)
  obtain rfl := b3 (by omega)
  by_cases hq : ty.kind = 7
  ·rw [if_pos hq] at c1
   by_cases ht : (tyS identS ty (d + 1) p).1 = true
   ·rw [if_pos ht] at c1
    simp only [Bool.and_eq_true, decide_eq_true_eq] at c1
    have := ok_type ty _ _ ht
    cases this with
    | bas k' h1 h2 => have : k' = 7 := hq; omega
    | nam n hn => exact .str d n ns ks hd hn c1.1 (names_ident c1.2) hks
    | sli _ _ => exact absurd hq (by simp [TyT.kind])
   ·rw [if_neg ht] at c1; cases c1
  ·rw [if_neg hq] at c1; cases c1
 rw [if_neg k14] at c1
 obtain rfl := b5 k14
 by_cases k15 : k = 15
 ·subst k15
  rw [if_pos rfl] at c1
  obtain rfl := b2 (by omega)
  obtain rfl := b3 (by omega)
  by_cases hq : ty.kind = 8
  ·rw [if_pos hq] at c1
   have := ok_type ty _ _ c1
   cases this with
   | bas k' h1 h2 => have : k' = 8 := hq; omega
   | nam n hn => exact absurd hq (by simp [TyT.kind])
   | sli t ht => exact .lis d t ks hd ht hks
  ·rw [if_neg hq] at c1; cases c1
 rw [if_neg k15] at c1
 obtain rfl := b4 (by omega)
 dsimp only at c1
 by_cases k1 : k = 1
 ·subst k1
  obtain rfl := b3 (by omega)
  obtain rfl := List.eq_nil_of_length_eq_zero (Int.ofNat_inj.1 (hlen (by decide)))
  exact .nam d t hd c1
 by_cases k7 : k = 7
 ·subst k7
  obtain rfl := b3 (by omega)
  exact .cal d t ks hd c1 hks
 by_cases k9 : k = 9
 ·subst k9
  obtain rfl := b3 (by omega)
  have hl := hlen (by decide)
  match ks, hl with
  | [y], _ => exact .fld d t y hd c1 (hks y (by simp))
  | [], h => exact absurd h (by decide)
  | _ :: _ :: _, h => simp at h; omega
 by_cases k6 : k = 6
 ·subst k6
  obtain rfl := b3 (by omega)
  have hl := hlen (by decide)
  match ks, hl with
  | [y, z], _ => exact .bin d t y z hd (of_decide_eq_true c1) (hks y (by simp)) (hks z (by simp))
  | [], h => exact absurd h (by decide)
  | [_], h => simp at h
  | _ :: _ :: _ :: _, h => simp at h; omega
 obtain rfl := b2 (by omega)
 by_cases k2 : k = 2
 ·subst k2
  obtain rfl := List.eq_nil_of_length_eq_zero (Int.ofNat_inj.1 (hlen (by decide)))
  exact .num d i hd hi.1 hi.2
 by_cases k3 : k = 3
 ·subst k3
  obtain rfl := List.eq_nil_of_length_eq_zero (Int.ofNat_inj.1 (hlen (by decide)))
  exact .tru d i hd hi.1 (of_decide_eq_true c1)
 obtain rfl := b3 (by omega)
 by_cases k45 : k = 4 ∨ k = 5
 ·have hl : (ks.length : Int) = 1 := by
   have := hlen
   rcases k45 with rfl | rfl <;> exact this (by decide)
  match ks, hl with
  | [y], _ => exact .sgn d k y hd k45 (hks y (by simp))
  | [], h => exact absurd h (by decide)
  | _ :: _ :: _, h => simp at h; omega
 by_cases k12 : k = 12
 ·subst k12
  have hl := hlen (by decide)
  match ks, hl with
  | [y], _ => exact .len d y hd (hks y (by simp))
  | [], h => exact absurd h (by decide)
  | _ :: _ :: _, h => simp at h; omega
 by_cases k10 : k = 10
 ·subst k10
  have hl := hlen (by decide)
  match ks, hl with
  | [y, z], _ => exact .idx d y z hd (hks y (by simp)) (hks z (by simp))
  | [], h => exact absurd h (by decide)
  | [_], h => simp at h
  | _ :: _ :: _ :: _, h => simp at h; omega
 by_cases k13 : k = 13
 ·subst k13
  have hl := hlen (by decide)
  match ks, hl with
  | [y, z], _ => exact .app d y z hd (hks y (by simp)) (hks z (by simp))
  | [], h => exact absurd h (by decide)
  | [_], h => simp at h
  | _ :: _ :: _ :: _, h => simp at h; omega
 by_cases k11 : k = 11
 ·subst k11
  have hl := hlen (by decide)
  match ks, hl with
  | [y, z, u], _ => exact .cut d y z u hd (hks y (by simp)) (hks z (by simp)) (hks u (by simp))
  | [], h => exact absurd h (by decide)
  | [_], h => simp at h
  | [_, _], h => simp at h
  | _ :: _ :: _ :: _ :: _, h => simp at h; omega
 ·exfalso
  apply hne
  rw [if_neg (by omega), if_neg (by omega), if_neg (by omega), if_neg (by omega), if_neg (by omega)]
mutual
theorem ok_expr : ∀ (x : ExT) (d p : Int), (exS x d p).1 = true → numE x → OkE d x
 | .mk k t i ty ns ks, d, p, h, hn => by
  unfold exS at h
  unfold numE at hn
  by_cases hp : partOk d p = false
  ·rw [if_pos hp] at h; cases h
  have hp2 : partOk d p = true := by simpa using hp
  rw [if_neg hp] at h
  by_cases h1 : mostS k < (ks.length : Int) ∨ manyS k = -2 ∨ (0 ≤ manyS k ∧ (ks.length : Int) ≠ manyS k)
  ·rw [if_pos h1] at h; cases h
  rw [if_neg h1] at h
  by_cases h2 : (bareS (.mk k t i ty ns ks) d (p + 1)).1 = false
  ·rw [if_pos h2] at h; cases h
  rw [if_neg h2] at h
  unfold partOk at hp2
  rw [Bool.and_eq_true, decide_eq_true_iff, decide_eq_true_iff] at hp2
  exact ok_make hp2.2 h1 (by simpa using h2) hn.1 (ok_exprs ks _ _ h hn.2)
theorem ok_exprs : ∀ (l : List ExT) (d p : Int), (exsS l d p).1 = true → numEs l → ∀ x ∈ l, OkE d x
 | [], _, _, _, _, x, hx => absurd hx List.not_mem_nil
 | y :: l, d, p, h, hn, x, hx => by
  unfold exsS at h
  unfold numEs at hn
  by_cases h1 : (exS y d p).1 = false
  ·rw [if_pos h1] at h; cases h
  rw [if_neg h1] at h
  rcases List.mem_cons.1 hx with e | hx
  ·rw [e]
   exact ok_expr y d p (by simpa using h1) hn.1
  ·exact ok_exprs l _ _ h hn.2 x hx
end
set_option linter.unusedVariables false
def Lx (s : List UInt8) (t : List Wd) : Prop := ∀ (f : Nat) (r : List UInt8), stopB r = true → wordsT (f + t.length) (s ++ r) = t ++ wordsT f r
def LxA (s : List UInt8) (t : List Wd) : Prop := ∀ (f : Nat) (r : List UInt8), wordsT (f + t.length) (s ++ r) = t ++ wordsT f r
theorem LxA.app {s1 s2 : List UInt8} {t1 t2 : List Wd} (h1 : LxA s1 t1) (h2 : LxA s2 t2) : LxA (s1 ++ s2) (t1 ++ t2) := fun f r => by
 rw [List.append_assoc, List.length_append, Nat.add_comm t1.length, ← Nat.add_assoc, h1, h2, List.append_assoc]
theorem LxA.then {s1 s2 : List UInt8} {t1 t2 : List Wd} (h1 : LxA s1 t1) (h2 : Lx s2 t2) : Lx (s1 ++ s2) (t1 ++ t2) := fun f r hr => by
 rw [List.append_assoc, List.length_append, Nat.add_comm t1.length, ← Nat.add_assoc, h1, h2 f r hr, List.append_assoc]
theorem Lx.then {s1 s2 : List UInt8} {t1 t2 : List Wd} (h1 : Lx s1 t1) (hs : ∀ r, stopB r = true → stopB (s2 ++ r) = true) (h2 : Lx s2 t2) : Lx (s1 ++ s2) (t1 ++ t2) := fun f r hr => by
 rw [List.append_assoc, List.length_append, Nat.add_comm t1.length, ← Nat.add_assoc, h1 _ _ (hs r hr), h2 f r hr, List.append_assoc]
theorem Lx.shut {s1 s2 : List UInt8} {t1 t2 : List Wd} (h1 : Lx s1 t1) (hs : ∀ r, stopB (s2 ++ r) = true) (h2 : LxA s2 t2) : LxA (s1 ++ s2) (t1 ++ t2) := fun f r => by
 rw [List.append_assoc, List.length_append, Nat.add_comm t1.length, ← Nat.add_assoc, h1 _ _ (hs r), h2 f r, List.append_assoc]
def bndP {α β : Type} (p : α × Ps) (f : α → Ps → β × Ps) : β × Ps := f p.1 p.2
theorem Dn.zero {a b : Ps} (h : Dn a b) (hb : b.e = 0) : a.e = 0 := by
 by_cases ha : a.e = 0
 ·exact ha
 ·rw [h.e ha] at hb; exact hb
theorem Dn.bad {a b : Ps} (h : Dn a b) (ha : a.e = 51) : b.e = 51 := by
 rw [h.e (by omega), ha]
structure Sim (c : Wd) (tl : List Wd) (s t : Ps) : Prop where
 se : s.e = 0
 te : t.e = 0
 h : t.h = s.h
 ws : ∃ init : List Wd, s.ws.map strip = init ++ [(0, [], 0)] ∧ t.ws.map strip = init ++ c :: tl ∧ ∀ x ∈ init, x.1 ≠ 0 ∧ x.1 ≠ 9
section
variable {c : Wd} {tl : List Wd} {s t : Ps}
def Res (c : Wd) (tl : List Wd) {α : Type} (p q : α × Ps) : Prop := p.2.e = 0 → (q.1 = p.1 ∧ Sim c tl p.2 q.2) ∨ q.2.e = 51
theorem Res.pure {α : Type} {s t : Ps} (h : Sim c tl s t) (x : α) : Res c tl (x, s) (x, t) := fun _ => .inl ⟨rfl, h⟩
theorem Res.dead {α : Type} {p q : α × Ps} (h : ¬ p.2.e = 0) : Res c tl p q := fun h0 => absurd h0 h
theorem Res.bndP {α β : Type} {p q : α × Ps} {f g : α → Ps → β × Ps} (h : Res c tl p q) (hf : ∀ x s, Dn s (f x s).2) (hg : ∀ x s, Dn s (g x s).2) (hk : Sim c tl p.2 q.2 → Res c tl (f p.1 p.2) (g p.1 q.2)) : Res c tl (bndP p f) (bndP q g) := by
 intro h0
 rcases h ((hf p.1 p.2).zero h0) with ⟨e, hs⟩ | h51
 ·have := hk hs h0
  unfold Proofs.YtnfnbjjnjjdjdaaGreatDoor.bndP
  rw [e]
  exact this
 ·exact .inr ((hg q.1 q.2).bad h51)
theorem next_step {w : WordS} {r : List WordS} {o : Int} {h : Bool} (hr : ¬ (r.headD .zero).kind = 9) : nextP ⟨w :: r, 0, o, h⟩ = ⟨r, 0, o, h⟩ := by
 unfold nextP
 rw [if_pos rfl]
 exact if_neg hr
theorem Sim.split (hs : Sim c tl s t) (hc : c.1 ≠ 9) : (s.w.kind = 0 ∧ strip t.w = c) ∨ (s.w.kind ≠ 0 ∧ strip t.w = strip s.w ∧ ∀ o o' : Int, Sim c tl (nextP ⟨s.ws, 0, o, s.h⟩) (nextP ⟨t.ws, 0, o', t.h⟩)) := by
 obtain ⟨se, te, hh, init, h1, h2, h3⟩ := hs
 cases init with
 | nil =>
  obtain ⟨w, r, e1, e2, e3⟩ := List.map_eq_cons_iff.1 h1
  obtain ⟨w', r', f1, f2, f3⟩ := List.map_eq_cons_iff.1 h2
  refine .inl ⟨?_, ?_⟩
  ·unfold Ps.w
   rw [e1]
   exact congrArg Prod.fst e2
  ·unfold Ps.w
   rw [f1]
   exact f2
 | cons x init =>
  obtain ⟨w, r, e1, e2, e3⟩ := List.map_eq_cons_iff.1 h1
  obtain ⟨w', r', f1, f2, f3⟩ := List.map_eq_cons_iff.1 h2
  have hx := h3 x List.mem_cons_self
  refine .inr ⟨?_, ?_, fun o o' => ?_⟩
  ·unfold Ps.w
   rw [e1]
   intro h0
   exact hx.1 (by rw [← e2]; exact h0)
  ·unfold Ps.w
   rw [e1, f1]
   exact f2.trans e2.symm
  ·have hr : ¬ (r.headD .zero).kind = 9 := by
    cases init with
    | nil =>
     obtain ⟨y, r2, g1, g2, _⟩ := List.map_eq_cons_iff.1 e3
     rw [g1]
     intro h9
     have : (strip y).1 = 9 := h9
     rw [g2] at this
     exact absurd this (by decide)
    | cons y l =>
     obtain ⟨y', r2, g1, g2, _⟩ := List.map_eq_cons_iff.1 e3
     rw [g1]
     intro h9
     have : (strip y').1 = 9 := h9
     rw [g2] at this
     exact (h3 y (by simp)).2 this
   have hr' : ¬ (r'.headD .zero).kind = 9 := by
    cases init with
    | nil =>
     obtain ⟨y, r2, g1, g2, _⟩ := List.map_eq_cons_iff.1 f3
     rw [g1]
     intro h9
     have : (strip y).1 = 9 := h9
     rw [g2] at this
     exact hc this
    | cons y l =>
     obtain ⟨y', r2, g1, g2, _⟩ := List.map_eq_cons_iff.1 f3
     rw [g1]
     intro h9
     have : (strip y').1 = 9 := h9
     rw [g2] at this
     exact (h3 y (by simp)).2 this
   rw [e1, f1, next_step hr, next_step hr']
   exact ⟨rfl, rfl, hh, init, e3, f3, fun y hy => h3 y (List.mem_cons_of_mem _ hy)⟩
theorem Sim.at (hs : Sim c tl s t) (hc : c.1 ≠ 9) (hk : s.w.kind ≠ 0) : t.w.kind = s.w.kind ∧ t.w.text = s.w.text ∧ t.w.int = s.w.int := by
 rcases hs.split hc with ⟨h, _⟩ | ⟨_, h, _⟩
 ·exact absurd h hk
 ·have h1 := congrArg Prod.fst h
  have h2 := congrArg (fun x : Wd => x.2.1) h
  have h3 := congrArg (fun x : Wd => x.2.2) h
  exact ⟨h1, h2, h3⟩
theorem Sim.next (hs : Sim c tl s t) (hc : c.1 ≠ 9) (hk : s.w.kind ≠ 0) : Sim c tl (nextP s) (nextP t) := by
 rcases hs.split hc with ⟨h, _⟩ | ⟨_, _, h⟩
 ·exact absurd h hk
 ·have := h s.o t.o
  obtain ⟨a, e, o, b⟩ := s
  obtain ⟨a', e', o', b'⟩ := t
  obtain rfl : e = 0 := hs.se
  obtain rfl : e' = 0 := hs.te
  exact this
theorem Sim.is (hs : Sim c tl s t) (hc : c.1 ≠ 9) (hk : s.w.kind ≠ 0) (T : List UInt8) : isP t T = isP s T := by
 obtain ⟨h1, h2, _⟩ := hs.at hc hk
 unfold isP
 rw [h1, h2, hs.se, hs.te]
theorem bump_ways {s : Ps} (he : s.e = 0) (T : List UInt8) : (∃ o, bumpP s T = ⟨s.ws, 0, o, s.h⟩) ∨ (bumpP s T).e = 51 := by
 obtain ⟨a, e, o, b⟩ := s
 obtain rfl : e = 0 := he
 unfold bumpP failP
 split
 ·split
  ·exact .inr rfl
  ·exact .inl ⟨_, rfl⟩
 ·split
  ·exact .inl ⟨_, rfl⟩
  ·exact .inl ⟨_, rfl⟩
theorem next_off {s : Ps} (h : ¬ s.e = 0) : nextP s = s := if_neg h
theorem want_eq (s : Ps) (T : List UInt8) : wantP s T = if isP s T = true then nextP (bumpP s T) else failP s 51 := by
 unfold wantP gotP
 cases isP s T <;> rfl
end
structure Cl (c : Wd) : Prop where
 k : c.1 ≠ 9
 t : c.2.1 = [41] ∨ c.2.1 = [125] ∨ c.2.1 = []
theorem Cl.ne {c : Wd} (h : Cl c) {T : List UInt8} (hT : T ≠ [41] ∧ T ≠ [125] ∧ T ≠ []) : T ≠ c.2.1 := by
 rcases h.t with e | e | e <;> rw [e]
 ·exact hT.1
 ·exact hT.2.1
 ·exact hT.2.2
section
variable {c : Wd} {tl : List Wd} {s t : Ps}
theorem Res.no {α β : Type} {p : α × Ps} {f : α → Ps → β × Ps} {q : β × Ps} (h : ¬ p.2.e = 0) (hf : ∀ x s, Dn s (f x s).2) : Res c tl (Proofs.YtnfnbjjnjjdjdaaGreatDoor.bndP p f) q := Res.dead fun h0 => h ((hf p.1 p.2).zero h0)
variable {n : Nat} {E : EP}
end
section
variable {c : Wd} {tl : List Wd} {s t : Ps} {n : Nat} {E : EP}
theorem pst_eq (E : EP) (m : Nat) (x : ExT) (s : Ps) : pstL E (m + 1) x s = if ¬ s.e = 0 then (x, s) else bndP (gotP s [46]) fun b s1 => if b = true then bndP (nameP s1) fun t s2 => pstL E m (.mk 9 t 0 noT [] [x]) s2
 else bndP (gotP s1 [91]) fun b s2 => if b = true then bndP (E s2) fun y s3 => bndP (gotP s3 [58]) fun b s4 => if b = true then bndP (E s4) fun z s5 => bndP ((), wantP s5 [93]) fun _ s6 => pstL E m (.mk 11 [] 0 noT [] [x, y, z]) s6
  else bndP ((), wantP s4 [93]) fun _ s5 => pstL E m (.mk 10 [] 0 noT [] [x, y]) s5 else (x, s2) := by
 conv => lhs; unfold pstL
 split
 ·rfl
 unfold Proofs.YtnfnbjjnjjdjdaaGreatDoor.bndP
 rcases hg : gotP s [46] with ⟨_ | _, s1⟩
 ·obtain rfl := got_no hg
  simp only [Bool.false_eq_true, if_false]
  rcases hg2 : gotP s1 [91] with ⟨_ | _, s2⟩
  ·obtain rfl := got_no hg2
   rfl
  ·dsimp only
   rcases E s2 with ⟨y, s3⟩
   dsimp only
   rcases gotP s3 [58] with ⟨_ | _, s4⟩ <;> rfl
 ·rfl
end
def Nine (s : Ps) : Prop := ∃ init : List Wd, s.ws.map strip = init ++ [(9, [], 0)] ∧ ∀ x ∈ init, x.1 ≠ 0 ∧ x.1 ≠ 9
def Nn {α : Type} (p : α × Ps) : Prop := p.2.e = 0 → Nine p.2
theorem Nn.pure {α : Type} {s : Ps} (h : Nine s) (x : α) : Nn (x, s) := fun _ => h
theorem Nn.bndP {α β : Type} {p : α × Ps} {f : α → Ps → β × Ps} (h : Nn p) (hf : ∀ x s, Dn s (f x s).2) (hk : ∀ x s, Nine s → Nn (f x s)) : Nn (bndP p f) := fun h0 => hk _ _ (h ((hf _ _).zero h0)) h0
variable {E : EP}
structure At (s : Ps) (l : List Wd) : Prop where
 e : s.e = 0
 ws : s.ws.map strip = l
theorem At.w {s : Ps} {x : Wd} {l : List Wd} (h : At s (x :: l)) : strip s.w = x := by
 obtain ⟨w, r, e1, e2, _⟩ := List.map_eq_cons_iff.1 h.ws
 unfold Ps.w
 rw [e1]
 exact e2
theorem At.kind {s : Ps} {x : Wd} {l : List Wd} (h : At s (x :: l)) : s.w.kind = x.1 ∧ s.w.text = x.2.1 := ⟨congrArg Prod.fst h.w, congrArg (fun x : Wd => x.2.1) h.w⟩
theorem At.next {s : Ps} {x y : Wd} {l : List Wd} (h : At s (x :: y :: l)) (hy : y.1 ≠ 9) : At (nextP s) (y :: l) := by
 obtain ⟨w, r, e1, e2, e3⟩ := List.map_eq_cons_iff.1 h.ws
 obtain ⟨w2, r2, g1, g2, g3⟩ := List.map_eq_cons_iff.1 e3
 obtain ⟨a, e, o, b⟩ := s
 obtain rfl : e = 0 := h.e
 obtain rfl : a = w :: r := e1
 rw [next_step (by rw [g1]; intro h9; exact hy (by rw [← g2]; exact h9))]
 exact ⟨rfl, e3⟩
theorem At.take {s : Ps} {x y : Wd} {l : List Wd} (h : At s (x :: y :: l)) (hy : y.1 ≠ 9) (T : List UInt8) : At (nextP (bumpP s T)) (y :: l) ∨ (nextP (bumpP s T)).e = 51 := by
 rcases bump_ways h.e T with ⟨o, h1⟩ | h1
 ·rw [h1]
  exact .inl (At.next (s := ⟨s.ws, 0, o, s.h⟩) ⟨rfl, h.ws⟩ hy)
 ·exact .inr (by rw [next_off (by omega)]; exact h1)
theorem At.is {s : Ps} {x : Wd} {l : List Wd} (h : At s (x :: l)) (T : List UInt8) : isP s T = ((decide (x.1 = 3) || decide (x.1 = 4)) && decide (x.2.1 = T)) := by
 unfold isP
 rw [h.e, h.kind.1, h.kind.2]
 simp
theorem next_h (s : Ps) : (nextP s).h = s.h := by
 unfold nextP
 split
 ·split <;> rfl
 ·rfl
theorem Cl.rank {c : Wd} (hc : Cl c) : rankS c.2.1 = 0 := by
 rcases hc.t with e | e | e <;> rw [e] <;> decide
def bumpN (T : List UInt8) (o : Int) : Option Int := if opnB T = true then (if 100 < IntKind.i64.wrap (o + 1) then none else some (IntKind.i64.wrap (o + 1))) else if clsB T = true then some (IntKind.i64.wrap (o - 1)) else some o
theorem bump_N {s : Ps} (he : s.e = 0) {T : List UInt8} {o : Int} (ho : bumpN T s.o = some o) : bumpP s T = ⟨s.ws, 0, o, s.h⟩ := by
 obtain ⟨a, e, q, b⟩ := s
 obtain rfl : e = 0 := he
 unfold bumpN at ho
 unfold bumpP
 split
 ·rename_i h
  rw [if_pos h] at ho
  split
  ·rename_i h2
   rw [if_pos h2] at ho
   cases ho
  ·rename_i h2
   rw [if_neg h2] at ho
   cases ho
   rfl
 ·rename_i h
  rw [if_neg h] at ho
  split
  ·rename_i h2
   rw [if_pos h2] at ho
   cases ho
   rfl
  ·rename_i h2
   rw [if_neg h2] at ho
   cases ho
   rfl
structure AtO (s : Ps) (l : List Wd) (o : Int) : Prop where
 at' : At s l
 h : s.h = false
 o : s.o = o
section
variable {s : Ps} {x y : Wd} {l : List Wd} {o : Int}
theorem AtO.next (h : AtO s (x :: y :: l) o) (hy : y.1 ≠ 9) : AtO (nextP s) (y :: l) o := by
 refine ⟨h.at'.next hy, by rw [next_h, h.h], ?_⟩
 rw [← h.o]
 unfold nextP
 split
 ·split <;> rfl
 ·rfl
theorem AtO.yes (h : AtO s (x :: y :: l) o) (hy : y.1 ≠ 9) {T : List UInt8} (hT : ((decide (x.1 = 3) || decide (x.1 = 4)) && decide (x.2.1 = T)) = true) {o' : Int} (ho : bumpN T o = some o') : ∃ s', gotP s T = (true, s') ∧ wantP s T = s' ∧ AtO s' (y :: l) o' := by
 have hi : isP s T = true := by rw [h.at'.is]; exact hT
 have hb := bump_N h.at'.e (T := T) (by rw [h.o]; exact ho)
 refine ⟨nextP (bumpP s T), ?_, ?_, ?_⟩
 ·unfold gotP
  rw [if_pos hi]
 ·rw [want_eq, if_pos hi]
 ·rw [hb]
  exact AtO.next (s := ⟨s.ws, 0, o', s.h⟩) ⟨⟨rfl, h.at'.ws⟩, h.h, rfl⟩ hy
theorem AtO.no (h : AtO s (x :: l) o) {T : List UInt8} (hT : ((decide (x.1 = 3) || decide (x.1 = 4)) && decide (x.2.1 = T)) = false) : gotP s T = (false, s) := by
 unfold gotP
 rw [h.at'.is, hT]
 rfl
theorem AtO.name {t : List UInt8} {i : Nat} (h : AtO s ((1, t, i) :: y :: l) o) (hy : y.1 ≠ 9) : ∃ s', nameP s = (t, s') ∧ AtO s' (y :: l) o := by
 refine ⟨nextP s, ?_, h.next hy⟩
 unfold nameP
 rw [if_pos ⟨h.at'.e, h.at'.kind.1⟩, h.at'.kind.2]
end
def isW (c : Wd) (T : List UInt8) : Bool := (decide (c.1 = 3) || decide (c.1 = 4)) && decide (c.2.1 = T)
structure Bf (s : Ps) (l : List Wd) (o : Int) (h : Bool) : Prop where
 at' : At s l
 o : s.o = o
 h : s.h = h
section
variable {s : Ps} {x y : Wd} {l : List Wd} {o : Int} {h : Bool}
theorem Bf.mu (b : Bf s l o h) : mu s = l.length := by
 rw [mu_live b.at'.e, ← b.at'.ws, List.length_map]
theorem Bf.next (b : Bf s (x :: y :: l) o h) (hy : y.1 ≠ 9) : Bf (nextP s) (y :: l) o h := by
 refine ⟨b.at'.next hy, ?_, by rw [next_h, b.h]⟩
 rw [← b.o]
 unfold nextP
 split
 ·split <;> rfl
 ·rfl
theorem Bf.is (b : Bf s (x :: l) o h) (T : List UInt8) : isP s T = isW x T := b.at'.is T
theorem Bf.yes (b : Bf s (x :: y :: l) o h) (hy : y.1 ≠ 9) {T : List UInt8} (hT : isW x T = true) {o' : Int} (ho : bumpN T o = some o') : ∃ s', gotP s T = (true, s') ∧ wantP s T = s' ∧ Bf s' (y :: l) o' h := by
 have hi : isP s T = true := by rw [b.is]; exact hT
 have hb := bump_N b.at'.e (T := T) (by rw [b.o]; exact ho)
 refine ⟨nextP (bumpP s T), ?_, ?_, ?_⟩
 ·unfold gotP
  rw [if_pos hi]
 ·rw [want_eq, if_pos hi]
 ·rw [hb]
  exact Bf.next (s := ⟨s.ws, 0, o', s.h⟩) ⟨⟨rfl, b.at'.ws⟩, rfl, b.h⟩ hy
theorem Bf.no (b : Bf s (x :: l) o h) {T : List UInt8} (hT : isW x T = false) : gotP s T = (false, s) := by
 unfold gotP
 rw [b.is, hT]
 rfl
theorem Bf.name {t : List UInt8} {i : Nat} (b : Bf s ((1, t, i) :: y :: l) o h) (hy : y.1 ≠ 9) : ∃ s', nameP s = (t, s') ∧ Bf s' (y :: l) o h := by
 refine ⟨nextP s, ?_, b.next hy⟩
 unfold nameP
 rw [if_pos ⟨b.at'.e, b.at'.kind.1⟩, b.at'.kind.2]
end
structure Fol (k : Nat) (h : Bool) (c : Wd) : Prop where
 n9 : c.1 ≠ 9
 dot : isW c [46] = false
 bra : isW c [91] = false
 par : isW c [40] = false
 cur : h = false → isW c [123] = false
 rk : c.1 = 3 → rankS c.2.1 < 6 - (k : Int)
theorem Fol.to {k j : Nat} {h : Bool} {c : Wd} (f : Fol k h c) (hj : j ≤ k) : Fol j h c := ⟨f.n9, f.dot, f.bra, f.par, f.cur, fun h3 => by have := f.rk h3; omega⟩
section
variable {E : EP} {n : Nat}
end
def keyW (x : Wd) : Bool := isW x [116, 114, 117, 101] || isW x [102, 97, 108, 115, 101] || isW x [108, 101, 110] || isW x [97, 112, 112, 101, 110, 100] || (decide (x.1 = 4) && decide (1 < kindS x.2.1))
section
variable {s : Ps} {x : Wd} {l tl : List Wd} {o : Int} {h : Bool} {E : EP} {n : Nat} {c : Wd}
theorem Bf.key (b : Bf s (x :: l) o h) : keyB s = keyW x := by
 unfold keyB keyW
 rw [b.is, b.is, b.is, b.is, b.at'.kind.1, b.at'.kind.2]
end
section
variable {E : EP} {n : Nat} {s : Ps} {c : Wd} {tl : List Wd} {o : Int} {h : Bool}
theorem Bf.pend (b : Bf s (c :: tl) o h) (h1 : isW c [46] = false) (h2 : isW c [91] = false) (m : Nat) (y : ExT) : pstL E m y s = (y, s) := by
 cases m with
 | zero => rfl
 | succ m =>
  rw [pst_eq, if_neg (by rw [b.at'.e]; simp)]
  unfold bndP
  rw [b.no h1]
  dsimp only
  rw [if_neg (by decide), b.no h2]
  rfl
end
inductive OkS : Int → StT → Prop
 | var (d : Int) (n : List UInt8) (t : TyT) : d ≤ 60 → identS n = true → OkT t → OkS d (.mk 1 [n] t [] [] [] [] [])
 | set (d : Int) (ls es : List ExT) : d ≤ 60 → ls ≠ [] → es ≠ [] → (∀ x ∈ ls, placeS x = true) → (∀ x ∈ ls, OkE (d + 1) x) → (∀ x ∈ es, OkE (d + 1) x) → OkS d (.mk 2 [] noT ls es [] [] [])
 | iff (d : Int) (x : ExT) (b e : List StT) : d ≤ 60 → OkE (d + 1) x → headS x = true → (∀ y ∈ b, OkS (d + 1) y) → (∀ y ∈ e, OkS (d + 1) y) → OkS d (.mk 3 [] noT [] [x] b e [])
 | fro (d : Int) (x : ExT) (b : List StT) : d ≤ 60 → OkE (d + 1) x → headS x = true → (∀ y ∈ b, OkS (d + 1) y) → OkS d (.mk 4 [] noT [] [x] b [] [])
 | swi (d : Int) (x : ExT) (e : List StT) (cs : List CaT) : d ≤ 60 → OkE (d + 1) x → headS x = true → (∀ y ∈ e, OkS (d + 1) y) → (∀ c ∈ cs, 0 ≤ c.int ∧ c.int ≤ 18446744073709551615) → (∀ c ∈ cs, ∀ y ∈ c.body, OkS (d + 2) y) → OkS d (.mk 5 [] noT [] [x] [] e cs)
 | ret (d : Int) (es : List ExT) : d ≤ 60 → es ≠ [] → (∀ x ∈ es, OkE (d + 1) x) → OkS d (.mk 6 [] noT [] es [] [] [])
section
variable {E : EP} {n : Nat}
end
section
variable {E : EP} {S : SP} {n : Nat}
theorem Bf.num {s : Ps} {t : List UInt8} {i : Nat} {y : Wd} {l : List Wd} {o : Int} {h : Bool} (b : Bf s ((2, t, i) :: y :: l) o h) (hy : y.1 ≠ 9) : ∃ s', numP s = ((i : Int), s') ∧ Bf s' (y :: l) o h := by
 refine ⟨nextP s, ?_, b.next hy⟩
 unfold numP
 rw [if_pos ⟨b.at'.e, b.at'.kind.1⟩, show s.w.int = i from congrArg (fun x : Wd => x.2.2) b.at'.w]
end
def OkPa (p : PaT) : Prop := identS p.name = true ∧ OkT p.type
def OkSu (s : SuT) : Prop := identS s.name = true ∧ ∀ f ∈ s.fields, OkPa f
def OkFu (f : FuT) : Prop := identS f.name = true ∧ (∀ p ∈ f.params, OkPa p) ∧ f.results ≠ [] ∧ (∀ t ∈ f.results, OkT t) ∧ ∀ s ∈ f.body, OkS 0 s
def OkPr (p : PrT) : Prop := (∀ s ∈ p.structs, OkSu s) ∧ ∀ f ∈ p.funcs, OkFu f
mutual
def numS : StT → Prop
 | .mk _ _ _ ls es b e cs => numEs ls ∧ numEs es ∧ numSs b ∧ numSs e ∧ numCs cs
def numSs : List StT → Prop
 | [] => True
 | x :: l => numS x ∧ numSs l
def numCs : List CaT → Prop
 | [] => True
 | .mk i b :: l => (0 ≤ i ∧ i ≤ 18446744073709551615) ∧ numSs b ∧ numCs l
end
def numPr (p : PrT) : Prop := ∀ f ∈ p.funcs, numSs f.body
theorem numSs_cons (x : StT) (l : List StT) : numSs (x :: l) = (numS x ∧ numSs l) := by rw [numSs]
theorem numCs_cons (i : Int) (b : List StT) (l : List CaT) : numCs (.mk i b :: l) = ((0 ≤ i ∧ i ≤ 18446744073709551615) ∧ numSs b ∧ numCs l) := by rw [numCs]
theorem numSs_mem : ∀ {l : List StT}, numSs l → ∀ x ∈ l, numS x
 | y :: l, h, x, hx => by
  rw [numSs_cons] at h
  rcases List.mem_cons.1 hx with e | hx
  ·rw [e]; exact h.1
  ·exact numSs_mem h.2 x hx
theorem numCs_mem : ∀ {l : List CaT}, numCs l → ∀ c ∈ l, (0 ≤ c.int ∧ c.int ≤ 18446744073709551615) ∧ numSs c.body
 | .mk i b :: l, h, c, hc => by
  rw [numCs_cons] at h
  rcases List.mem_cons.1 hc with e | hc
  ·rw [e]; exact ⟨h.1, h.2.1⟩
  ·exact numCs_mem h.2.2 c hc
theorem ok_exs40 {l : List ExT} {d p : Int} (h : (exs40 l d p).1 = true) (hn : numEs l) : ∀ x ∈ l, OkE d x := ok_exprs l d p (andS_true (f := fun p => exsS l d p) h).1 hn
theorem part_deep {d p : Int} (h : (partS d p).1 = true) : d ≤ 60 := by
 have h' : partOk d p = true := h
 unfold partOk at h'
 rw [Bool.and_eq_true, decide_eq_true_iff, decide_eq_true_iff] at h'
 exact h'.2
def oneI : List (List UInt8) → Bool
 | [x] => identS x
 | _ => false
def oneC : List ExT → Bool
 | [x] => decide (x.kind = 7)
 | _ => false
def oneH : List ExT → Bool
 | [x] => headS x
 | _ => false
theorem sized_eq (k : Int) (ns : List (List UInt8)) (ty : TyT) (ls es : List ExT) (b e : List StT) (cs : List CaT) : sizedS (.mk k ns ty ls es b e cs) = (if k = 1 then decide (es.length = 0) && oneI ns && decide (ls = []) && decide (b.length = 0) && decide (e.length = 0) && decide (cs.length = 0)
 else if k = 2 then decide (0 < ls.length) && (decide (es.length = ls.length) || oneC es) && ls.all placeS && (decide (ns = []) && zeroS ty) && decide (b.length = 0) && decide (e.length = 0) && decide (cs.length = 0)
 else if k = 3 then (decide (ns = []) && zeroS ty) && decide (ls = []) && oneH es && decide (cs.length = 0)
 else if k = 4 then (decide (ns = []) && zeroS ty) && decide (ls = []) && oneH es && decide (e.length = 0) && decide (cs.length = 0)
 else if k = 5 then (decide (ns = []) && zeroS ty) && decide (ls = []) && oneH es && decide (b.length = 0)
 else if k = 6 then (decide (ns = []) && zeroS ty) && decide (ls = []) && decide (0 < es.length) && decide (b.length = 0) && decide (e.length = 0) && decide (cs.length = 0)
 else false) := rfl
theorem ok_stmt : ∀ (n : Nat) (x : StT) (d p : Int), (stS n x d p).1 = true → numS x → OkS d x
 | 0, _, _, _, h, _ => by cases h
 | n + 1, .mk k ns ty ls es b e cs, d, p, h, hn => by
  obtain ⟨hp, h⟩ := andS_true (f := partS d) h
  obtain ⟨hz, h⟩ := andS_true h
  obtain ⟨ht, h⟩ := andS_true h
  obtain ⟨hc, h⟩ := andS_true h
  obtain ⟨hl, h⟩ := andS_true h
  obtain ⟨hx, h⟩ := andS_true h
  obtain ⟨hb, he⟩ := andS_true h
  have hd := part_deep hp
  unfold numS at hn
  obtain ⟨n1, n2, n3, n4, n5⟩ := hn
  have gl := ok_exs40 hl n1
  have gx := ok_exs40 hx n2
  have gb : ∀ y ∈ b, OkS (d + 1) y := fun y hy => by
   obtain ⟨q, hq⟩ := rowS_mem (f := fun x => stS n x (d + 1)) _ _ hb y hy
   exact ok_stmt n y _ q hq (numSs_mem n3 y hy)
  have ge : ∀ y ∈ e, OkS (d + 1) y := fun y hy => by
   obtain ⟨q, hq⟩ := rowS_mem (f := fun x => stS n x (d + 1)) _ _ he y hy
   exact ok_stmt n y _ q hq (numSs_mem n4 y hy)
  have gc : ∀ c ∈ cs, ∀ y ∈ c.body, OkS (d + 2) y := fun c hcm y hy => by
   obtain ⟨q, hq⟩ := casS_mem _ _ _ hc c hcm y hy
   exact ok_stmt n y _ q hq (numSs_mem (numCs_mem n5 c hcm).2 y hy)
  have hi : ∀ c ∈ cs, 0 ≤ c.int ∧ c.int ≤ 18446744073709551615 := fun c hcm => (numCs_mem n5 c hcm).1
  have hz0 : (sizedS (.mk k ns ty ls es b e cs) && decide (cs.length ≤ 40)) = true := hz
  rw [Bool.and_eq_true] at hz0
  have hz' := hz0.1
  rw [sized_eq] at hz'
  by_cases k1 : k = 1
  ·subst k1
   rw [if_pos rfl] at hz'
   simp only [Bool.and_eq_true, decide_eq_true_eq] at hz'
   obtain ⟨⟨⟨⟨⟨h1, h2⟩, h3⟩, h4⟩, h5⟩, h6⟩ := hz'
   obtain rfl := List.eq_nil_of_length_eq_zero h1
   obtain rfl := h3
   obtain rfl := List.eq_nil_of_length_eq_zero h4
   obtain rfl := List.eq_nil_of_length_eq_zero h5
   obtain rfl := List.eq_nil_of_length_eq_zero h6
   have ht' : OkT ty := by
    rw [if_pos (show (StT.mk 1 ns ty [] [] [] [] []).kind = 1 from rfl)] at ht
    exact ok_type ty _ _ ht
   match ns, h2 with
   | [m], h2 => exact .var d m ty hd h2 ht'
   | [], h2 => cases h2
   | _ :: _ :: _, h2 => cases h2
  rw [if_neg k1] at hz'
  by_cases k2 : k = 2
  ·subst k2
   rw [if_pos rfl] at hz'
   simp only [Bool.and_eq_true, decide_eq_true_eq, List.all_eq_true] at hz'
   obtain ⟨⟨⟨⟨⟨⟨h1, h2⟩, h3⟩, h4, h5⟩, h6⟩, h7⟩, h8⟩ := hz'
   obtain rfl := h4
   obtain rfl := zero_noT h5
   obtain rfl := List.eq_nil_of_length_eq_zero h6
   obtain rfl := List.eq_nil_of_length_eq_zero h7
   obtain rfl := List.eq_nil_of_length_eq_zero h8
   have hls : ls ≠ [] := by rintro rfl; exact absurd h1 (by decide)
   have hes : es ≠ [] := by
    rintro rfl
    rw [Bool.or_eq_true, decide_eq_true_eq] at h2
    rcases h2 with h2 | h2
    ·have h2 : 0 = ls.length := h2
     omega
    ·cases h2
   exact .set d ls es hd hls hes h3 gl gx
  rw [if_neg k2] at hz'
  by_cases k3 : k = 3
  ·subst k3
   rw [if_pos rfl] at hz'
   simp only [Bool.and_eq_true, decide_eq_true_eq] at hz'
   obtain ⟨⟨⟨⟨h1, h2⟩, h3⟩, h4⟩, h5⟩ := hz'
   obtain rfl := h1
   obtain rfl := zero_noT h2
   obtain rfl := h3
   obtain rfl := List.eq_nil_of_length_eq_zero h5
   match es, h4, gx with
   | [x], h4, gx => exact .iff d x b e hd (gx x List.mem_cons_self) h4 gb ge
   | [], h4, _ => cases h4
   | _ :: _ :: _, h4, _ => cases h4
  rw [if_neg k3] at hz'
  by_cases k4 : k = 4
  ·subst k4
   rw [if_pos rfl] at hz'
   simp only [Bool.and_eq_true, decide_eq_true_eq] at hz'
   obtain ⟨⟨⟨⟨⟨h1, h2⟩, h3⟩, h4⟩, h6⟩, h5⟩ := hz'
   obtain rfl := h1
   obtain rfl := zero_noT h2
   obtain rfl := h3
   obtain rfl := List.eq_nil_of_length_eq_zero h5
   obtain rfl := List.eq_nil_of_length_eq_zero h6
   match es, h4, gx with
   | [x], h4, gx => exact .fro d x b hd (gx x List.mem_cons_self) h4 gb
   | [], h4, _ => cases h4
   | _ :: _ :: _, h4, _ => cases h4
  rw [if_neg k4] at hz'
  by_cases k5 : k = 5
  ·subst k5
   rw [if_pos rfl] at hz'
   simp only [Bool.and_eq_true, decide_eq_true_eq] at hz'
   obtain ⟨⟨⟨⟨h1, h2⟩, h3⟩, h4⟩, h5⟩ := hz'
   obtain rfl := h1
   obtain rfl := zero_noT h2
   obtain rfl := h3
   obtain rfl := List.eq_nil_of_length_eq_zero h5
   match es, h4, gx with
   | [x], h4, gx => exact .swi d x e cs hd (gx x List.mem_cons_self) h4 ge hi gc
   | [], h4, _ => cases h4
   | _ :: _ :: _, h4, _ => cases h4
  rw [if_neg k5] at hz'
  by_cases k6 : k = 6
  ·subst k6
   rw [if_pos rfl] at hz'
   simp only [Bool.and_eq_true, decide_eq_true_eq] at hz'
   obtain ⟨⟨⟨⟨⟨⟨h1, h2⟩, h3⟩, h4⟩, h5⟩, h6⟩, h7⟩ := hz'
   obtain rfl := h1
   obtain rfl := zero_noT h2
   obtain rfl := h3
   obtain rfl := List.eq_nil_of_length_eq_zero h5
   obtain rfl := List.eq_nil_of_length_eq_zero h6
   obtain rfl := List.eq_nil_of_length_eq_zero h7
   exact .ret d es hd (by rintro rfl; exact absurd h4 (by decide)) gx
  rw [if_neg k6] at hz'
  cases hz'
theorem ok_pas {most : Nat} {l : List PaT} {p : Int} (h : (paS most l p).1 = true) : ∀ x ∈ l, OkPa x := by
 obtain ⟨h1, h2⟩ := andS_true (f := rowS (fun x : PaT => andS (partS 0) (fun p => tyS identS x.type 0 p)) l) h
 have h2 : (decide (l.length ≤ most) && diffS l.length (l.map PaT.name)) = true := h2
 rw [Bool.and_eq_true] at h2
 have hn := names_ident (l := l.map PaT.name) (by rw [List.length_map]; exact h2.2)
 intro x hx
 obtain ⟨q, hq⟩ := rowS_mem (f := fun x : PaT => andS (partS 0) (fun p => tyS identS x.type 0 p)) _ _ h1 x hx
 obtain ⟨_, hq⟩ := andS_true (f := partS 0) hq
 exact ⟨hn _ (List.mem_map_of_mem hx), ok_type x.type 0 _ hq⟩
theorem ok_prog {n : Nat} {x : PrT} {p : Int} (h : (prS n x p).1 = true) (hn : numPr x) : OkPr x := by
 obtain ⟨h1, h2⟩ := andS_true (f := rowS suS x.structs) h
 refine ⟨fun s hs => ?_, fun f hf => ?_⟩
 ·obtain ⟨q, hq⟩ := rowS_mem (f := suS) _ _ h1 s hs
  obtain ⟨_, hq⟩ := andS_true (f := partS 0) hq
  obtain ⟨h3, hq⟩ := andS_true (f := allowS (identS s.name)) hq
  exact ⟨h3, ok_pas hq⟩
 ·obtain ⟨q, hq⟩ := rowS_mem (f := fuS n) _ _ h2 f hf
  obtain ⟨_, hq⟩ := andS_true (f := partS 0) hq
  obtain ⟨h3, hq⟩ := andS_true (f := allowS (identS f.name)) hq
  obtain ⟨h4, hq⟩ := andS_true (f := paS 20 f.params) hq
  obtain ⟨h5, hq⟩ := andS_true hq
  obtain ⟨h6, h7⟩ := andS_true hq
  have h5 : (decide (1 ≤ f.results.length) && decide (f.results.length ≤ 20)) = true := h5
  rw [Bool.and_eq_true, decide_eq_true_eq, decide_eq_true_eq] at h5
  refine ⟨h3, ok_pas h4, ?_, fun t ht => ?_, fun s hs => ?_⟩
  ·intro e
   rw [e] at h5
   exact absurd h5.1 (by decide)
  ·obtain ⟨q, hq⟩ := rowS_mem (f := fun t p => tyS identS t 0 p) _ _ h6 t ht
   exact ok_type t 0 _ hq
  ·obtain ⟨q, hq⟩ := rowS_mem (f := fun s => stS n s 0) _ _ h7 s hs
   exact ok_stmt n s 0 q hq (numSs_mem (hn f hf) s hs)
def atN {α : Type} (nm : α → List UInt8) : List α → List UInt8 → Option α
 | [], _ => none
 | x :: l, n => if nm x = n then some x else atN nm l n
def topS (k : Int) : Int := if k = 2 then 255 else if k = 3 then 2147483647 else if k = 4 then 9223372036854775807 else if k = 5 then 4294967295 else if k = 6 then 18446744073709551615 else 0
def numK (k : Int) : Bool := decide (2 ≤ k) && decide (k ≤ 6)
theorem numK_top (k : Int) : numK k = decide (0 < topS k) := by
 unfold numK topS
 repeat' split
 all_goals (rename_i h; first | (subst h; decide) | skip)
 rw [Bool.eq_iff_iff]
 simp
 omega
def tyBool : TyT := .mk 1 [] []
def tyInt : TyT := .mk 4 [] []
def tyU : TyT := .mk 6 [] []
structure Tenv where
 su : List SuT
 fu : List FuT
 vs : List PaT
def standS (su : List SuT) : TyT → Bool
 | .mk k n es => if k = 8 then (match es with
  | e :: _ => standS su e
  | [] => false) else decide (k ≠ 7) || (atN SuT.name su n).isSome
def freeS (su : List SuT) (fu : List FuT) (s : List UInt8) : Bool := (atN SuT.name su s).isNone && (atN FuT.name fu s).isNone && !(s == [95])
def litS : ExT → Bool
 | .mk k _ _ _ _ ks => decide (k = 2) || decide (k = 5) && (match ks with
  | y :: _ => decide (y.kind = 2)
  | [] => false)
def setType : ExT → TyT → ExT
 | .mk k t i _ ns ks, ty => .mk k t i ty ns ks
def setKids : ExT → List ExT → ExT
 | .mk k t i ty ns _, ks => .mk k t i ty ns ks
def fieldS (su : List SuT) (t : TyT) (n : List UInt8) : Option TyT :=
 if t.kind = 7 then (match atN SuT.name su t.name with
  | some s => (atN PaT.name s.fields n).map PaT.type
  | none => none) else none
def elemT (t : TyT) : Option TyT := if t.kind = 8 then t.elem.head? else none
def plainS (x : ExT) (want : TyT) : Option (ExT × TyT) :=
 if x.kind = 5 then (match x.kids with
  | y :: ks => if (want.kind = 3 ∨ want.kind = 4) ∧ y.int ≤ topS want.kind + 1 then some (setKids x (setType y want :: ks), want) else none
  | [] => none)
 else if topS want.kind = 0 ∨ topS want.kind < x.int then none else some (setType x want, want)
def wantR (r : Option (ExT × TyT)) (t : TyT) : Option ExT :=
 match r with
 | some (y, u) => if sameT u t = true then some y else none
 | none => none
def bothR (fa fb : TyT → Option (ExT × TyT)) (la : Bool) (w : TyT) : Option (ExT × ExT × TyT) :=
 if la = true then (match fb w with
  | some (b, t) => (wantR (fa t) t).map fun a => (a, b, t)
  | none => none)
 else (match fa w with
  | some (a, t) => (wantR (fb t) t).map fun b => (a, b, t)
  | none => none)
def logic (t : List UInt8) : Bool := t == [38, 38] || t == [124, 124]
def shift (t : List UInt8) : Bool := t == [60, 60] || t == [62, 62]
def alike (t : List UInt8) : Bool := t == [61, 61] || t == [33, 61]
def order (t : List UInt8) : Bool := t == [60] || t == [60, 61] || t == [62] || t == [62, 61]
def binR (fa fb : TyT → Option (ExT × TyT)) (la : Bool) (tx : List UInt8) (want : TyT) : Option (ExT × ExT × TyT) :=
 if logic tx = true then (match wantR (fa tyBool) tyBool, wantR (fb tyBool) tyBool with
  | some a, some b => some (a, b, tyBool)
  | _, _ => none)
 else if shift tx = true then (match fa want with
  | some (a, t) => if numK t.kind = true then (wantR (fb tyU) tyU).map fun b => (a, b, t) else none
  | none => none)
 else if alike tx = true then (match bothR fa fb la noT with
  | some (a, b, t) => if numK t.kind = true ∨ t.kind = 1 then some (a, b, tyBool) else none
  | none => none)
 else if order tx = true then (match bothR fa fb la noT with
  | some (a, b, t) => if numK t.kind = true then some (a, b, tyBool) else none
  | none => none)
 else (match bothR fa fb la want with
  | some (a, b, t) => if numK t.kind = true then some (a, b, t) else none
  | none => none)
def callR (f : Option FuT) (al : List TyT → Option (List ExT)) : Option (List ExT × List TyT) :=
 match f with
 | some f => (al (f.params.map PaT.type)).map fun ks => (ks, f.results)
 | none => none
mutual
def typS (E : Tenv) : ExT → TyT → Option (ExT × TyT)
 | .mk k tx i ty ns ks, want =>
  if k = 3 then some (.mk k tx i ty ns ks, tyBool)
  else if k = 1 then (atN PaT.name E.vs tx).map fun p => (.mk k tx i ty ns ks, p.type)
  else if k = 6 then (match ks with
   | [a, b] => (binR (typS E a) (typS E b) (litS a) tx want).map fun r => (.mk k tx i ty ns [r.1, r.2.1], r.2.2)
   | _ => none)
  else if k = 7 then (match callR (atN FuT.name E.fu tx) (wantsS E ks) with
   | some (l, [t]) => some (.mk k tx i ty ns l, t)
   | _ => none)
  else if k = 9 then (match ks with
   | [a] => (match typS E a noT with
    | some (a, t) => (fieldS E.su t tx).map fun f => (.mk k tx i ty ns [a], f)
    | none => none)
   | _ => none)
  else if k = 12 then (match ks with
   | [a] => (match typS E a noT with
    | some (a, t) => (elemT t).map fun _ => (.mk k tx i ty ns [a], tyInt)
    | none => none)
   | _ => none)
  else if k = 10 then (match ks with
   | [a, b] => (match typS E a noT with
    | some (a, t) => (elemT t).bind fun e => (wantR (typS E b tyInt) tyInt).map fun b => (.mk k tx i ty ns [a, b], e)
    | none => none)
   | _ => none)
  else if k = 11 then (match ks with
   | [a, b, c] => (match typS E a noT with
    | some (a, t) => (elemT t).bind fun _ => (wantR (typS E b tyInt) tyInt).bind fun b => (wantR (typS E c tyInt) tyInt).map fun c => (.mk k tx i ty ns [a, b, c], t)
    | none => none)
   | _ => none)
  else if k = 13 then (match ks with
   | [a, b] => (match typS E a want with
    | some (a, t) => (elemT t).bind fun e => (wantR (typS E b e) e).map fun b => (.mk k tx i ty ns [a, b], t)
    | none => none)
   | _ => none)
  else if k = 14 then (if standS E.su ty = true then ((ns.mapM (fieldS E.su ty)).bind (wantsS E ks)).map fun l => (.mk k tx i ty ns l, ty) else none)
  else if k = 15 then (if standS E.su ty = true then ((elemT ty).bind fun e => wantsS E ks (List.replicate ks.length e)).map fun l => (.mk k tx i ty ns l, ty) else none)
  else if litS (.mk k tx i ty ns ks) = true then plainS (.mk k tx i ty ns ks) want
  else if k = 4 then (match ks with
   | [a] => (wantR (typS E a tyBool) tyBool).map fun a => (.mk k tx i ty ns [a], tyBool)
   | _ => none)
  else if k = 5 then (match ks with
   | [a] => (match typS E a want with
    | some (a, t) => if numK t.kind = true then some (.mk k tx i ty ns [a], t) else none
    | none => none)
   | _ => none)
  else (match ks with
   | [a] => if litS a = true then (wantR (typS E a ty) ty).map fun a => (.mk k tx i ty ns [a], ty)
    else (match typS E a noT with
     | some (a, t) => if numK t.kind = true then some (.mk k tx i ty ns [a], ty) else none
     | none => none)
   | _ => none)
def wantsS (E : Tenv) : List ExT → List TyT → Option (List ExT)
 | [], [] => some []
 | x :: l, t :: ts => (match wantR (typS E x t) t with
  | some y => (wantsS E l ts).map fun l => y :: l
  | none => none)
 | _, _ => none
end
def callM (E : Tenv) (x : ExT) : Option (ExT × List TyT) := (callR (atN FuT.name E.fu x.text) (wantsS E x.kids)).map fun r => (setKids x r.1, r.2)
def valuesS (E : Tenv) (l : List ExT) (ts : List TyT) : Option (List ExT) :=
 match l with
 | [x] => if 1 < ts.length ∧ x.kind = 7 then (match callM E x with
  | some (y, rs) => if sameTs rs ts = true then some [y] else none
  | none => none)
  else wantsS E l ts
 | l => wantsS E l ts
def typsS (E : Tenv) : List ExT → Option (List TyT)
 | [] => some []
 | x :: l => match typS E x noT with
  | some (_, t) => (typsS E l).map fun ts => t :: ts
  | none => none
mutual
def stmtS (su : List SuT) (fu : List FuT) (res : List TyT) : StT → List PaT → Option (StT × List PaT)
 | .mk k ns ty ls es b e cs, vs =>
  if k = 1 then (match ns with
   | n :: _ => if (atN PaT.name vs n).isNone = true ∧ freeS su fu n = true ∧ standS su ty = true then some (.mk k ns ty ls es b e cs, vs ++ [⟨n, ty⟩]) else none
   | [] => none)
  else if k = 2 then (match typsS ⟨su, fu, vs⟩ ls with
   | some ts => (valuesS ⟨su, fu, vs⟩ es ts).map fun es => (.mk k ns ty ls es b e cs, vs)
   | none => none)
  else if k = 6 then (valuesS ⟨su, fu, vs⟩ es res).map fun es => (.mk k ns ty ls es b e cs, vs)
  else (match es with
   | [x] => if k = 5 then (match typS ⟨su, fu, vs⟩ x noT with
    | some (x, t) => if numK t.kind = true then (match casesS su fu res (topS t.kind) cs vs with
     | some cs => (blockS su fu res e vs).map fun e => (.mk k ns ty ls [x] b e cs, vs)
     | none => none) else none
    | none => none)
    else (match wantR (typS ⟨su, fu, vs⟩ x tyBool) tyBool with
     | some x => (match blockS su fu res b vs with
      | some b => (blockS su fu res e vs).map fun e => (.mk k ns ty ls [x] b e cs, vs)
      | none => none)
     | none => none)
   | _ => none)
def blockS (su : List SuT) (fu : List FuT) (res : List TyT) : List StT → List PaT → Option (List StT)
 | [], _ => some []
 | s :: l, vs => (match stmtS su fu res s vs with
  | some (s, vs) => (blockS su fu res l vs).map fun l => s :: l
  | none => none)
def casesS (su : List SuT) (fu : List FuT) (res : List TyT) (top : Int) : List CaT → List PaT → Option (List CaT)
 | [], _ => some []
 | .mk i b :: l, vs => if top < i then none else (match blockS su fu res b vs with
  | some b => (casesS su fu res top l vs).map fun l => .mk i b :: l
  | none => none)
end
mutual
def endsT : StT → Bool
 | .mk k _ _ _ _ b e cs => decide (k = 6) || (endsL e && (decide (k = 5) || decide (k = 3) && endsL b) && endsC cs)
def endsL : List StT → Bool
 | [] => false
 | s :: l => (match l with
  | [] => endsT s
  | _ :: _ => endsL l)
def endsC : List CaT → Bool
 | [] => true
 | .mk _ b :: l => endsL b && endsC l
end
end Go.Proofs.YtnfnbjjnjjdjdaaGreatDoor
namespace Go.Proofs.YtnfnbjjnjjdjdaaGreatDoor
open Go.RowKit Go.Av Go.Ab
set_option linter.unusedSimpArgs false
set_option maxRecDepth 100000
set_option linter.defProp false
def c13 := by
 have c := KK_of Tryz.f13 (by conv => lhs; cbv)
 dsimp only [KK, KxP, doO, opO, List.map_cons, List.map_nil, List.toList_toArray] at c
 exact c
theorem b13 : FnIs Tryz.prog 13 Tryz.f13 17 := ⟨Tryz.func13, by kernel_rfl⟩
theorem ret1 {I : Inv} {z : Nat × Nat} {fn : FuncId} {R : V → Mem → Prop} {k : List Item} {env : List V} {S : Mem} {P : Program} {f : Func} {v : V} {a : Nat} {t : TypeId} (hf : P.funcs[fn]? = some f) (hr : f.results.toList = [.cell a t]) (h1 : opLoad P S t (env.getD a .undef) = some v) (hR : R v S) : ARun P I z fn (.code .ret :: k) env S R :=
 ARun.ret hf (by rw [hr]; exact h1) hR
theorem ret2 {I : Inv} {z : Nat × Nat} {fn : FuncId} {R : V → Mem → Prop} {k : List Item} {env : List V} {S : Mem} {P : Program} {f : Func} {v u : V} {a b : Nat} {t : TypeId} (hf : P.funcs[fn]? = some f) (hr : f.results.toList = [.cell a t, .tmp b]) (h1 : opLoad P S t (env.getD a .undef) = some v) (h2 : env.getD b .undef = u) (hR : R (.tup [v, u]) S) : ARun P I z fn (.code .ret :: k) env S R :=
 ARun.ret hf (by rw [hr]; simp only [resV, resV1, h1, h2]) hR
def tyL (t : TyT) : List V := [.d (.int .i64 t.kind), .d (.str t.name), .d (.sl (t.elem.map tyD))]
theorem mostR_ab (k : Int) (B : List (List V)) (T : List (Nat × Nat)) : AFn Tryz.prog TabI 13 [.d (.int .i64 k)] ⟨B, T⟩ (Same (.d (.int .u64 (topS k))) ⟨B, T⟩) := by
 cases h0 : decide (k < 0)
 case true =>
  have h1 := of_decide_eq_true h0
  have e : topS k = 0 := by unfold topS; simp only [show ¬ k = 2 by omega, show ¬ k = 3 by omega, show ¬ k = 4 by omega, show ¬ k = 5 by omega, show ¬ k = 6 by omega, if_false]
  rw [e]
  refine b13.go 160 rfl fun hsm => ?_
  simp only [smw] at hsm
  simp only [W, seval, c13, h0, mapD_nil, mapD_cons, Nat.reduceMul]
  refine ARun.ret Tryz.func13 rfl (Left.none ?_)
  exact ⟨rfl, rfl⟩
 case false =>
  have h1 := of_decide_eq_false h0
  cases h7 : decide (7 ≤ k)
  case true =>
   have h2 := of_decide_eq_true h7
   have e : topS k = 0 := by unfold topS; simp only [show ¬ k = 2 by omega, show ¬ k = 3 by omega, show ¬ k = 4 by omega, show ¬ k = 5 by omega, show ¬ k = 6 by omega, if_false]
   rw [e]
   refine b13.go 160 rfl fun hsm => ?_
   simp only [smw] at hsm
   simp only [W, seval, c13, h0, h7, mapD_nil, mapD_cons, Nat.reduceMul]
   refine ARun.ret Tryz.func13 rfl (Left.none ?_)
   exact ⟨rfl, rfl⟩
  case false =>
   have h2 := of_decide_eq_false h7
   have : k = 0 ∨ k = 1 ∨ k = 2 ∨ k = 3 ∨ k = 4 ∨ k = 5 ∨ k = 6 := by omega
   rcases this with rfl | rfl | rfl | rfl | rfl | rfl | rfl
   all_goals
    refine b13.go 160 rfl fun hsm => ?_
    simp only [smw] at hsm
    simp only [W, seval, c13, h0, h7, mapD_nil, mapD_cons, Nat.reduceMul]
    refine ARun.ret Tryz.func13 rfl (Left.none ?_)
    exact ⟨rfl, rfl⟩
def posF {α : Type} (nm : α → List UInt8) : List α → List UInt8 → Int → Int
 | [], _, _ => -1
 | x :: l, n, i => if nm x = n then i else posF nm l n (i + 1)
theorem posF_at {α : Type} (nm : α → List UInt8) : ∀ (l : List α) (n : List UInt8) (i : Int), 0 ≤ i → (posF nm l n i = -1 ∧ atN nm l n = none) ∨ ∃ (j : Nat) (x : α), posF nm l n i = i + j ∧ l[j]? = some x ∧ atN nm l n = some x
 | [], _, _, _ => .inl ⟨rfl, rfl⟩
 | x :: l, n, i, hi => by
  by_cases h : nm x = n
  ·exact .inr ⟨0, x, by simp [posF, h], rfl, by simp [atN, h]⟩
  ·rcases posF_at nm l n (i + 1) (by omega) with ⟨h1, h2⟩ | ⟨j, y, h1, h2, h3⟩
   ·exact .inl ⟨by simp [posF, h, h1], by simp [atN, h, h2]⟩
   ·exact .inr ⟨j + 1, y, by simp [posF, h, h1]; omega, by simpa using h2, by simp [atN, h, h3]⟩
def eBox (su : List SuT) (fu : List FuT) (vv : V) (res : List TyT) : List V := [.d (.sl (su.map suD)), .d (.sl (fu.map fuD)), vv, .d (.sl (res.map tyD))]
inductive TW : TyT → Prop
 | leaf (k : Int) (n : List UInt8) (es : List TyT) : k ≠ 8 → TW (.mk k n es)
 | sl (n : List UInt8) (t : TyT) : TW t → TW (.mk 8 n [t])
theorem TW.of_ok {t : TyT} (h : OkT t) : TW t := by
 induction h with
 | bas k h1 h2 => exact .leaf k _ _ (by omega)
 | nam n h => exact .leaf 7 _ _ (by omega)
 | sli t h ih => exact .sl _ t ih
structure EnvT (l : List SuT) (m : List FuT) : Prop where
 su : l.length ≤ 60000
 fu : m.length ≤ 60000
 fl : ∀ s ∈ l, s.fields.length ≤ 60000 ∧ ∀ f ∈ s.fields, TW f.type
 pa : ∀ f ∈ m, f.params.length ≤ 60000 ∧ f.results.length ≤ 60000 ∧ (∀ p ∈ f.params, TW p.type) ∧ ∀ t ∈ f.results, TW t
theorem standS_sl (su : List SuT) (n : List UInt8) (t : TyT) : standS su (.mk 8 n [t]) = standS su t := by
 conv => lhs; unfold standS
 exact if_pos rfl
theorem standS_leaf (su : List SuT) (k : Int) (n : List UInt8) (es : List TyT) (hk : k ≠ 8) : standS su (.mk k n es) = (decide (k ≠ 7) || (atN SuT.name su n).isSome) := by
 unfold standS
 rw [if_neg hk]
def tyAn (r : Option TyT) (v : V) : Prop :=
 match r with
 | some t => v = .tup [tyV t, .d (.bool true)]
 | none => v = .tup [tyV noT, .d (.bool false)]
theorem bxw_toD (i n cap : Nat) : toD (.bx i n cap) = none := rfl
theorem bxw_len (e a b : Nat) (g : Bool) (z : List V) (i n cap : Nat) : opLenB ⟨.slice e, a, b, g, z⟩ (.bx i n cap) = some (.d (.int .i64 (n : Int))) := rfl
theorem bxw_idx (P : Program) (e a b : Nat) (g : Bool) (z : List V) (i n cap : Nat) (k : Int) : opIdxB P ⟨.slice e, a, b, g, z⟩ (.bx i n cap) k = match tyOf P e with
 | some te => if 0 ≤ k ∧ k < (n : Int) then some (.ptr i (k.toNat * te.size)) else none
 | none => none := rfl
set_option linter.defProp false in
def bxw := And.intro bxw_toD (And.intro bxw_len bxw_idx)
def VarsIs (B : List (List V)) (c : Nat) (vv : V) (vs : List PaT) : Prop :=
 (vs = [] ∧ vv = .sl [] .full) ∨ ∃ (i cap : Nat) (J : List V), vv = .bx i vs.length cap ∧ i ≠ c ∧ B[i]? = some ((vs.map paD).flatten.map .d ++ J) ∧ J.length = (cap - vs.length) * 4 ∧ vs.length ≤ cap ∧ vs.length ≤ 9223372036854775806
theorem VarsIs.more {B J : List (List V)} {c : Nat} {vv : V} {vs : List PaT} (h : VarsIs B c vv vs) : VarsIs (B ++ J) c vv vs := by
 rcases h with h | ⟨i, cap, K, h1, h2, h3, h4⟩
 ·exact .inl h
 ·exact .inr ⟨i, cap, K, h1, h2, by rw [bx_old (List.getElem?_eq_some_iff.1 h3).1]; exact h3, h4⟩
theorem flatPa_len (vs : List PaT) : (vs.map paD).flatten.length = vs.length * 4 := by
 induction vs with
 | nil => rfl
 | cons p l ih => rw [List.map_cons, List.flatten_cons, List.length_append, ih, List.length_cons]; simp [paD]; omega
def slV (f : Nat → Nat → List V → Prop) (n : Nat) (B : List (List V)) (lo hi : Nat) (v : V) : Prop :=
 (n = 0 ∧ v = .d (.sl []) ∧ lo ≤ hi) ∨ (n ≠ 0 ∧ ∃ j cap Y, v = .bx j n cap ∧ lo ≤ j ∧ j < hi ∧ B[j]? = some Y ∧ f (j + 1) hi Y)
theorem slV.le {f : Nat → Nat → List V → Prop} {n : Nat} {B : List (List V)} {lo hi : Nat} {v : V} (h : slV f n B lo hi v) : lo ≤ hi := by
 rcases h with ⟨_, _, h⟩ | ⟨_, j, cap, Y, _, h1, h2, _⟩ <;> omega
theorem slV.frame {f g : Nat → Nat → List V → Prop} {n : Nat} {B B' : List (List V)} {lo hi : Nat} {v : V} (h : slV f n B lo hi v) (hb : ∀ i, lo ≤ i → i < hi → B'[i]? = B[i]?) (hf : ∀ a Y, lo ≤ a → f a hi Y → g a hi Y) : slV g n B' lo hi v := by
 rcases h with h | ⟨hn, j, cap, Y, rfl, h1, h2, h3, h4⟩
 ·exact .inl h
 ·exact .inr ⟨hn, j, cap, Y, rfl, h1, h2, by rw [hb j h1 h2]; exact h3, hf _ _ (by omega) h4⟩
def rowsV {α : Type} (sz : Nat) (f : α → Nat → Nat → List V → Prop) : List α → Nat → Nat → List V → Prop
 | [], lo, hi, _ => lo ≤ hi
 | x :: l, lo, hi, X => ∃ r X' m, X = r ++ X' ∧ r.length = sz ∧ lo ≤ m ∧ m ≤ hi ∧ f x lo m r ∧ rowsV sz f l m hi X'
theorem rowsV.le {α : Type} {sz : Nat} {f : α → Nat → Nat → List V → Prop} : ∀ {l : List α} {lo hi : Nat} {X : List V}, rowsV sz f l lo hi X → lo ≤ hi
 | [], _, _, _, h => h
 | x :: l, lo, hi, X, ⟨r, X', m, _, _, h1, h2, _⟩ => by omega
theorem rowsV.congr {α : Type} {sz : Nat} {f g : α → Nat → Nat → List V → Prop} : ∀ {l : List α} {lo hi : Nat} {X : List V}, rowsV sz f l lo hi X → (∀ x ∈ l, ∀ a b r, lo ≤ a → b ≤ hi → f x a b r → g x a b r) → rowsV sz g l lo hi X
 | [], _, _, _, h, _ => h
 | x :: l, lo, hi, X, ⟨r, X', m, h1, h2, h3, h4, h5, h6⟩, hg => ⟨r, X', m, h1, h2, h3, h4, hg x (by simp) _ _ _ (Nat.le_refl _) h4 h5, h6.congr fun y hy a b r' ha hb hf => hg y (by simp [hy]) a b r' (by omega) hb hf⟩
theorem rowsV.at {α : Type} {sz : Nat} {f : α → Nat → Nat → List V → Prop} : ∀ {l : List α} {lo hi : Nat} {X : List V}, rowsV sz f l lo hi X → ∀ (k : Nat) (x : α), l[k]? = some x →
 ∃ A r C lo' hi', X = A ++ r ++ C ∧ A.length = k * sz ∧ r.length = sz ∧ lo ≤ lo' ∧ lo' ≤ hi' ∧ hi' ≤ hi ∧ f x lo' hi' r ∧
  ∀ (g : α → Nat → Nat → List V → Prop) (y : α) (r' : List V), r'.length = sz → g y lo' hi' r' → (∀ z ∈ l, ∀ a b q, lo ≤ a → b ≤ hi → (b ≤ lo' ∨ hi' ≤ a) → f z a b q → g z a b q) → rowsV sz g (l.set k y) lo hi (A ++ r' ++ C)
 | [], _, _, _, _, k, x, hk => by simp at hk
 | z :: l, lo, hi, X, ⟨r, X', m, h1, h2, h3, h4, h5, h6⟩, 0, x, hk => by
  obtain rfl : z = x := by simpa using hk
  refine ⟨[], r, X', lo, m, by simpa using h1, by simp, h2, Nat.le_refl _, h3, h4, h5, fun g y r' hr hy hg => ⟨r', X', m, by simp, hr, h3, h4, hy, h6.congr fun u hu a b q ha hb hf => hg u (by simp [hu]) a b q (by omega) hb (.inr ha) hf⟩⟩
 | z :: l, lo, hi, X, ⟨r, X', m, h1, h2, h3, h4, h5, h6⟩, k + 1, x, hk => by
  obtain ⟨A, q, C, lo', hi', e1, e2, e3, e4, e5, e6, e7, e8⟩ := rowsV.at h6 k x (by simpa using hk)
  refine ⟨r ++ A, q, C, lo', hi', by rw [h1, e1]; simp, by rw [List.length_append, h2, e2, Nat.add_mul]; omega, e3, by omega, e5, e6, e7, fun g y r' hr hy hg => ?_⟩
  refine ⟨r, A ++ r' ++ C, m, by simp, h2, h3, h4, hg z (by simp) _ _ _ (Nat.le_refl _) h4 (.inl e4) h5, e8 g y r' hr hy fun u hu a b p ha hb hc hf => hg u (by simp [hu]) a b p (by omega) hb hc hf⟩
theorem rowsV.len {α : Type} {sz : Nat} {f : α → Nat → Nat → List V → Prop} : ∀ {l : List α} {lo hi : Nat} {X : List V}, rowsV sz f l lo hi X → l.length * sz ≤ X.length
 | [], _, _, _, _ => by simp
 | x :: l, lo, hi, X, ⟨r, X', m, h1, h2, h3, h4, h5, h6⟩ => by
  have := rowsV.len h6
  rw [h1, List.length_append, List.length_cons, Nat.add_mul]; omega
def exRow (x : ExT) (kv : V) : List V := [.d (.int .i64 x.kind), .d (.str x.text), .d (.int .u64 x.int), .d (.int .i64 x.type.kind), .d (.str x.type.name), .d (.sl (x.type.elem.map tyD)), .d (.sl (ssD x.names)), kv]
theorem exRow_new {A C : List V} {x y : ExT} {kv : V} : ∀ v ∈ A ++ exRow y kv ++ C, v ∈ A ++ exRow x kv ++ C ∨ fit 0 0 v = true := by
 intro v hv
 simp only [List.mem_append, exRow, List.mem_cons, List.not_mem_nil, or_false] at hv ⊢
 rcases hv with (hv | hv) | hv
 ·exact .inl (.inl (.inl hv))
 ·rcases hv with rfl | rfl | rfl | rfl | rfl | rfl | rfl | rfl
  all_goals first
   | exact .inr rfl
   | exact .inl (.inl (.inr (by simp)))
 ·exact .inl (.inr hv)
mutual
def OwnE (B : List (List V)) : ExT → Nat → Nat → List V → Prop
 | .mk k t i ty ns ks => fun lo hi r => ∃ kv, r = exRow (.mk k t i ty ns ks) kv ∧ slV (OwnL B ks) ks.length B lo hi kv
def OwnL (B : List (List V)) : List ExT → Nat → Nat → List V → Prop
 | [] => fun lo hi _ => lo ≤ hi
 | x :: l => fun lo hi X => ∃ r X' m, X = r ++ X' ∧ r.length = 8 ∧ lo ≤ m ∧ m ≤ hi ∧ OwnE B x lo m r ∧ OwnL B l m hi X'
end
theorem OwnL_rows (B : List (List V)) : ∀ (l : List ExT) (lo hi : Nat) (X : List V), OwnL B l lo hi X = rowsV 8 (OwnE B) l lo hi X
 | [], _, _, _ => by unfold OwnL rowsV; rfl
 | x :: l, lo, hi, X => by
  unfold OwnL rowsV
  simp only [OwnL_rows B l]
def OwnV (B : List (List V)) (l : List ExT) (lo hi : Nat) (v : V) : Prop := slV (OwnL B l) l.length B lo hi v
theorem OwnE_iff {B : List (List V)} {x : ExT} {lo hi : Nat} {r : List V} : OwnE B x lo hi r ↔ ∃ kv, r = exRow x kv ∧ OwnV B x.kids lo hi kv := by
 cases x
 unfold OwnE OwnV
 rfl
mutual
theorem OwnE.frame {B B' : List (List V)} : ∀ (x : ExT) {lo hi : Nat} {r : List V}, OwnE B x lo hi r → (∀ i, lo ≤ i → i < hi → B'[i]? = B[i]?) → OwnE B' x lo hi r
 | .mk k t i ty ns ks, lo, hi, r, h, hb => by
  unfold OwnE at h ⊢
  obtain ⟨kv, h1, h2⟩ := h
  exact ⟨kv, h1, h2.frame hb fun a Y ha hf => OwnL.frame ks hf fun i h3 h4 => hb i (by omega) h4⟩
theorem OwnL.frame {B B' : List (List V)} : ∀ (l : List ExT) {lo hi : Nat} {X : List V}, OwnL B l lo hi X → (∀ i, lo ≤ i → i < hi → B'[i]? = B[i]?) → OwnL B' l lo hi X
 | [], lo, hi, X, h, hb => by
  unfold OwnL at h ⊢
  exact h
 | x :: l, lo, hi, X, h, hb => by
  unfold OwnL at h ⊢
  obtain ⟨r, X', m, h1, h2, h3, h4, h5, h6⟩ := h
  exact ⟨r, X', m, h1, h2, h3, h4, OwnE.frame x h5 fun i h7 h8 => hb i h7 (by omega), OwnL.frame l h6 fun i h7 h8 => hb i (by omega) h8⟩
end
theorem OwnV.frame {B B' : List (List V)} {l : List ExT} {lo hi : Nat} {v : V} (h : OwnV B l lo hi v) (hb : ∀ i, lo ≤ i → i < hi → B'[i]? = B[i]?) : OwnV B' l lo hi v :=
 slV.frame h hb fun a Y ha hf => OwnL.frame l hf fun i h3 h4 => hb i (by omega) h4
def Out (j lo hi i : Nat) : Prop := i ≠ j ∧ (i < lo ∨ hi ≤ i)
def Eff (j lo hi n : Nat) (B B' : List (List V)) : Prop := B.length ≤ B'.length ∧ (∀ i, i < n → Out j lo hi i → B'[i]? = B[i]?) ∧ ∀ i, i < n → ∀ Y, B'[i]? = some Y → ∀ v ∈ Y, (∃ X, B[i]? = some X ∧ v ∈ X) ∨ fit 0 0 v = true
theorem Eff.mem {j lo hi n : Nat} {B B1 B2 : List (List V)} (h : Eff j lo hi n B B1) (hl : B.length ≤ B2.length) (he : ∀ i, i < n → B2[i]? = B1[i]?) : Eff j lo hi n B B2 :=
 ⟨hl, fun i hn ho => (he i hn).trans (h.2.1 i hn ho), fun i hn Y hY v hv => h.2.2 i hn Y (by rw [← he i hn]; exact hY) v hv⟩
theorem Eff.refl (j lo hi n : Nat) (B : List (List V)) : Eff j lo hi n B B := ⟨Nat.le_refl _, fun _ _ _ => rfl, fun _ _ Y hY _ hv => .inl ⟨Y, hY, hv⟩⟩
theorem Eff.trans {j lo hi n : Nat} {B B1 B2 : List (List V)} (h : Eff j lo hi n B B1) (h1 : Eff j lo hi n B1 B2) : Eff j lo hi n B B2 :=
 ⟨Nat.le_trans h.1 h1.1, fun i hn hi => (h1.2.1 i hn hi).trans (h.2.1 i hn hi), fun i hn Y hY v hv => (h1.2.2 i hn Y hY v hv).elim (fun ⟨X, hX, hm⟩ => h.2.2 i hn X hX v hm) .inr⟩
theorem Eff.less {j lo hi n m : Nat} {B B1 : List (List V)} (h : Eff j lo hi n B B1) (hm : m ≤ n) : Eff j lo hi m B B1 := ⟨h.1, fun i hi => h.2.1 i (by omega), fun i hi => h.2.2 i (by omega)⟩
theorem Eff.sub {j lo hi n j1 lo1 hi1 : Nat} {B B1 : List (List V)} (h : Eff j1 lo1 hi1 n B B1) (h1 : lo ≤ j1) (h2 : j1 < hi) (h3 : lo ≤ lo1) (h4 : hi1 ≤ hi) : Eff j lo hi n B B1 :=
 ⟨h.1, fun i hn ho => h.2.1 i hn ⟨by have := ho.2; omega, by have := ho.2; omega⟩, h.2.2⟩
theorem Eff.step {j lo hi : Nat} {B M B1 : List (List V)} (h0 : Eff j lo hi B.length B M) (h : Eff j lo hi M.length M B1) : Eff j lo hi B.length B B1 := h0.trans (h.less h0.1)
theorem Eff.app {j lo hi : Nat} {B M J : List (List V)} (h0 : Eff j lo hi B.length B M) : Eff j lo hi B.length B (M ++ J) := h0.mem (by have := h0.1; rw [List.length_append]; omega) fun i hi => bx_old (Nat.lt_of_lt_of_le hi h0.1)
theorem Eff.setf {j lo hi : Nat} {B M : List (List V)} {k : Nat} {x : List V} (h0 : Eff j lo hi B.length B M) (hk : B.length ≤ k) : Eff j lo hi B.length B (M.set k x) := h0.mem (by rw [List.length_set]; exact h0.1) fun i hi => List.getElem?_set_ne (by omega)
theorem Eff.new {j lo hi : Nat} {B J : List (List V)} : Eff j lo hi B.length B (B ++ J) := (Eff.refl _ _ _ _ B).app
theorem Eff.cut {j lo hi : Nat} {B M : List (List V)} (h : Eff j lo hi B.length B M) : Eff j lo hi B.length B (M.take B.length) := h.mem (by have := h.1; rw [List.length_take]; omega) fun i hi => by rw [List.getElem?_take, if_pos hi]
theorem left_eff {j lo hi : Nat} {B M : List (List V)} {T K : List (Nat × Nat)} {R : V → Mem → Prop} {v : V} (he : Eff j lo hi B.length B M) (h : R (wk B.length T.length v) ⟨M.take B.length, T⟩) : Go.Ab.Left ⟨B, T⟩ R v ⟨M, T ++ K⟩ := by
 have hl : (M.take B.length).length = B.length := by have := he.1; rw [List.length_take]; omega
 have := Go.Ab.Left.ofC (J := M.drop B.length) (U := T) (K := K) hl rfl (fun i vs hi v hv => ?_) h
 ·rwa [List.take_append_drop] at this
 ·have hlt : i < B.length := by have := (List.getElem?_eq_some_iff.1 hi).1; omega
  rw [List.getElem?_take, if_pos hlt] at hi
  exact (he.2.2 i hlt vs hi v hv).imp id fun h => fit_mono (Nat.zero_le _) (Nat.zero_le _) v h
theorem left_eff0 {j lo hi : Nat} {B M : List (List V)} {T : List (Nat × Nat)} {R : V → Mem → Prop} {v : V} (he : Eff j lo hi B.length B M) (h : R (wk B.length T.length v) ⟨M.take B.length, T⟩) : Go.Ab.Left ⟨B, T⟩ R v ⟨M, T⟩ := by
 have := left_eff (K := []) he h
 rwa [List.append_nil] at this
def cBox (s f w : Nat) (res : List TyT) : List V := [.mp s, .mp f, .mp w, .d (.sl (res.map tyD))]
def suM (l : List SuT) : List V := [.kvs (l.map SuT.name) (l.map suV)]
def fuM (l : List FuT) : List V := [.kvs (l.map FuT.name) (l.map fuV)]
def vaM (l : List PaT) : List V := [.kvs (l.map PaT.name) (l.map fun p => tyV p.type)]
structure KAt (B : List (List V)) (c s f w : Nat) (E : Tenv) (res : List TyT) : Prop where
 c : B[c]? = some (cBox s f w res)
 s : B[s]? = some (suM E.su)
 f : B[f]? = some (fuM E.fu)
 w : B[w]? = some (vaM E.vs)
theorem KAt.keep {B B' : List (List V)} {c s f w : Nat} {E : Tenv} {res : List TyT} (h : KAt B c s f w E res) (hc : B'[c]? = B[c]?) (hs : B'[s]? = B[s]?) (hf : B'[f]? = B[f]?) (hw : B'[w]? = B[w]?) : KAt B' c s f w E res :=
 ⟨by rw [hc]; exact h.c, by rw [hs]; exact h.s, by rw [hf]; exact h.f, by rw [hw]; exact h.w⟩
structure RwAt (B : List (List V)) (n c s f w : Nat) (E : Tenv) (res : List TyT) (j lo hi : Nat) (A C : List V) (kv : V) (x : ExT) : Prop where
 k : KAt B c s f w E res
 row : B[j]? = some (A ++ exRow x kv ++ C)
 own : OwnV B x.kids lo hi kv
 jo : j < lo ∨ hi ≤ j
 oc : Out j lo hi c
 os : Out j lo hi s
 of : Out j lo hi f
 ow : Out j lo hi w
 nb : c < n ∧ s < n ∧ f < n ∧ w < n ∧ j < n ∧ hi ≤ n
 nl : n ≤ B.length
theorem RwAt.mem {B B' : List (List V)} {n c s f w : Nat} {E : Tenv} {res : List TyT} {j lo hi : Nat} {A C : List V} {kv : V} {x : ExT} (h : RwAt B n c s f w E res j lo hi A C kv x) (hl : B.length ≤ B'.length) (he : ∀ i, i < n → B'[i]? = B[i]?) : RwAt B' n c s f w E res j lo hi A C kv x := by
 obtain ⟨n1, n2, n3, n4, n5, n6⟩ := h.nb
 exact ⟨h.k.keep (he _ n1) (he _ n2) (he _ n3) (he _ n4), by rw [he _ n5]; exact h.row, h.own.frame fun i _ hi => he i (by omega), h.jo, h.oc, h.os, h.of, h.ow, h.nb, by have := h.nl; omega⟩
theorem RwAt.more {B J : List (List V)} {n c s f w : Nat} {E : Tenv} {res : List TyT} {j lo hi : Nat} {A C : List V} {kv : V} {x : ExT} (h : RwAt B n c s f w E res j lo hi A C kv x) : RwAt (B ++ J) n c s f w E res j lo hi A C kv x :=
 h.mem (by simp) fun i hi => bx_old (Nat.lt_of_lt_of_le hi h.nl)
theorem RwAt.eff {B B' : List (List V)} {n c s f w : Nat} {E : Tenv} {res : List TyT} {j lo hi : Nat} {A C : List V} {kv : V} {x y : ExT} (h : RwAt B n c s f w E res j lo hi A C kv x) (he : Eff j lo hi n B B') (hr : B'[j]? = some (A ++ exRow y kv ++ C)) (ho : OwnV B' y.kids lo hi kv) : RwAt B' n c s f w E res j lo hi A C kv y := by
 obtain ⟨n1, n2, n3, n4, n5, n6⟩ := h.nb
 exact ⟨h.k.keep (he.2.1 _ n1 h.oc) (he.2.1 _ n2 h.os) (he.2.1 _ n3 h.of) (he.2.1 _ n4 h.ow), hr, ho, h.jo, h.oc, h.os, h.of, h.ow, h.nb, by have := h.nl; have := he.1; omega⟩
theorem setKids_at (x : ExT) (l : List ExT) : (setKids x l).kids = l := by cases x; rfl
theorem exRow_set (x : ExT) (l : List ExT) (kv : V) : exRow (setKids x l) kv = exRow x kv := by cases x; rfl
theorem RwAt.kid {B : List (List V)} {n c s f w : Nat} {E : Tenv} {res : List TyT} {j lo hi : Nat} {A C : List V} {kv : V} {x : ExT} (h : RwAt B n c s f w E res j lo hi A C kv x) {k : Nat} {y : ExT} (hk : x.kids[k]? = some y) :
 ∃ (j1 cap lo1 hi1 : Nat) (A1 C1 : List V) (kv1 : V), kv = .bx j1 x.kids.length cap ∧ A1.length = k * 8 ∧ (j1 < n ∧ Out j1 lo1 hi1 j) ∧ RwAt B n c s f w E res j1 lo1 hi1 A1 C1 kv1 y ∧
  (∀ B1 m, Eff j1 lo1 hi1 m B B1 → Eff j lo hi m B B1) ∧
  ∀ B1 z, Eff j1 lo1 hi1 n B B1 → B1[j1]? = some (A1 ++ exRow z kv1 ++ C1) → OwnV B1 z.kids lo1 hi1 kv1 → RwAt B1 n c s f w E res j lo hi A C kv (setKids x (x.kids.set k z)) := by
 have hlt := (List.getElem?_eq_some_iff.1 hk).1
 rcases h.own with ⟨h0, _⟩ | ⟨hn, j1, cap, Y, h1, h2, h3, h4, h5⟩
 ·omega
 rw [OwnL_rows] at h5
 obtain ⟨A1, r, C1, lo1, hi1, e1, e2, e3, e4, e5, e6, e7, e8⟩ := h5.at k y hk
 obtain ⟨kv1, rfl, hv⟩ := OwnE_iff.1 e7
 obtain ⟨n1, n2, n3, n4, n5, n6⟩ := h.nb
 have sub : ∀ i, Out j lo hi i → Out j1 lo1 hi1 i := fun i hi => ⟨by have := hi.2; omega, by have := hi.2; omega⟩
 have hE : ∀ B1 m, Eff j1 lo1 hi1 m B B1 → Eff j lo hi m B B1 := fun B1 m he => he.sub h2 h3 (by omega) e6
 have hjo := h.jo
 have hjj : Out j1 lo1 hi1 j := ⟨by omega, by omega⟩
 refine ⟨j1, cap, lo1, hi1, A1, C1, kv1, h1, e2, ⟨by omega, hjj⟩, ⟨h.k, by rw [h4, e1], hv, by omega, sub _ h.oc, sub _ h.os, sub _ h.of, sub _ h.ow, ⟨n1, n2, n3, n4, by omega, by omega⟩, h.nl⟩, hE, fun B1 z he hr ho => ?_⟩
 refine h.eff (hE _ _ he) ?_ ?_
 ·rw [exRow_set, he.2.1 j n5 hjj]; exact h.row
 ·rw [setKids_at]
  refine .inr ⟨by rw [List.length_set]; exact hn, j1, cap, _, by rw [List.length_set]; exact h1, h2, h3, hr, ?_⟩
  rw [OwnL_rows]
  refine e8 (OwnE B1) z _ rfl (OwnE_iff.2 ⟨_, rfl, ho⟩) fun u _ a b q ha hb hc hf => OwnE.frame u hf fun i h7 h8 => he.2.1 i (by omega) ⟨by omega, by omega⟩
def c41 := by
 have c := KK_of Tryz.f41 (by conv => lhs; cbv)
 dsimp only [KK, KxP, doO, opO, List.map_cons, List.map_nil, List.toList_toArray] at c
 exact c
theorem b41 : FnIs Tryz.prog 41 Tryz.f41 32 := ⟨Tryz.func41, by kernel_rfl⟩
set_option maxHeartbeats 1000000 in
theorem equalFunc_Type (g : FuncId) (first caps : List V) (e : TyT → TyT → Bool) (a b : List TyT) (B : List (List V)) (T : List (Nat × Nat)) (hg : ∀ x ∈ a, ∀ y ∈ b, ∀ J, AFn Tryz.prog TabI g (first ++ [tyV x, tyV y] ++ caps) ⟨B ++ J, T⟩ (Same (.d (.bool (e x y))) ⟨B ++ J, T⟩)) :
 AFn Tryz.prog TabI 41 [.d (.sl (a.map tyD)), .d (.sl (b.map tyD)), .func g first caps] ⟨B, T⟩ (Same (.d (.bool (eqF e a b))) ⟨B, T⟩) := by
 obtain ⟨N, hn⟩ : ∃ N, B.length = N := ⟨_, rfl⟩
 refine b41.go 8 rfl fun hsm => ?_
 simp only [smw] at hsm
 simp only [W, seval, c41, hn]
 refine ARun.fitE fun hfe => ?_
 have hfe2 := hfe 2
 simp only [envS_get, lk_cons, lk_nil, Nat.reduceBEq, Nat.reduceAdd, Nat.reduceSub, cond_true, cond_false, hn] at hfe2
 clear hfe
 by_cases hl : a.length = b.length
 case neg =>
  have hl' : decide ((a.length : Int) = (b.length : Int)) = false := decide_eq_false (by omega)
  refine ARun.go 200 ?_
  simp only [W, seval, c41, hl', hn]
  refine ARun.ret Tryz.func41 rfl (Left.none ?_)
  rw [eqF_len e a b hl]
  exact ⟨rfl, rfl⟩
 have hl' : decide ((a.length : Int) = (b.length : Int)) = true := decide_eq_true (by omega)
 refine ARun.go 30 ?_
 simp only [W, seval, c41, hl', hn]
 refine ARun.fits fun hf => ?_
 refine ARun.loopB (fun i : Nat => (envS 32 [(1, .d (.sl (b.map tyD))), (2, .func g first caps), (15, .d (.sl (a.map tyD))), (16, .d (.int .i64 a.length)), (17, .d (.int .i64 i))], ⟨B, T⟩)) (fun i => i ≤ a.length ∧ eqF e a b = eqF e (a.drop i) (b.drop i)) (fun i => a.length - i) 0 ⟨by omega, rfl⟩ ?_ rfl ?_
 ·skip
  refine Agree.env _ ?_
  simp only [agw, seval, hn]
 rintro i ⟨h1, h2⟩ ih
 dsimp only at h1 h2 ih ⊢
 by_cases hlt : i < a.length
 ·have hw := wrap_in ((i : Int) + 1) (by omega)
  have hltb : i < b.length := by omega
  have hga := List.getElem?_eq_getElem hlt
  have hgb := List.getElem?_eq_getElem hltb
  have hlt' : decide ((i : Int) < (a.length : Int)) = true := decide_eq_true (by omega)
  rw [eqF_step e a b i hlt hltb] at h2
  have hgx := hg a[i] (List.getElem_mem hlt) b[i] (List.getElem_mem hltb)
  obtain ⟨x, hx⟩ : ∃ x, a[i] = x := ⟨_, rfl⟩
  obtain ⟨y, hy⟩ : ∃ y, b[i] = y := ⟨_, rfl⟩
  rw [hx] at hga h2 hgx
  rw [hy] at hgb h2 hgx
  refine ARun.go 200 ?_
  simp only [W, seval, c41, hn, List.getElem?_map, hga, hgb, hlt', tyD_eq]
  refine callS_of (hgx _) ?_
  rintro _ _ ⟨rfl, rfl⟩
  refine ARun.go 200 ?_
  simp only [W, seval, c41, hn]
  cases he : e x y
  ·simp only [W, seval, c41, hn, he]
   refine ARun.ret Tryz.func41 rfl (Left.box ?_)
   rw [h2, he]
   exact ⟨rfl, rfl⟩
  ·simp only [W, seval, c41, hn, he, hw]
   rw [he, Bool.true_and] at h2
   refine ih (i + 1) ⟨hlt, h2⟩ (by omega) _ _ _ _ rfl ⟨by omega, Nat.le_refl _⟩ hf ?_
   refine AgreeF.env _ ?_
   simp only [agf, seval, hn]
   exact hfe2
 ·have hlt' : decide ((i : Int) < (a.length : Int)) = false := decide_eq_false (by omega)
  refine ARun.go 200 ?_
  simp only [W, seval, c41, hn, hlt']
  refine ARun.ret Tryz.func41 rfl (Left.none ?_)
  rw [h2, eqF_end e a b i (by omega) (by omega)]
  exact ⟨rfl, rfl⟩
mutual
def eqT : TyT → TyT → Bool
 | .mk k n es, .mk k' n' es' => decide (k = k') && (decide (n = n') && eqTs es es')
def eqTs : List TyT → List TyT → Bool
 | [], [] => true
 | t :: a, u :: b => eqT t u && eqTs a b
 | [], _ :: _ => false
 | _ :: _, [] => false
end
theorem eqTs_F : ∀ a b : List TyT, eqTs a b = eqF eqT a b
 | [], [] => by rw [eqTs, eqF]
 | t :: a, u :: b => by rw [eqTs, eqF, eqTs_F a b]
 | [], _ :: _ => by rw [eqTs, eqF] <;> simp
 | _ :: _, [] => by rw [eqTs, eqF] <;> simp
theorem eqT_mk (t u : TyT) : eqT t u = (decide (t.kind = u.kind) && (decide (t.name = u.name) && eqF eqT t.elem u.elem)) := by
 cases t; cases u
 rw [eqT, eqTs_F]
 rfl
def c37 := by
 have c := KK_of Tryz.f37 (by conv => lhs; cbv)
 dsimp only [KK, KxP, doO, opO, List.map_cons, List.map_nil, List.toList_toArray] at c
 exact c
theorem b37 : FnIs Tryz.prog 37 Tryz.f37 24 := ⟨Tryz.func37, by kernel_rfl⟩
def TOkG (t : TyT) : Prop := ∀ (u : TyT) (S : Mem), AFn Tryz.prog TabI 37 [tyV t, tyV u] S (Same (.d (.bool (eqT t u))) S)
set_option maxHeartbeats 1000000 in
theorem sameType_step (t : TyT) (h : ∀ x ∈ t.elem, TOkG x) : TOkG t := by
 intro u S
 refine AFn.same (v := .d (.bool (eqT t u))) ?_ rfl rfl S
 rw [eqT_mk]
 have he := fun B T => equalFunc_Type 37 [] [] eqT t.elem u.elem B T (fun x hx y _ J => h x hx y _)
 unfold tyV
 cases h1 : decide (t.kind = u.kind)
 ·refine b37.go 200 rfl fun _ => ?_
  simp only [W, seval, c37, h1]
  refine ARun.ret Tryz.func37 rfl (Left.empty ?_)
  exact ⟨rfl, rfl⟩
 cases h2 : decide (t.name = u.name)
 ·refine b37.go 200 rfl fun _ => ?_
  simp only [W, seval, c37, h1, h2]
  refine ARun.ret Tryz.func37 rfl (Left.empty ?_)
  exact ⟨rfl, rfl⟩
 refine b37.go 200 rfl fun _ => ?_
 simp only [W, seval, c37, h1, h2]
 refine callS_fn (he _ _) ?_
 rintro _ _ ⟨rfl, rfl⟩
 refine ARun.go 200 ?_
 simp only [W, seval, c37]
 refine ARun.ret Tryz.func37 rfl (Left.empty ?_)
 exact ⟨rfl, rfl⟩
mutual
theorem sameType_ab : ∀ t : TyT, TOkG t
 | .mk k n es => sameType_step (.mk k n es) (sameType_all es)
theorem sameType_all : ∀ (ts : List TyT), ∀ x ∈ ts, TOkG x
 | [], _, h => absurd h List.not_mem_nil
 | y :: l, x, h => by
  rcases List.mem_cons.1 h with e | e
  ·rw [e]; exact sameType_ab y
  ·exact sameType_all l x e
end
end Go.Proofs.YtnfnbjjnjjdjdaaGreatDoor
