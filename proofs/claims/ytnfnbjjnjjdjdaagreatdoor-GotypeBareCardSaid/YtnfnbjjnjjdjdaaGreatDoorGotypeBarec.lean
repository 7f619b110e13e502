/- GotypeBare answers true, for any program. Part 3 of 6 of the proof. -/
import Derived.Test.YtnfnbjjnjjdjdaaGreatDoorGotypeBareb
import Derived.Test.YtnfnbjjnjjdjdaaGreatDoorRows
import Derived.ProofKit
namespace Go.Proofs.YtnfnbjjnjjdjdaaGreatDoor
open Go.RowKit Go.Av
theorem EK (bs : List UInt8) (w : World) (hl : bs.length ≤ 1099511627) : ∃ (cap : Nat) (wb : World),
 (convert 9 57 (.string ⟨bs.toArray⟩)).run Tryz.prog w = .ok (.slice (some ⟨w.heap.size, 0, none⟩) bs.length cap) wb ∧ Below w.heap.size w wb ∧ w.heap.size < wb.heap.size ∧ bs.length ≤ cap ∧ cap ≤ 9223372036854775807 ∧
 (∀ j u, (bv bs)[j]? = some u → wb.cell? ⟨w.heap.size, 0 + j, none⟩ = some u) := by
 have dG : (ByteArray.mk bs.toArray).size = bs.length := by simp [ByteArray.size]
 have hd : (ByteArray.mk bs.toArray).data.toList = bs := by simp
 have kc := Lib.run_convert_string_bytes (P := Tryz.prog) w 9 57 5 ⟨bs.toArray⟩ Tryz.underlying9 Tryz.underlying57 Tryz.underlying5
 rw [dG] at kc
 have ho := nH w w.heap.size 5 ⟨bs.toArray⟩ (Nat.le_refl _) (by rw [dG]; unfold maxLen; omega)
 rw [dG, hd] at ho
 have hb := iS w w.heap.size 5 ⟨bs.toArray⟩ (Nat.le_refl _)
 exact ⟨_, _, kc, hb, by rw [Lib.bytesWorld_size]; omega, grownCap_ge w bs.length 0 5, grownCap_le_maxLen w bs.length 0 5 (by unfold maxLen; omega), ho.cells rfl⟩
def ak (s : List UInt8) : Bool := decide (s.length ≤ 300) && decide ((eU s 0).2 = 0) && decide ((eU s 0).1.kind = 1) && ((eU s 0).1.text == s)
set_option maxRecDepth 100000 in
set_option maxHeartbeats 1000000 in
theorem Rq (s : List UInt8) (w : World) (ht : pq w) (hs : s.length ≤ 9223372036854775807) :
 Calls Tryz.prog 91 #[.string ⟨s.toArray⟩] w fun e w' => e = .returned (.bool (ak s)) ∧ Below w.heap.size w w' := by
 have dG : (ByteArray.mk s.toArray).size = s.length := by simp [ByteArray.size]
 by_cases h3 : s.length ≤ 300
 ·obtain ⟨cap, wb, kc, hb, hws, lC, hle, Mv⟩ := EK s w (by omega)
  have HG := Lib.hid (P2 (w.heap.size + 1) (.slice (some ⟨w.heap.size, 0, none⟩) s.length cap) s 0 wb (ht.below hb) (.inr ⟨_, 0, cap, rfl, by omega, lC, hle, Mv⟩) (by omega))
  have hI : ak s = (decide ((eU s 0).2 = 0) && decide ((eU s 0).1.kind = 1) && ((eU s 0).1.text == s)) := by
   unfold ak
   rw [decide_eq_true h3]
   rfl
  have HI := Lib.hid hI
  generalize eU s 0 = r at *
  obtain ⟨⟨k, t, n, a, x⟩, er⟩ := r
  clear Mv ht hI
  by_cases her : er = 0
  ·subst her
   by_cases hk : k = 1
   ·subst hk
    cases P3 : (t == s)
    all_goals
     have gJ : ak s = (t == s) := HI.out
     have HF := Lib.hid gJ
     clear gJ HI
     go_enter Tryz.func91, Tryz.ntmps91
     go_wp2_with fail
     refine HG.out.mono ?_
     rintro e w1 ⟨rfl, lD⟩
     have pe := hb.trans (lD.mono hb.size)
     have KZ := pe.size
     simp only [bC.cells]
     go_wp2_with fail
     go_ret
     exact ⟨by rw [HF.out, P3]; rfl, pe.alloc KZ _⟩
   ·have Dy : ((k : Int) == 1) = false := beq_eq_false_iff_ne.2 (by omega)
    have gJ : ak s = false := by rw [HI.out]; simp [hk]
    have HF := Lib.hid gJ
    clear gJ HI
    go_enter Tryz.func91, Tryz.ntmps91
    go_wp2_with fail
    refine HG.out.mono ?_
    rintro e w1 ⟨rfl, lD⟩
    have pe := hb.trans (lD.mono hb.size)
    have KZ := pe.size
    simp only [bC.cells]
    go_wp2_with fail
    go_ret
    exact ⟨by rw [HF.out]; rfl, pe.alloc KZ _⟩
  ·have ack : ((er : Int) == 0) = false := beq_eq_false_iff_ne.2 (by omega)
   have gJ : ak s = false := by rw [HI.out]; simp [her]
   have HF := Lib.hid gJ
   clear gJ HI
   go_enter Tryz.func91, Tryz.ntmps91
   go_wp2_with fail
   refine HG.out.mono ?_
   rintro e w1 ⟨rfl, lD⟩
   have pe := hb.trans (lD.mono hb.size)
   have KZ := pe.size
   simp only [bC.cells]
   go_wp2_with fail
   go_ret
   exact ⟨by rw [HF.out]; rfl, pe.alloc KZ _⟩
 ·have hI : ak s = false := by
   unfold ak
   rw [decide_eq_false h3]
   rfl
  rw [hI]
  go_enter Tryz.func91, Tryz.ntmps91
  go_wp2_with fail
  go_ret
  exact ⟨rfl, Below.refl _ _⟩
inductive az where
 | mk (kind : Int) (name : List UInt8) (elem : List az)
def az.kind : az → Int | .mk k _ _ => k
def az.name : az → List UInt8 | .mk _ n _ => n
def az.elem : az → List az | .mk _ _ es => es
inductive aj where
 | mk (kind : Int) (text : List UInt8) (int : Int) (type : az) (names : List (List UInt8)) (kids : List aj)
def aj.kind : aj → Int | .mk k _ _ _ _ _ => k
def aj.text : aj → List UInt8 | .mk _ t _ _ _ _ => t
def aj.int : aj → Int | .mk _ _ i _ _ _ => i
def aj.type : aj → az | .mk _ _ _ t _ _ => t
def aj.names : aj → List (List UInt8) | .mk _ _ _ _ n _ => n
def aj.kids : aj → List aj | .mk _ _ _ _ _ k => k
def bt (d p : Int) : Bool := decide (p + 1 ≤ 60000) && decide (d ≤ 60)
def eV (m9 : List UInt8 → Bool) : az → Int → Int → Bool × Int
 | .mk k n es, d, p =>
  if bt d p = false then (false, p + 1)
  else if 1 ≤ k ∧ k ≤ 6 then (decide (n = []) && decide (es.length = 0), p + 1)
  else if k = 7 then (m9 n && decide (es.length = 0), p + 1)
  else match es with
   | [e] => if k = 8 ∧ n = [] then eV m9 e (d + 1) (p + 1) else (false, p + 1)
   | _ => (false, p + 1)
def lH (m9 : List UInt8 → Bool) (k : Int) (n : List UInt8) (d p : Int) : List az → Bool × Int
 | [e] => if k = 8 ∧ n = [] then eV m9 e (d + 1) (p + 1) else (false, p + 1)
 | _ => (false, p + 1)
theorem sI (m9 : List UInt8 → Bool) (k : Int) (n : List UInt8) (es : List az) (d p : Int) (hk : ¬ bt d p = false) : eV m9 (.mk k n es) d p = (if 1 ≤ k ∧ k ≤ 6 then (decide (n = []) && decide (es.length = 0), p + 1)
 else if k = 7 then (m9 n && decide (es.length = 0), p + 1) else lH m9 k n d p es) := by
 match es with
 | [] => conv => lhs; unfold eV
         rw [if_neg hk]; rfl
 | [e] => conv => lhs; unfold eV
          rw [if_neg hk]; rfl
 | e :: f :: l => conv => lhs; unfold eV
                  rw [if_neg hk]; rfl
theorem Ik (m9 : List UInt8 → Bool) (k : Int) (n : List UInt8) (d p : Int) (es : List az) (h : ¬ (k = 8 ∧ n = []) ∨ es.length ≠ 1) : lH m9 k n d p es = (false, p + 1) := by
 match es with
 | [] => rfl
 | [e] => rcases h with h | h
          ·exact if_neg h
          ·exact absurd rfl h
 | e :: f :: l => rfl
def fm (t : az) : Bool := decide (t.kind = 0) && decide (t.name = []) && decide (t.elem.length = 0)
def eW (k : Int) : Int := if k = 1 ∨ k = 2 ∨ k = 3 then 0 else if k = 4 ∨ k = 5 ∨ k = 8 ∨ k = 9 ∨ k = 12 then 1 else if k = 6 ∨ k = 10 ∨ k = 13 then 2 else if k = 11 then 3 else if k = 7 ∨ k = 14 ∨ k = 15 then -1 else -2
def Rr (l : List (List UInt8)) (s : List UInt8) : Bool := l.contains s
def gk : Nat → List (List UInt8) → Bool
 | 0, _ => true
 | n + 1, l => gk n l && ak (l.getD n []) && !Rr (l.take n) (l.getD n [])
theorem B8 (l : List (List UInt8)) (j : Nat) (h : gk j l = false) : ∀ m, j ≤ m → gk m l = false := by
 intro m
 induction m with
 | zero => intro hm; obtain rfl : j = 0 := by omega
           exact h
 | succ m ih =>
  intro hm
  rcases Nat.lt_or_ge j (m + 1) with h' | h'
  ·show (gk m l && ak (l.getD m []) && !Rr (l.take m) (l.getD m [])) = false
   rw [ih (by omega)]
   rfl
  ·obtain rfl : j = m + 1 := by omega
   exact h
def vB : List (List UInt8 × Int) := [([42], 5), ([47], 5), ([37], 5), ([60, 60], 5), ([62, 62], 5), ([38], 5), ([43], 4), ([45], 4), ([124], 4), ([94], 4), ([61, 61], 3), ([33, 61], 3), ([60], 3), ([60, 61], 3), ([62], 3), ([62, 61], 3), ([38, 38], 2), ([124, 124], 1)]
def jO (s : List UInt8) : Int := ((vB.find? fun x => x.1 == s).map (·.2)).getD 0
theorem N0 (s : List UInt8) : (∃ x ∈ vB, s = x.1) ∨ ∀ x ∈ vB, (s == x.1) = false := by
 by_cases h : ∃ x ∈ vB, s = x.1
 ·exact .inl h
 ·exact .inr fun x hx => beq_eq_false_iff_ne.2 fun e => h ⟨x, hx, e⟩
def iP (x : aj) (d p : Int) : Bool × Int :=
 if x.kind = 8 then (if 2 ≤ x.type.kind ∧ x.type.kind ≤ 6 then eV ak x.type (d + 1) p else (false, p))
 else if x.kind = 14 then (if x.type.kind = 7 then (if (eV ak x.type (d + 1) p).1 = true then (decide (x.names.length = x.kids.length) && gk x.names.length x.names, (eV ak x.type (d + 1) p).2) else (false, (eV ak x.type (d + 1) p).2)) else (false, p))
 else if x.kind = 15 then (if x.type.kind = 8 then eV ak x.type (d + 1) p else (false, p))
 else (if x.kind = 1 ∨ x.kind = 7 ∨ x.kind = 9 then ak x.text else if x.kind = 6 then decide (0 < jO x.text) else if x.kind = 3 then decide (x.int ≤ 1) else true, p)
def dh (x : aj) (d p : Int) : Bool × Int :=
 ((iP x d p).1 && !(if x.kind = 1 ∨ x.kind = 7 ∨ x.kind = 9 ∨ x.kind = 6 then false else !(x.text == [])) && !(if x.kind = 2 ∨ x.kind = 3 then false else (x.int != 0)) &&
   !(if x.kind = 8 ∨ x.kind = 14 ∨ x.kind = 15 then false else !(fm x.type)) && !(if x.kind = 14 then false else decide (0 < x.names.length)), (iP x d p).2)
theorem qp (m9 : List UInt8 → Bool) : ∀ (t : az) (d p : Int), (eV m9 t d p).1 = true → p + 1 ≤ (eV m9 t d p).2 ∧ (eV m9 t d p).2 ≤ 60000
 | .mk k n es, d, p, h => by
  by_cases hk : bt d p = false
  ·exfalso
   unfold eV at h
   rw [if_pos hk] at h
   cases h
  ·have hp : p + 1 ≤ 60000 := by
    have h2 : bt d p = true := by simpa using hk
    unfold bt at h2
    rw [Bool.and_eq_true, decide_eq_true_iff, decide_eq_true_iff] at h2
    exact h2.1
   rw [sI m9 k n es d p hk] at h ⊢
   by_cases h1 : 1 ≤ k ∧ k ≤ 6
   ·rw [if_pos h1]
    exact ⟨Int.le_refl _, hp⟩
   ·rw [if_neg h1] at h ⊢
    by_cases h7 : k = 7
    ·rw [if_pos h7]
     exact ⟨Int.le_refl _, hp⟩
    ·rw [if_neg h7] at h ⊢
     match es with
     | [] => cases h
     | e :: f :: l => cases h
     | [e] =>
      by_cases h8 : k = 8 ∧ n = []
      ·have he : lH m9 k n d p [e] = eV m9 e (d + 1) (p + 1) := if_pos h8
       rw [he] at h ⊢
       have := qp m9 e (d + 1) (p + 1) h
       omega
      ·have he : lH m9 k n d p [e] = (false, p + 1) := if_neg h8
       rw [he] at h
       cases h
theorem B9 (x : aj) (d p : Int) (hp : p ≤ 60000) (h : (dh x d p).1 = true) : p ≤ (dh x d p).2 ∧ (dh x d p).2 ≤ 60000 := by
 have ht : (iP x d p).1 = true := by
  unfold dh at h
  simp only [Bool.and_eq_true] at h
  exact h.1.1.1.1
 show p ≤ (iP x d p).2 ∧ (iP x d p).2 ≤ 60000
 revert ht
 unfold iP
 intro ht
 have fk := qp ak x.type (d + 1) p
 by_cases h8 : x.kind = 8
 ·rw [if_pos h8] at ht ⊢
  by_cases hq : 2 ≤ x.type.kind ∧ x.type.kind ≤ 6
  ·rw [if_pos hq] at ht ⊢
   have := fk ht
   omega
  ·rw [if_neg hq] at ht
   cases ht
 ·rw [if_neg h8] at ht ⊢
  by_cases Il : x.kind = 14
  ·rw [if_pos Il] at ht ⊢
   by_cases hq : x.type.kind = 7
   ·rw [if_pos hq] at ht ⊢
    by_cases hr : (eV ak x.type (d + 1) p).1 = true
    ·rw [if_pos hr]
     have := fk hr
     simp only
     omega
    ·rw [if_neg hr] at ht
     cases ht
   ·rw [if_neg hq] at ht
    cases ht
  ·rw [if_neg Il] at ht ⊢
   by_cases F8 : x.kind = 15
   ·rw [if_pos F8] at ht ⊢
    by_cases hq : x.type.kind = 8
    ·rw [if_pos hq] at ht ⊢
     have := fk ht
     omega
    ·rw [if_neg hq] at ht
     cases ht
   ·rw [if_neg F8]
    simp only
    omega
def nc (k : Int) : Int := if k = 15 then 30000 else 40
mutual
def pT : aj → Int → Int → Bool × Int
 | .mk k t i ty ns ks, d, p =>
  if bt d p = false then (false, p + 1)
  else if nc k < (ks.length : Int) ∨ eW k = -2 ∨ (0 ≤ eW k ∧ (ks.length : Int) ≠ eW k) then (false, p + 1)
  else if (dh (.mk k t i ty ns ks) d (p + 1)).1 = false then (false, (dh (.mk k t i ty ns ks) d (p + 1)).2)
  else eX ks (d + 1) (dh (.mk k t i ty ns ks) d (p + 1)).2
def eX : List aj → Int → Int → Bool × Int
 | [], _, p => (true, p)
 | x :: l, d, p => if (pT x d p).1 = false then (false, (pT x d p).2) else eX l d (pT x d p).2
end
mutual
theorem EL : ∀ (x : aj) (d p : Int), (pT x d p).1 = true → p + 1 ≤ (pT x d p).2 ∧ (pT x d p).2 ≤ 60000
 | .mk k t i ty ns ks, d, p, h => by
  unfold pT at h ⊢
  by_cases hk : bt d p = false
  ·rw [if_pos hk] at h; cases h
  ·have hp : p + 1 ≤ 60000 := by
    have h2 : bt d p = true := by simpa using hk
    unfold bt at h2
    rw [Bool.and_eq_true, decide_eq_true_iff, decide_eq_true_iff] at h2
    exact h2.1
   rw [if_neg hk] at h ⊢
   by_cases h1 : nc k < (ks.length : Int) ∨ eW k = -2 ∨ (0 ≤ eW k ∧ (ks.length : Int) ≠ eW k)
   ·rw [if_pos h1] at h; cases h
   ·rw [if_neg h1] at h ⊢
    by_cases h2 : (dh (.mk k t i ty ns ks) d (p + 1)).1 = false
    ·rw [if_pos h2] at h; cases h
    ·rw [if_neg h2] at h ⊢
     have hb := B9 (.mk k t i ty ns ks) d (p + 1) hp (by simpa using h2)
     have := uy ks (d + 1) _ hb.2 h
     omega
theorem uy : ∀ (l : List aj) (d p : Int), p ≤ 60000 → (eX l d p).1 = true → p ≤ (eX l d p).2 ∧ (eX l d p).2 ≤ 60000
 | [], d, p, hp, _ => ⟨Int.le_refl _, hp⟩
 | x :: l, d, p, hp, h => by
  unfold eX at h ⊢
  by_cases h1 : (pT x d p).1 = false
  ·rw [if_pos h1] at h; cases h
  ·rw [if_neg h1] at h ⊢
   have hx := EL x d p (by simpa using h1)
   have := uy l d _ hx.2 h
   omega
end
theorem Im (ks : List aj) (j : Nat) (h : j < ks.length) (d p : Int) : eX (ks.drop j) d p = if (pT ks[j] d p).1 = false then (false, (pT ks[j] d p).2) else eX (ks.drop (j + 1)) d (pT ks[j] d p).2 := by
 rw [List.drop_eq_getElem_cons h]
 conv => lhs; unfold eX
mutual
def tG : az → az → Bool
 | .mk k n es, u => decide (k = u.kind) && (n == u.name) && gq es u.elem
def gq : List az → List az → Bool
 | [], l => decide (l.length = 0)
 | t :: ts, l => match l with
  | [] => false
  | u :: us => tG t u && gq ts us
end
mutual
def xB : az → Int
 | .mk _ _ es => 1 + K0 es
def K0 : List az → Int
 | [] => 0
 | e :: es => xB e + K0 es
end
mutual
def X3 : aj → Int
 | .mk _ _ _ ty _ ks => 1 + (if fm ty = true then 0 else xB ty) + zV ks
def zV : List aj → Int
 | [] => 0
 | x :: l => X3 x + zV l
end
theorem zW (m9 : List UInt8 → Bool) : ∀ (t : az) (d p : Int), (eV m9 t d p).1 = true → (eV m9 t d p).2 = p + xB t ∧ fm t = false
 | .mk k n es, d, p, h => by
  have hz : k ≠ 0 → fm (.mk k n es) = false := fun hk => by
   unfold fm
   rw [show (az.mk k n es).kind = k from rfl, decide_eq_false hk]
   rfl
  by_cases hk : bt d p = false
  ·exfalso
   unfold eV at h
   rw [if_pos hk] at h
   cases h
  ·rw [sI m9 k n es d p hk] at h ⊢
   have qd : es.length = 0 → xB (.mk k n es) = 1 := fun e => by
    obtain rfl := List.eq_nil_of_length_eq_zero e
    unfold xB K0
    rfl
   by_cases h1 : 1 ≤ k ∧ k ≤ 6
   ·rw [if_pos h1] at h ⊢
    simp only [Bool.and_eq_true, decide_eq_true_eq] at h
    rw [qd h.2]
    exact ⟨rfl, hz (by omega)⟩
   ·rw [if_neg h1] at h ⊢
    by_cases h7 : k = 7
    ·rw [if_pos h7] at h ⊢
     simp only [Bool.and_eq_true, decide_eq_true_eq] at h
     rw [qd h.2]
     exact ⟨rfl, hz (by omega)⟩
    ·rw [if_neg h7] at h ⊢
     match es with
     | [] => cases h
     | e :: f :: l => cases h
     | [e] =>
      by_cases h8 : k = 8 ∧ n = []
      ·have he : lH m9 k n d p [e] = eV m9 e (d + 1) (p + 1) := if_pos h8
       rw [he] at h ⊢
       have := (zW m9 e (d + 1) (p + 1) h).1
       have hc : xB (.mk k n [e]) = 1 + (xB e + 0) := by
        conv => lhs; unfold xB K0 K0
       exact ⟨by omega, hz (by omega)⟩
      ·have he : lH m9 k n d p [e] = (false, p + 1) := if_neg h8
       rw [he] at h
       cases h
theorem sJ (x : aj) (d p : Int) (h : (dh x d p).1 = true) : (dh x d p).2 = p + (if fm x.type = true then 0 else xB x.type) := by
 have fk := zW ak x.type (d + 1) p
 have hp : (dh x d p).2 = (iP x d p).2 := rfl
 rw [hp]
 unfold dh at h
 simp only [Bool.and_eq_true] at h
 obtain ⟨⟨⟨⟨ht, _⟩, _⟩, hz⟩, _⟩ := h
 revert ht
 unfold iP
 intro ht
 by_cases h8 : x.kind = 8
 ·rw [if_pos h8] at ht ⊢
  by_cases hq : 2 ≤ x.type.kind ∧ x.type.kind ≤ 6
  ·rw [if_pos hq] at ht ⊢
   obtain ⟨e1, e2⟩ := fk ht
   rw [e1, e2]
   rfl
  ·rw [if_neg hq] at ht
   cases ht
 ·rw [if_neg h8] at ht ⊢
  by_cases Il : x.kind = 14
  ·rw [if_pos Il] at ht ⊢
   by_cases hq : x.type.kind = 7
   ·rw [if_pos hq] at ht ⊢
    by_cases hr : (eV ak x.type (d + 1) p).1 = true
    ·obtain ⟨e1, e2⟩ := fk hr
     rw [if_pos hr, e1, e2]
     rfl
    ·rw [if_neg hr] at ht
     cases ht
   ·rw [if_neg hq] at ht
    cases ht
  ·rw [if_neg Il] at ht ⊢
   by_cases F8 : x.kind = 15
   ·rw [if_pos F8] at ht ⊢
    by_cases hq : x.type.kind = 8
    ·rw [if_pos hq] at ht ⊢
     obtain ⟨e1, e2⟩ := fk ht
     rw [e1, e2]
     rfl
    ·rw [if_neg hq] at ht
     cases ht
   ·rw [if_neg F8]
    rw [if_neg (by rintro (h | h | h); exact h8 h; exact Il h; exact F8 h)] at hz
    have EM : fm x.type = true := by simpa using hz
    rw [if_pos EM]
    simp
mutual
theorem zX : ∀ (x : aj) (d p : Int), (pT x d p).1 = true → (pT x d p).2 = p + X3 x
 | .mk k t i ty ns ks, d, p, h => by
  unfold pT at h ⊢
  unfold X3
  by_cases hk : bt d p = false
  ·rw [if_pos hk] at h; cases h
  ·rw [if_neg hk] at h ⊢
   by_cases h1 : nc k < (ks.length : Int) ∨ eW k = -2 ∨ (0 ≤ eW k ∧ (ks.length : Int) ≠ eW k)
   ·rw [if_pos h1] at h; cases h
   ·rw [if_neg h1] at h ⊢
    by_cases h2 : (dh (.mk k t i ty ns ks) d (p + 1)).1 = false
    ·rw [if_pos h2] at h; cases h
    ·rw [if_neg h2] at h ⊢
     have hb : (dh (.mk k t i ty ns ks) d (p + 1)).2 = (p + 1) + (if fm ty = true then 0 else xB ty) := sJ (.mk k t i ty ns ks) d (p + 1) (by simpa using h2)
     have := vC ks (d + 1) _ h
     omega
theorem vC : ∀ (l : List aj) (d p : Int), (eX l d p).1 = true → (eX l d p).2 = p + zV l
 | [], d, p, _ => by unfold eX zV; simp
 | x :: l, d, p, h => by
  unfold eX at h ⊢
  unfold zV
  by_cases h1 : (pT x d p).1 = false
  ·rw [if_pos h1] at h; cases h
  ·rw [if_neg h1] at h ⊢
   have hx := zX x d p (by simpa using h1)
   have := vC l d _ h
   omega
end
theorem om {d p d' p' : Int} (h : bt d p = true) (hd : d' ≤ d) (hp : p' ≤ p) : bt d' p' = true := by
 unfold bt at h ⊢
 rw [Bool.and_eq_true, decide_eq_true_iff, decide_eq_true_iff] at h ⊢
 omega
theorem vD (m9 : List UInt8 → Bool) : ∀ (t : az) (d p d' p' : Int), (eV m9 t d p).1 = true → d' ≤ d → p' ≤ p → (eV m9 t d' p').1 = true
 | .mk k n es, d, p, d', p', h, hd, hp => by
  by_cases hk : bt d p = false
  ·exfalso
   unfold eV at h
   rw [if_pos hk] at h
   cases h
  ·have Dy : ¬ bt d' p' = false := by rw [om (by simpa using hk) hd hp]; decide
   rw [sI m9 k n es d p hk] at h
   rw [sI m9 k n es d' p' Dy]
   by_cases h1 : 1 ≤ k ∧ k ≤ 6
   ·rw [if_pos h1] at h ⊢
    exact h
   ·rw [if_neg h1] at h ⊢
    by_cases h7 : k = 7
    ·rw [if_pos h7] at h ⊢
     exact h
    ·rw [if_neg h7] at h ⊢
     match es with
     | [] => cases h
     | e :: f :: l => cases h
     | [e] =>
      by_cases h8 : k = 8 ∧ n = []
      ·have he : lH m9 k n d p [e] = eV m9 e (d + 1) (p + 1) := if_pos h8
       have AM : lH m9 k n d' p' [e] = eV m9 e (d' + 1) (p' + 1) := if_pos h8
       rw [he] at h
       rw [AM]
       exact vD m9 e _ _ _ _ h (by omega) (by omega)
      ·have he : lH m9 k n d p [e] = (false, p + 1) := if_neg h8
       rw [he] at h
       cases h
theorem EN (x : aj) (d p d' p' : Int) (h : (iP x d p).1 = true) (hd : d' ≤ d) (hp : p' ≤ p) : (iP x d' p').1 = true := by
 have fk := fun hh => vD ak x.type (d + 1) p (d' + 1) p' hh (by omega) hp
 unfold iP at h ⊢
 by_cases h8 : x.kind = 8
 ·rw [if_pos h8] at h ⊢
  by_cases hq : 2 ≤ x.type.kind ∧ x.type.kind ≤ 6
  ·rw [if_pos hq] at h ⊢
   exact fk h
  ·rw [if_neg hq] at h
   cases h
 ·rw [if_neg h8] at h ⊢
  by_cases Il : x.kind = 14
  ·rw [if_pos Il] at h ⊢
   by_cases hq : x.type.kind = 7
   ·rw [if_pos hq] at h ⊢
    by_cases hr : (eV ak x.type (d + 1) p).1 = true
    ·rw [if_pos hr] at h
     rw [if_pos (fk hr)]
     exact h
    ·rw [if_neg hr] at h
     cases h
   ·rw [if_neg hq] at h
    cases h
  ·rw [if_neg Il] at h ⊢
   by_cases F8 : x.kind = 15
   ·rw [if_pos F8] at h ⊢
    by_cases hq : x.type.kind = 8
    ·rw [if_pos hq] at h ⊢
     exact fk h
    ·rw [if_neg hq] at h
     cases h
   ·rw [if_neg F8] at h ⊢
    exact h
theorem EO (x : aj) (d p d' p' : Int) (h : (dh x d p).1 = true) (hd : d' ≤ d) (hp : p' ≤ p) : (dh x d' p').1 = true := by
 unfold dh at h ⊢
 simp only [Bool.and_eq_true] at h ⊢
 exact ⟨⟨⟨⟨EN x d p d' p' h.1.1.1.1 hd hp, h.1.1.1.2⟩, h.1.1.2⟩, h.1.2⟩, h.2⟩
mutual
theorem K1 : ∀ (x : aj) (d p d' p' : Int), (pT x d p).1 = true → d' ≤ d → p' ≤ p → (pT x d' p').1 = true
 | .mk k t i ty ns ks, d, p, d', p', h, hd, hp => by
  unfold pT at h ⊢
  by_cases hk : bt d p = false
  ·rw [if_pos hk] at h; cases h
  ·have Dy : ¬ bt d' p' = false := by rw [om (by simpa using hk) hd hp]; decide
   rw [if_neg hk] at h
   rw [if_neg Dy]
   by_cases h1 : nc k < (ks.length : Int) ∨ eW k = -2 ∨ (0 ≤ eW k ∧ (ks.length : Int) ≠ eW k)
   ·rw [if_pos h1] at h; cases h
   ·rw [if_neg h1] at h ⊢
    by_cases h2 : (dh (.mk k t i ty ns ks) d (p + 1)).1 = false
    ·rw [if_pos h2] at h; cases h
    ·have hb : (dh (.mk k t i ty ns ks) d (p + 1)).1 = true := by simpa using h2
     have PJ := EO _ d (p + 1) d' (p' + 1) hb hd (by omega)
     rw [if_neg h2] at h
     rw [if_neg (by rw [PJ]; decide)]
     have c1 := sJ _ _ _ hb
     have c2 := sJ _ _ _ PJ
     exact sK ks _ _ _ _ h (by omega) (by omega)
theorem sK : ∀ (l : List aj) (d p d' p' : Int), (eX l d p).1 = true → d' ≤ d → p' ≤ p → (eX l d' p').1 = true
 | [], d, p, d', p', _, _, _ => by unfold eX; rfl
 | x :: l, d, p, d', p', h, hd, hp => by
  unfold eX at h ⊢
  by_cases h1 : (pT x d p).1 = false
  ·rw [if_pos h1] at h; cases h
  ·have hx : (pT x d p).1 = true := by simpa using h1
   have VX := K1 x d p d' p' hx hd hp
   rw [if_neg h1] at h
   rw [if_neg (by rw [VX]; decide)]
   have c1 := zX x d p hx
   have c2 := zX x d' p' VX
   exact sK l _ _ _ _ h hd (by omega)
end
mutual
inductive aF where
 | mk (kind : Int) (names : List (List UInt8)) (type : az) (aG exprs : List aj) (body dO : List aF) (cases : List cQ)
inductive cQ where
 | mk (int : Int) (body : List aF)
end
def aF.kind : aF → Int | .mk k _ _ _ _ _ _ _ => k
def aF.names : aF → List (List UInt8) | .mk _ n _ _ _ _ _ _ => n
def aF.type : aF → az | .mk _ _ t _ _ _ _ _ => t
def aF.aG : aF → List aj | .mk _ _ _ l _ _ _ _ => l
def aF.exprs : aF → List aj | .mk _ _ _ _ e _ _ _ => e
def aF.body : aF → List aF | .mk _ _ _ _ _ b _ _ => b
def aF.dO : aF → List aF | .mk _ _ _ _ _ _ b _ => b
def aF.cases : aF → List cQ | .mk _ _ _ _ _ _ _ c => c
def cQ.int : cQ → Int | .mk i _ => i
def cQ.body : cQ → List aF | .mk _ b => b
structure bI where
 name : List UInt8
 type : az
structure cM where
 name : List UInt8
 fields : List bI
structure cR where
 name : List UInt8
 params : List bI
 results : List az
 body : List aF
structure oV where
 structs : List cM
 funcs : List cR
structure aJ (f : Int → Bool × Int) (n : Int) : Prop where
 Ca : ∀ p, (f p).1 = true → (f p).2 = p + n
 up : ∀ p, (f p).1 = true → p ≤ (f p).2
 mono : ∀ p p', (f p).1 = true → p' ≤ p → (f p').1 = true
def aY (f g : Int → Bool × Int) (p : Int) : Bool × Int := if (f p).1 = false then (false, (f p).2) else g (f p).2
def cN (b : Bool) (p : Int) : Bool × Int := (b, p)
def cG (d p : Int) : Bool × Int := (bt d p, p + 1)
def dB {α : Type} (f : α → Int → Bool × Int) : List α → Int → Bool × Int
 | [], p => (true, p)
 | x :: l, p => aY (f x) (dB f l) p
def pE {α : Type} (c : α → Int) : List α → Int
 | [] => 0
 | x :: l => c x + pE c l
theorem aJ.and {f g : Int → Bool × Int} {n m : Int} (hf : aJ f n) (hg : aJ g m) : aJ (aY f g) (n + m) := by
 have op : ∀ p, (aY f g p).1 = true → (f p).1 = true ∧ aY f g p = g (f p).2 := by
  intro p h
  unfold aY at h ⊢
  by_cases h1 : (f p).1 = false
  ·rw [if_pos h1] at h; cases h
  ·rw [if_neg h1]
   exact ⟨by simpa using h1, rfl⟩
 refine ⟨fun p h => ?_, fun p h => ?_, fun p p' h hp => ?_⟩
 ·obtain ⟨h1, h2⟩ := op p h
  rw [h2] at h ⊢
  rw [hg.Ca _ h, hf.Ca _ h1]
  omega
 ·obtain ⟨h1, h2⟩ := op p h
  rw [h2] at h ⊢
  exact Int.le_trans (hf.up _ h1) (hg.up _ h)
 ·obtain ⟨h1, h2⟩ := op p h
  have h3 := hf.mono p p' h1 hp
  rw [h2] at h
  have h4 : aY f g p' = g (f p').2 := by
   unfold aY
   rw [if_neg (by rw [h3]; decide)]
  rw [h4]
  exact hg.mono _ _ h (by rw [hf.Ca _ h1, hf.Ca _ h3]; omega)
theorem aJ.allow (b : Bool) : aJ (cN b) 0 := ⟨fun p _ => by simp [cN], fun p _ => Int.le_refl _, fun p p' h _ => h⟩
theorem aJ.part (d : Int) : aJ (cG d) 1 := ⟨fun p _ => rfl, fun p _ => by show p ≤ p + 1; omega, fun p p' h hp => om h (Int.le_refl _) hp⟩
theorem aJ.row {α : Type} {f : α → Int → Bool × Int} {c : α → Int} : ∀ (l : List α), (∀ x ∈ l, aJ (f x) (c x)) → aJ (dB f l) (pE c l)
 | [], _ => ⟨fun p _ => by simp [dB, pE], fun p _ => Int.le_refl _, fun p p' h _ => rfl⟩
 | x :: l, h => by
  have hr := aJ.row l fun y hy => h y (List.mem_cons_of_mem _ hy)
  have := (h x List.mem_cons_self).and hr
  exact this
theorem aJ.ty (t : az) (d : Int) : aJ (fun p => eV ak t d p) (xB t) :=
 ⟨fun p h => (zW ak t d p h).1, fun p h => by have := qp ak t d p h; show p ≤ (eV ak t d p).2; omega, fun p p' h hp => vD ak t d p d p' h (Int.le_refl _) hp⟩
theorem N1 : ∀ (l : List aj) (d p : Int), (eX l d p).1 = true → p ≤ (eX l d p).2
 | [], d, p, _ => by unfold eX; exact Int.le_refl _
 | x :: l, d, p, h => by
  unfold eX at h ⊢
  by_cases h1 : (pT x d p).1 = false
  ·rw [if_pos h1] at h; cases h
  ·rw [if_neg h1] at h ⊢
   have hx := EL x d p (by simpa using h1)
   have := (uy l d _ hx.2 h).1
   omega
theorem aJ.SI (l : List aj) (d : Int) : aJ (fun p => eX l d p) (zV l) :=
 ⟨fun p h => vC l d p h, fun p h => N1 l d p h, fun p p' h hp => sK l d p d p' h (Int.le_refl _) hp⟩
mutual
def iQ : aj → Bool
 | .mk k _ _ _ _ ks => decide (k ≠ 14) && decide (k ≠ 15) && vE ks
def vE : List aj → Bool
 | [] => true
 | x :: l => iQ x && vE l
end
def dP : aj → Bool
 | .mk k _ _ _ _ ks => match ks with
  | [y] => if k = 9 then dP y else decide (k = 1)
  | _ => decide (k = 1)
def iz (s : aF) : Bool :=
 let plain := decide (s.names = []) && fm s.type
 let aG := decide (s.aG = [])
 let body := decide (s.body.length = 0)
 let other := decide (s.dO.length = 0)
 let cases := decide (s.cases.length = 0)
 if s.kind = 1 then decide (s.exprs.length = 0) && (match s.names with | [x] => ak x | _ => false) && aG && body && other && cases
 else if s.kind = 2 then decide (0 < s.aG.length) && (decide (s.exprs.length = s.aG.length) || (match s.exprs with | [x] => decide (x.kind = 7) | _ => false)) && s.aG.all dP && plain && body && other && cases
 else if s.kind = 3 then plain && aG && (match s.exprs with | [x] => iQ x | _ => false) && cases
 else if s.kind = 4 then plain && aG && (match s.exprs with | [x] => iQ x | _ => false) && other && cases
 else if s.kind = 5 then plain && aG && (match s.exprs with | [x] => iQ x | _ => false) && body
 else if s.kind = 6 then plain && aG && decide (0 < s.exprs.length) && body && other && cases
 else false
def fo (l : List aj) (d : Int) : Int → Bool × Int := aY (fun p => eX l d p) (cN (decide (l.length ≤ 40)))
def sL (R : aF → Int → Int → Bool × Int) (d : Int) : List Int → List cQ → Int → Bool × Int
 | _, [], p => (true, p)
 | seen, c :: l, p => aY (cG (d + 1)) (aY (cN (!seen.contains c.int)) (aY (dB (fun s => R s (d + 2)) c.body) (sL R d (seen ++ [c.int]) l))) p
def iN : Nat → aF → Int → Int → Bool × Int
 | 0, _, _ => cN false
 | n + 1, s, d => aY (cG d) (aY (cN (iz s && decide (s.cases.length ≤ 40))) (aY (if s.kind = 1 then fun p => eV ak s.type (d + 1) p else cN true)
  (aY (sL (iN n) d [] s.cases) (aY (fo s.aG (d + 1)) (aY (fo s.exprs (d + 1)) (aY (dB (fun x => iN n x (d + 1)) s.body) (dB (fun x => iN n x (d + 1)) s.dO)))))))
def DB : Nat → aF → Int
 | 0, _ => 0
 | n + 1, s => 1 + (if s.kind = 1 then xB s.type else 0) + pE (fun c : cQ => 1 + pE (DB n) c.body) s.cases + zV s.aG + zV s.exprs + pE (DB n) s.body + pE (DB n) s.dO
theorem aJ.eq {f : Int → Bool × Int} {n m : Int} (h : aJ f n) (e : n = m) : aJ f m := e ▸ h
theorem aJ.fo (l : List aj) (d : Int) : aJ (fo l d) (zV l) := ((aJ.SI l d).and (aJ.allow _)).eq (by omega)
theorem aJ.Rs {R : aF → Int → Int → Bool × Int} {c : aF → Int} (hR : ∀ s d, aJ (R s d) (c s)) (d : Int) : ∀ (l : List cQ) (seen : List Int), aJ (sL R d seen l) (pE (fun k : cQ => 1 + pE c k.body) l)
 | [], _ => ⟨fun p _ => by simp [sL, pE], fun p _ => Int.le_refl _, fun p p' h _ => rfl⟩
 | k :: l, seen => by
  have h := (aJ.part (d + 1)).and ((aJ.allow (!seen.contains k.int)).and ((aJ.row (f := fun s => R s (d + 2)) (c := c) k.body fun s _ => hR s (d + 2)).and (aJ.Rs hR d l (seen ++ [k.int]))))
  exact aJ.eq (f := sL R d seen (k :: l)) h (by simp only [pE]; omega)
theorem aJ.st : ∀ (n : Nat) (s : aF) (d : Int), aJ (iN n s d) (DB n s)
 | 0, s, d => ⟨fun p h => (by cases h), fun p h => (by cases h), fun p p' h _ => (by cases h)⟩
 | n + 1, s, d => by
  have ih := aJ.st n
  have hb := aJ.row (f := fun x => iN n x (d + 1)) (c := DB n) s.body fun x _ => ih x (d + 1)
  have he := aJ.row (f := fun x => iN n x (d + 1)) (c := DB n) s.dO fun x _ => ih x (d + 1)
  have fk : aJ (if s.kind = 1 then fun p => eV ak s.type (d + 1) p else cN true) (if s.kind = 1 then xB s.type else 0) := by
   by_cases hk : s.kind = 1
   ·rw [if_pos hk, if_pos hk]; exact aJ.ty s.type (d + 1)
   ·rw [if_neg hk, if_neg hk]; exact aJ.allow true
  have h := (aJ.part d).and ((aJ.allow (iz s && decide (s.cases.length ≤ 40))).and (fk.and ((aJ.Rs (fun s d => ih s d) d s.cases []).and ((aJ.fo s.aG (d + 1)).and ((aJ.fo s.exprs (d + 1)).and (hb.and he))))))
  exact aJ.eq (f := iN (n + 1) s d) h (by simp only [DB]; omega)
def ER (jz : Nat) (l : List bI) : Int → Bool × Int :=
 aY (dB (fun x : bI => aY (cG 0) (fun p => eV ak x.type 0 p)) l) (cN (decide (l.length ≤ jz) && gk l.length (l.map bI.name)))
def Wm (l : List bI) : Int := pE (fun x : bI => 1 + xB x.type) l
def Io (s : cM) : Int → Bool × Int := aY (cG 0) (aY (cN (ak s.name)) (ER 60 s.fields))
def Ur (s : cM) : Int := 1 + Wm s.fields
def JC (n : Nat) (f : cR) : Int → Bool × Int :=
 aY (cG 0) (aY (cN (ak f.name)) (aY (ER 20 f.params) (aY (cN (decide (1 ≤ f.results.length) && decide (f.results.length ≤ 20))) (aY (dB (fun t p => eV ak t 0 p) f.results) (dB (fun s => iN n s 0) f.body)))))
def Wn (n : Nat) (f : cR) : Int := 1 + Wm f.params + pE xB f.results + pE (DB n) f.body
def MG (n : Nat) (p : oV) : Int → Bool × Int := aY (dB Io p.structs) (dB (JC n) p.funcs)
def prC (n : Nat) (p : oV) : Int := pE Ur p.structs + pE (Wn n) p.funcs
theorem aJ.pa (jz : Nat) (l : List bI) : aJ (ER jz l) (Wm l) :=
 ((aJ.row (f := fun x : bI => aY (cG 0) (fun p => eV ak x.type 0 p)) (c := fun x : bI => 1 + xB x.type) l fun x _ => (aJ.part 0).and (aJ.ty x.type 0)).and (aJ.allow _)).eq (by unfold Wm; omega)
theorem aJ.su (s : cM) : aJ (Io s) (Ur s) :=
 ((aJ.part 0).and ((aJ.allow (ak s.name)).and (aJ.pa 60 s.fields))).eq (by unfold Ur; omega)
theorem aJ.fu (n : Nat) (f : cR) : aJ (JC n f) (Wn n f) :=
 ((aJ.part 0).and ((aJ.allow (ak f.name)).and ((aJ.pa 20 f.params).and ((aJ.allow (decide (1 ≤ f.results.length) && decide (f.results.length ≤ 20))).and ((aJ.row (f := fun t p => eV ak t 0 p) (c := xB) f.results fun t _ => aJ.ty t 0).and
   (aJ.row (f := fun s => iN n s 0) (c := DB n) f.body fun s _ => aJ.st n s 0)))))).eq (by unfold Wn; omega)
theorem aJ.pr (n : Nat) (p : oV) : aJ (MG n p) (prC n p) :=
 (aJ.row (f := Io) (c := Ur) p.structs fun s _ => aJ.su s).and (aJ.row (f := JC n) (c := Wn n) p.funcs fun f _ => aJ.fu n f)
theorem aW {f g : Int → Bool × Int} {p : Int} (h : (aY f g p).1 = true) : (f p).1 = true ∧ (g (f p).2).1 = true := by
 unfold aY at h
 by_cases h1 : (f p).1 = false
 ·rw [if_pos h1] at h; cases h
 ·rw [if_neg h1] at h
  exact ⟨by simpa using h1, h⟩
theorem iA {α : Type} {f : α → Int → Bool × Int} : ∀ (l : List α) (p : Int), (dB f l p).1 = true → ∀ x ∈ l, ∃ q, (f x q).1 = true
 | y :: l, p, h, x, hx => by
  obtain ⟨h1, h2⟩ := aW (f := f y) (g := dB f l) h
  rcases List.mem_cons.1 hx with rfl | hx
  ·exact ⟨p, h1⟩
  ·exact iA l _ h2 x hx
theorem Cb {R : aF → Int → Int → Bool × Int} {d : Int} : ∀ (l : List cQ) (seen : List Int) (p : Int), (sL R d seen l p).1 = true → ∀ c ∈ l, ∀ s ∈ c.body, ∃ q, (R s (d + 2) q).1 = true
 | k :: l, seen, p, h, c, hc, s, hs => by
  obtain ⟨_, h2⟩ := aW (f := cG (d + 1)) h
  obtain ⟨_, h3⟩ := aW h2
  obtain ⟨h4, h5⟩ := aW h3
  rcases List.mem_cons.1 hc with rfl | hc
  ·exact iA (f := fun s => R s (d + 2)) _ _ h4 s hs
  ·exact Cb l _ _ h5 c hc s hs
def bF (f : Int → Bool × Int) : Prop := ∀ p, p ≤ 60000 → (f p).1 = true → (f p).2 ≤ 60000
theorem bF.and {f g : Int → Bool × Int} (hf : bF f) (hg : bF g) : bF (aY f g) := by
 intro p hp h
 obtain ⟨h1, h2⟩ := aW h
 unfold aY
 rw [if_neg (by rw [h1]; decide)]
 exact hg _ (hf p hp h1) h2
theorem bF.allow (b : Bool) : bF (cN b) := fun _ hp _ => hp
theorem bF.part (d : Int) : bF (cG d) := fun p _ h => by
 have h' : bt d p = true := h
 unfold bt at h'
 rw [Bool.and_eq_true, decide_eq_true_iff] at h'
 exact h'.1
theorem bF.row {α : Type} {f : α → Int → Bool × Int} (hf : ∀ x, bF (f x)) : ∀ l : List α, bF (dB f l)
 | [] => fun _ hp _ => hp
 | x :: l => (hf x).and (bF.row hf l)
theorem bF.ty (t : az) (d : Int) : bF (fun p => eV ak t d p) := fun p _ h => (qp ak t d p h).2
theorem bF.SI (l : List aj) (d : Int) : bF (fun p => eX l d p) := fun p hp h => (uy l d p hp h).2
theorem bF.fo (l : List aj) (d : Int) : bF (fo l d) := (bF.SI l d).and (bF.allow _)
theorem bF.Rs {R : aF → Int → Int → Bool × Int} (hR : ∀ s d, bF (R s d)) (d : Int) : ∀ (l : List cQ) (seen : List Int), bF (sL R d seen l)
 | [], _ => fun _ hp _ => hp
 | k :: l, seen => (bF.part (d + 1)).and ((bF.allow (!seen.contains k.int)).and ((bF.row (f := fun s => R s (d + 2)) (fun s => hR s (d + 2)) k.body).and (bF.Rs hR d l (seen ++ [k.int]))))
theorem bF.st : ∀ (n : Nat) (s : aF) (d : Int), bF (iN n s d)
 | 0, _, _ => fun _ _ h => (by cases h)
 | n + 1, s, d => by
  have ih := bF.st n
  have fk : bF (if s.kind = 1 then fun p => eV ak s.type (d + 1) p else cN true) := by
   by_cases hk : s.kind = 1
   ·rw [if_pos hk]; exact bF.ty s.type (d + 1)
   ·rw [if_neg hk]; exact bF.allow true
  exact (bF.part d).and ((bF.allow (iz s && decide (s.cases.length ≤ 40))).and (fk.and ((bF.Rs (fun s d => ih s d) d s.cases []).and ((bF.fo s.aG (d + 1)).and ((bF.fo s.exprs (d + 1)).and
   ((bF.row (f := fun x => iN n x (d + 1)) (fun x => ih x (d + 1)) s.body).and (bF.row (f := fun x => iN n x (d + 1)) (fun x => ih x (d + 1)) s.dO)))))))
theorem bF.pa (jz : Nat) (l : List bI) : bF (ER jz l) :=
 (bF.row (f := fun x : bI => aY (cG 0) (fun p => eV ak x.type 0 p)) (fun x => (bF.part 0).and (bF.ty x.type 0)) l).and (bF.allow _)
theorem bF.su (s : cM) : bF (Io s) := (bF.part 0).and ((bF.allow (ak s.name)).and (bF.pa 60 s.fields))
theorem bF.fu (n : Nat) (f : cR) : bF (JC n f) :=
 (bF.part 0).and ((bF.allow (ak f.name)).and ((bF.pa 20 f.params).and ((bF.allow (decide (1 ≤ f.results.length) && decide (f.results.length ≤ 20))).and
  ((bF.row (f := fun t p => eV ak t 0 p) (fun t => bF.ty t 0) f.results).and (bF.row (f := fun s => iN n s 0) (fun s => bF.st n s 0) f.body)))))
theorem bF.pr (n : Nat) (p : oV) : bF (MG n p) := (bF.row bF.su p.structs).and (bF.row (bF.fu n) p.funcs)
structure Ps where
 ws : List bC
 e : Int
 o : Int
 h : Bool
def Ps.w (s : Ps) : bC := s.ws.headD .zero
def mu (s : Ps) : Nat := if s.e = 0 then s.ws.length else 0
def rq (s : Ps) (e : Int) : Ps := if s.e = 0 then ⟨s.ws, e, s.o, s.h⟩ else s
def dX (s : Ps) : Ps := if s.e = 0 then (if (s.ws.tail.headD .zero).kind = 9 then ⟨s.ws, 50, s.o, s.h⟩ else ⟨s.ws.tail, 0, s.o, s.h⟩) else s
def AR (s : Ps) (t : List UInt8) : Bool := decide (s.e = 0) && (decide (s.w.kind = 3) || decide (s.w.kind = 4)) && decide (s.w.text = t)
def Us (t : List UInt8) : Bool := decide (t = [40]) || decide (t = [91]) || decide (t = [123])
def Ut (t : List UInt8) : Bool := decide (t = [41]) || decide (t = [93]) || decide (t = [125])
def iR (s : Ps) (t : List UInt8) : Ps :=
 if Us t = true then (if 100 < IntKind.i64.wrap (s.o + 1) then rq ⟨s.ws, s.e, IntKind.i64.wrap (s.o + 1), s.h⟩ 51 else ⟨s.ws, s.e, IntKind.i64.wrap (s.o + 1), s.h⟩)
 else if Ut t = true then ⟨s.ws, s.e, IntKind.i64.wrap (s.o - 1), s.h⟩ else s
def jA (s : Ps) (t : List UInt8) : Bool × Ps := if AR s t = true then (true, dX (iR s t)) else (false, s)
def tH (s : Ps) (t : List UInt8) : Ps := match jA s t with
 | (true, s1) => s1
 | (false, s1) => rq s1 51
def yp (s : Ps) : List UInt8 × Ps := if s.e = 0 ∧ s.w.kind = 1 then (s.w.text, dX s) else ([], rq s 51)
def Uu (s : Ps) : Int × Ps := if s.e = 0 ∧ s.w.kind = 2 then ((s.w.int : Int), dX s) else (0, rq s 51)
def Uv : List (List UInt8 × Int) := [([98, 111, 111, 108], 1), ([98, 121, 116, 101], 2), ([105, 110, 116, 51, 50], 3), ([105, 110, 116], 4), ([117, 105, 110, 116, 51, 50], 5), ([117, 105, 110, 116, 54, 52], 6)]
def P4 (t : List UInt8) : Int := ((Uv.find? fun x => x.1 == t).map (·.2)).getD 0
def bO : az := .mk 0 [] []
abbrev EP := Ps → aj × Ps
def Uw (s : Ps) : Bool := AR s [116, 114, 117, 101] || AR s [102, 97, 108, 115, 101] || AR s [108, 101, 110] || AR s [97, 112, 112, 101, 110, 100] || (decide (s.w.kind = 4) && decide (1 < P4 s.w.text))
def zY (E : EP) : Nat → aj → Ps → aj × Ps
 | 0, x, s => (x, s)
 | m + 1, x, s => if ¬ s.e = 0 then (x, s) else match jA s [46] with
  | (true, s1) => (match yp s1 with
   | (t, s2) => zY E m (.mk 9 t 0 bO [] [x]) s2)
  | (false, _) => match jA s [91] with
   | (false, _) => (x, s)
   | (true, s1) => match E s1 with
    | (y, s2) => match jA s2 [58] with
     | (false, s3) => zY E m (.mk 10 [] 0 bO [] [x, y]) (tH s3 [93])
     | (true, s3) => match E s3 with
      | (z, s4) => zY E m (.mk 11 [] 0 bO [] [x, y, z]) (tH s4 [93])
abbrev SP := Ps → aF × Ps
structure Dn (s s' : Ps) : Prop where
 le : mu s' ≤ mu s
 e : ¬ s.e = 0 → s'.e = s.e
 sub : ∀ w ∈ s'.ws, w ∈ s.ws
theorem Dn.refl (s : Ps) : Dn s s := ⟨Nat.le_refl _, fun _ => rfl, fun _ h => h⟩
theorem Dn.trans {a b c : Ps} (h : Dn a b) (k : Dn b c) : Dn a c := ⟨Nat.le_trans k.le h.le, fun he => by
 have h1 := h.e he
 rw [k.e (by rw [h1]; exact he), h1], fun w hw => h.sub w (k.sub w hw)⟩
theorem F9 {s : Ps} (h : ¬ s.e = 0) : mu s = 0 := if_neg h
theorem uz {s : Ps} (h : s.e = 0) : mu s = s.ws.length := if_pos h
theorem N2 (s : Ps) (e : Int) : Dn s (rq s e) := by
 unfold rq
 split
 ·rename_i h
  refine ⟨?_, fun he => absurd h he, fun _ h => h⟩
  unfold mu
  rw [if_pos h]
  split <;> simp
 ·exact .refl _
theorem Ga (s : Ps) : Dn s (dX s) := by
 unfold dX
 split
 ·rename_i h
  refine ⟨?_, fun he => absurd h he, fun w hw => ?_⟩
  case refine_2 =>
   split at hw
   ·exact hw
   ·exact List.mem_of_mem_tail hw
  unfold mu
  rw [if_pos h]
  split <;> simp
 ·exact .refl _
theorem N3 (s : Ps) (h : s.e = 0) (hk : ¬ s.w.kind = 0) : mu (dX s) < mu s := by
 have hn : s.ws ≠ [] := by
  intro hw
  unfold Ps.w at hk
  rw [hw] at hk
  exact hk rfl
 have hl := List.length_pos_iff.2 hn
 rw [uz h]
 unfold dX
 rw [if_pos h]
 split
 ·rw [F9 (by show ¬ (50 : Int) = 0; omega)]
  exact hl
 ·rw [uz rfl]
  simp
  omega
theorem Gb (s : Ps) (t : List UInt8) : Dn s (iR s t) := by
 have h1 : ∀ o : Int, Dn s ⟨s.ws, s.e, o, s.h⟩ := fun _ => ⟨Nat.le_refl _, fun _ => rfl, fun _ h => h⟩
 unfold iR
 split
 ·split
  ·exact (h1 _).trans (N2 _ _)
  ·exact h1 _
 ·split
  ·exact h1 _
  ·exact .refl _
theorem Rt (s : Ps) (t : List UInt8) : (iR s t).ws = s.ws := by
 unfold iR rq
 split
 ·split
  ·split <;> rfl
  ·rfl
 ·split <;> rfl
theorem N4 {s : Ps} {t : List UInt8} (h : AR s t = true) : s.e = 0 ∧ (s.w.kind = 3 ∨ s.w.kind = 4) ∧ s.w.text = t := by
 unfold AR at h
 simp only [Bool.and_eq_true, Bool.or_eq_true, decide_eq_true_eq] at h
 exact ⟨h.1.1, h.1.2, h.2⟩
theorem N5 (s : Ps) (t : List UInt8) : Dn s (jA s t).2 ∧ ((jA s t).1 = true → mu (jA s t).2 < mu s) ∧ ((jA s t).1 = false → (jA s t).2 = s ∧ AR s t = false) := by
 unfold jA
 split
 ·rename_i h
  obtain ⟨h1, h2, h3⟩ := N4 h
  refine ⟨(Gb s t).trans (Ga _), fun _ => ?_, fun h => absurd h (by simp)⟩
  by_cases hb : (iR s t).e = 0
  ·refine Nat.lt_of_lt_of_le (N3 _ hb ?_) (Gb s t).le
   unfold Ps.w
   rw [Rt]
   change ¬ s.w.kind = 0
   omega
  ·have h4 := (Ga (iR s t)).le
   rw [F9 hb] at h4
   show mu (dX (iR s t)) < mu s
   have hl : 0 < mu s := by
    rw [uz h1]
    refine List.length_pos_iff.2 fun hw => ?_
    unfold Ps.w at h2
    rw [hw] at h2
    rcases h2 with h2 | h2 <;> exact absurd h2 (by decide)
   omega
 ·rename_i h
  exact ⟨.refl _, fun h => absurd h (by simp), fun _ => ⟨rfl, by simpa using h⟩⟩
theorem K2 {s s1 : Ps} {t : List UInt8} (h : jA s t = (false, s1)) : s1 = s := by
 have := (N5 s t).2.2
 rw [h] at this
 exact (this rfl).1
def Wo {α : Type} (E : Ps → α × Ps) : Prop := ∀ s, Dn s (E s).2
theorem Wo.at {α : Type} {E : Ps → α × Ps} (h : Wo E) {s s1 : Ps} {x : α} (e : E s = (x, s1)) : Dn s s1 := by
 have := h s
 rw [e] at this
 exact this
theorem Wo.of {α : Type} {E : Ps → α × Ps} (h : ∀ {s s1 : Ps} {x : α}, E s = (x, s1) → Dn s s1) : Wo E := fun s => h (x := (E s).1) rfl
def w9 : bC := ⟨9, [], 0, 0, 0⟩
def K4 (bs : List UInt8) : Nat → Nat → List bC
 | 0, _ => [w9]
 | f + 1, i => if (eU bs i).2 = 0 then (if (eU bs i).1.kind = 0 then [(eU bs i).1] else (eU bs i).1 :: K4 bs f (eU bs i).1.next) else [w9]
def N6 (bs : List UInt8) (i : Nat) : List bC := K4 bs (bs.length + 1) i
def Ux (bs : List UInt8) (s : Ps) : Prop := s.e = 0 → s.w.kind ≤ 4 ∧ s.w.next ≤ bs.length ∧ s.ws = s.w :: (if s.w.kind = 0 then [] else N6 bs s.w.next)
end Go.Proofs.YtnfnbjjnjjdjdaaGreatDoor
namespace Go.Proofs.YtnfnbjjnjjdjdaaGreatDoor
open Go.RowKit Go.Av Go.Ab
theorem ty1 : bB Tryz.prog 1 = some ⟨.other, 1, 8, false, [.kf]⟩ := by kernel_rfl
set_option maxRecDepth 100000
set_option linter.defProp false
def tys := by
 have c := QI Tryz.prog [1, 2, 3, 4, 5, 6, 7, 8, 9, 10, 11, 12, 13, 14, 15, 16, 17, 18, 19, 21, 22, 23, 24, 25, 26, 27, 28, 30, 32, 33, 34, 35, 36, 37, 38, 39, 40, 41, 42, 43, 44, 45, 46, 47, 48, 49, 50, 51, 52, 53, 54, 55, 56, 57, 58, 59, 60, 61, 62, 63, 64, 65, 66, 67, 68, 69, 70, 71, 72, 73, 74, 75, 77, 78, 79, 80, 81, 82, 83, 84, 85, 86, 87, 88, 89, 90, 91, 92, 93, 94, 95, 96, 97, 98, 99, 100, 101, 102, 103, 104, 105, 106, 107, 108, 109, 110, 111, 112, 113, 114, 115, 116, 117, 118, 119, 120, 121, 122, 123, 124, 125, 126, 127, 128, 129, 130, 131, 133, 134, 135, 136, 137, 138, 139, 140, 141, 142, 143, 144, 145, 146, 147, 148, 151, 152, 154, 155, 156, 157, 158, 159, 160, 161, 163, 165, 167, 168, 169, 170, 171, 172, 174, 175, 176, 177, 179, 180, 181, 182, 184, 185, 186, 188, 190, 191, 192, 193, 194, 195, 196, 197, 199, 200, 201, 202, 203, 204, 205, 206, 207, 208, 209, 210, 211, 212, 213, 214, 215, 216, 217, 219, 220, 221, 222, 223, 224, 225, 226, 227, 228, 229, 230] (by conv => lhs; cbv)
 dsimp only [VW] at c
 exact c
end Go.Proofs.YtnfnbjjnjjdjdaaGreatDoor
namespace Go.Ab
open Go.RowKit Go.Av
set_option maxRecDepth 100000
set_option linter.defProp false
def awC := And.intro @Go.Ab.D1 (And.intro @Go.Ab.D0 (And.intro @Go.Ab.nU.eq_1 (And.intro @Go.Ab.nU.eq_2 (And.intro @Go.Ab.nU.eq_3 (And.intro @Go.Ab.nU.eq_4 (And.intro @Go.Ab.nU.eq_5 (And.intro @Go.Ab.qf.eq_1 (And.intro @Go.Ab.qf.eq_2 (And.intro @Go.Ab.qf.eq_3 (And.intro @Go.Ab.eE.eq_1 (And.intro @Go.Ab.DX (And.intro @Go.Ab.G9 (And.intro @Go.Ab.He (And.intro @Go.Ab.DY (And.intro @Go.Ab.Bd (And.intro @Go.Ab.DZ (And.intro @Go.Ab.cU.eq_1 (And.intro @Go.Ab.cU.eq_2 (And.intro @Go.Ab.cU.eq_3 (And.intro @Go.Ab.cU.eq_4 (And.intro @Go.Ab.cU.eq_5 (And.intro @Go.Ab.cU.eq_6 (And.intro @Go.Ab.cU.eq_7 (And.intro @Go.Ab.cU.eq_8 (And.intro @Go.Ab.cU.eq_9 (And.intro @Go.Ab.cU.eq_10 (And.intro @Go.Ab.cU.eq_11 (And.intro @Go.Ab.cU.eq_12 (And.intro @Go.Ab.cU.eq_13 (And.intro @Go.Ab.cU.eq_14 (And.intro @Go.Ab.cU.eq_15 (And.intro @Go.Ab.cU.eq_16 (And.intro @Go.Ab.cU.eq_17 (And.intro @Go.Ab.cU.eq_18 (And.intro @Go.Ab.cU.eq_19 (And.intro @Go.Ab.cU.eq_20 (And.intro @Go.Ab.cU.eq_21 (And.intro @Go.Ab.dw.eq_1 (And.intro @Go.Ab.mF.eq_def (And.intro @Go.Ab.fM.eq_1 (And.intro @Go.Ab.fM.eq_2 (And.intro @Go.Ab.fM.eq_3 (And.intro @Go.Ab.pK.eq_1 (And.intro @Go.Ab.JQ.eq_1 (And.intro @Go.Ab.uu.eq_1 (And.intro @Go.Ab.A0.eq_1 (And.intro @Go.Ab.A0.eq_2 (And.intro @Go.Ab.A0.eq_3 (And.intro @Go.Ab.gS.eq_def (And.intro @Go.Ab.fE.eq_1 (And.intro @Go.Ab.oI.eq_1 (And.intro @Go.Ab.pL.eq_1 (And.intro @Go.Ab.pL.eq_2 (And.intro @Go.Ab.jR.eq_1 (And.intro @Go.Ab.rep.eq_1 (And.intro @Go.Ab.rep.eq_2 (And.intro @Go.Ab.chunk.eq_1 (And.intro @Go.Ab.chunk.eq_2 (And.intro @Go.Ab.uv.eq_1 (And.intro @Go.Ab.PE.eq_1 (And.intro @Go.Ab.PE.eq_2 (And.intro @Go.Ab.PE.eq_3 (And.intro @Go.Ab.uw.eq_def (And.intro @Go.Ab.lE.eq_1 (And.intro @Go.Ab.lE.eq_2 (And.intro @Go.Ab.lE.eq_3 (And.intro @Go.Ab.lE.eq_4 (And.intro @Go.Ab.lE.eq_5 (And.intro @Go.Ab.lE.eq_6 (And.intro @Go.Ab.lE.eq_7 (And.intro @Go.Ab.lE.eq_8 (And.intro @Go.Ab.lE.eq_9 (And.intro @Go.Ab.lE.eq_10 (And.intro @Go.Ab.lE.eq_11 (And.intro @Go.Ab.lE.eq_12 (And.intro @Go.Ab.lE.eq_13 (And.intro @Go.Ab.lE.eq_14 (And.intro @Go.Ab.lE.eq_15 (And.intro @Go.Ab.lE.eq_16 (And.intro @Go.Ab.lE.eq_17 (And.intro @Go.Ab.lE.eq_18 (And.intro @Go.Ab.uS.eq_1 (And.intro @Go.Ab.uS.eq_2 (And.intro @Go.Ab.uS.eq_3 (And.intro @Go.Ab.uS.eq_4 (And.intro @Go.Ab.uS.eq_5 (And.intro @Go.Ab.uS.eq_6 (And.intro @Go.Ab.uS.eq_7 (And.intro @Go.Ab.uS.eq_8 (And.intro @Go.Ab.uT.eq_1 (And.intro @Go.Ab.uT.eq_2 (And.intro @Go.Ab.uT.eq_3 (And.intro @Go.Ab.uT.eq_4 (And.intro @Go.Ab.G1.eq_1 (And.intro @Go.Ab.G1.eq_2 (And.intro @Go.Ab.G1.eq_3 (And.intro @Go.Ab.zl.eq_1 (And.intro @Go.Ab.zm.eq_1 (And.intro @Go.Ab.nO.eq_1 (And.intro @Go.Ab.nO.eq_2 (And.intro @Go.Ab.lS.eq_def (And.intro @Go.Ab.sw.eq_1 (And.intro @Go.Ab.A9.eq_1 (And.intro @Go.Ab.A9.eq_2 (And.intro @Go.Ab.gz.eq_1 (And.intro @Go.Ab.still.eq_1 (And.intro @Go.Ab.fy.eq_1 (And.intro @Go.Ab.fy.eq_2 (And.intro @Go.Ab.fy.eq_3 (And.intro @Go.Ab.fy.eq_4 (And.intro @Go.Ab.mE.eq_1 (And.intro @Go.Ab.mE.eq_2 (And.intro @Go.Ab.mE.eq_3 (And.intro @Go.Ab.mE.eq_4 (And.intro @Go.Ab.ah.eq_1 (And.intro @Go.Ab.ah.eq_2 (And.intro @Go.Ab.ah.eq_3 (And.intro @Go.Ab.ah.eq_4 (And.intro @Go.Ab.uO.eq_1 (And.intro @Go.Ab.uO.eq_2 (And.intro @Go.Ab.iU.eq_1 (And.intro @Go.Ab.iU.eq_2 (And.intro @Go.Ab.iU.eq_3 (And.intro @Go.Ab.iU.eq_4 (And.intro @Go.Ab.iU.eq_5 (And.intro @Go.Ab.iU.eq_6 (And.intro @Go.Ab.iU.eq_7 (And.intro @Go.Ab.aK.eq_1 (And.intro @Go.Ab.aK.eq_2 (And.intro @Go.Ab.sx.eq_1 (And.intro @Go.Ab.sx.eq_2 (And.intro @Go.exitTo.eq_1 (And.intro @Go.exitTo.eq_2 (And.intro @Go.exitTo.eq_3 (And.intro @List.getElem?_toArray.{0} (And.intro @List.getElem?_cons_zero.{0} (And.intro @List.getElem?_cons_succ.{0} (And.intro @List.set_cons_zero.{0} (And.intro @List.set_cons_succ.{0} (And.intro @Option.map_some.{0, 0} (And.intro @Option.map_none.{0, 0} (And.intro @Option.bind_some.{0, 0} (And.intro @if_true.{1} (And.intro @if_false.{1} (And.intro @ite_true.{1} (And.intro @ite_false.{1} (And.intro @Bool.false_eq_true (And.intro @eq_self.{1} (And.intro @beq_self_eq_true.{0} (And.intro @List.size_toArray.{0} (And.intro @List.length_cons.{0} (And.intro @List.length_nil.{0} (And.intro @List.length_append.{0} (And.intro @List.length_set.{0} (And.intro @List.length_map.{0, 0} (And.intro @List.take_succ_cons.{0} (And.intro @List.take_zero.{0} (And.intro @List.drop_succ_cons.{0} (And.intro @List.drop_zero.{0} (And.intro @List.nil_append.{0} (And.intro @List.cons_append.{0} (And.intro @List.append_nil.{0} (And.intro @List.append_assoc.{0} (And.intro @Nat.zero_add (And.intro @Nat.add_zero (And.intro @List.map_cons.{0, 0} (And.intro @List.map_nil.{0, 0} (And.intro @List.toList_toArray.{0} (And.intro @Array.toList_map.{0, 0} (And.intro @true_and (And.intro @and_true (And.intro @cond_true.{1} (And.intro @cond_false.{1} (And.intro @Go.Ab.dx (And.intro @Go.Ab.cy (And.intro @Go.Ab.ai (And.intro @Go.Ab.u9 (And.intro @Go.Ab.tu (And.intro @Go.Ab.gK (And.intro @Go.Ab.eF (And.intro @List.set_set.{0} (And.intro @List.all_cons.{0} (And.intro @List.all_nil.{0} (And.intro @Bool.and_true (And.intro @Bool.true_and (And.intro @Int.natCast_one (And.intro @Int.natCast_zero (And.intro @Int.cast_ofNat_Int (And.intro @Int.toNat_natCast (And.intro @Int.natCast_nonneg (And.intro @decide_true (And.intro @decide_false (And.intro @Nat.le_refl (And.intro @Int.le_refl (And.intro @Int.natCast_add (And.intro @Int.toNat_zero (And.intro @Nat.sub_zero (And.intro @Go.Ab.Hf (And.intro @Go.Ab.Kc (And.intro @Go.Ab.D3 (And.intro @Go.Ab.D4 (And.intro @Go.Ab.Hg (And.intro @Go.Ab.Hh (And.intro @Go.Ab.FL.eq_def (And.intro @Bool.not_false (And.intro @Bool.not_true (And.intro @Go.Ab.FH.eq_1 (And.intro @Go.Ab.FH.eq_2 (And.intro @Go.Ab.FI.eq_1 (And.intro @Go.Ab.FI.eq_2 (And.intro @Go.Ab.JX.eq_1 (And.intro @Go.Ab.ptrEq.eq_1 (And.intro @Go.Ab.ptrEq.eq_2 (And.intro @Go.Ab.ptrEq.eq_3 (And.intro @Go.Ab.ptrEq.eq_4 (And.intro @Go.Ab.ptrEq.eq_5 (And.intro @Go.Ab.ptrEq.eq_6 (And.intro @Go.Ab.qO.eq_1 (And.intro @Go.Ab.qO.eq_2 (And.intro @Go.Ab.FD.eq_1 @Go.Ab.FD.eq_2))))))))))))))))))))))))))))))))))))))))))))))))))))))))))))))))))))))))))))))))))))))))))))))))))))))))))))))))))))))))))))))))))))))))))))))))))))))))))))))))))))))))))))))))))))))))))))))))))))))))))))))))))))))))))))
def awO := And.intro @Go.Ab.gA.eq_1 (And.intro @Go.Ab.gA.eq_2 (And.intro @Go.Ab.gA.eq_3 (And.intro @Go.Ab.gA.eq_4 (And.intro @Go.Ab.gA.eq_5 (And.intro @Go.Ab.gA.eq_6 (And.intro @Go.Ab.gA.eq_7 (And.intro @Go.Ab.gA.eq_8 (And.intro @Go.Ab.Bc.eq_1 (And.intro @Go.Ab.zx.eq_1 (And.intro @List.getD_cons_zero.{0} (And.intro @List.getD_cons_succ.{0} (And.intro @List.replicate_succ.{0} (And.intro @List.replicate_zero.{0} (And.intro @Go.Ab.eK.eq_1 (And.intro @List.foldl_cons.{0, 0} (And.intro @List.foldl_nil.{0, 0} (And.intro @Go.Ab.qT.eq_1 @Go.Ab.QZ.eq_1)))))))))))))))))
def awN := And.intro @Go.Ab.D7 (And.intro @Go.Ab.xT (And.intro @Go.Ab.gD (And.intro @Go.Ab.ko (And.intro @Go.Ab.Ki (And.intro @Go.Ab.Np (And.intro @Go.Ab.jS (And.intro @Go.Ab.mI (And.intro @Go.Ab.fY.eq_1 (And.intro @Go.Ab.fY.eq_2 (And.intro @Go.Ab.Nq (And.intro @Go.Ab.Nr @Go.Ab.Ns)))))))))))
end Go.Ab
namespace Go.Proofs.YtnfnbjjnjjdjdaaGreatDoor
open Go.RowKit Go.Av Go.Ab
set_option linter.unusedSimpArgs false
set_option maxRecDepth 100000
mutual
def ej : az → List D
 | .mk k n es => [.int .i64 k, .str n, .sl (K5 es)]
def K5 : List az → List (List D)
 | [] => []
 | t :: l => ej t :: K5 l
end
theorem Cc : ∀ l : List az, K5 l = l.map ej
 | [] => by simp [K5]
 | t :: l => by simp [K5, Cc l]
theorem cO (t : az) : ej t = [.int .i64 t.kind, .str t.name, .sl (t.elem.map ej)] := by
 cases t
 rw [ej, Cc]
 rfl
def gu (l : List (List UInt8)) : List (List D) := l.map fun s => [.str s]
mutual
def eH : aj → List D
 | .mk k t i ty ns ks => [.int .i64 k, .str t, .int .u64 i, .int .i64 ty.kind, .str ty.name, .sl (ty.elem.map ej), .sl (gu ns), .sl (K6 ks)]
def K6 : List aj → List (List D)
 | [] => []
 | x :: l => eH x :: K6 l
end
theorem Cd : ∀ l : List aj, K6 l = l.map eH
 | [] => by simp [K6]
 | t :: l => by simp [K6, Cd l]
theorem cP (x : aj) : eH x = [.int .i64 x.kind, .str x.text, .int .u64 x.int, .int .i64 x.type.kind, .str x.type.name, .sl (x.type.elem.map ej), .sl (gu x.names), .sl (x.kids.map eH)] := by
 cases x
 rw [eH, Cd]
 rfl
mutual
def dL : aF → List D
 | .mk k ns ty ls es b e cs => [.int .i64 k, .sl (gu ns), .int .i64 ty.kind, .str ty.name, .sl (ty.elem.map ej), .sl (ls.map eH), .sl (es.map eH), .sl (ES b), .sl (ES e), .sl (K7 cs)]
def ES : List aF → List (List D)
 | [] => []
 | x :: l => dL x :: ES l
def jJ : cQ → List D
 | .mk i b => [.int .u64 i, .sl (ES b)]
def K7 : List cQ → List (List D)
 | [] => []
 | x :: l => jJ x :: K7 l
end
theorem ru : ∀ l : List aF, ES l = l.map dL
 | [] => by simp [ES]
 | t :: l => by simp [ES, ru l]
theorem Ce : ∀ l : List cQ, K7 l = l.map jJ
 | [] => by simp [K7]
 | t :: l => by simp [K7, Ce l]
theorem gr (c : cQ) : jJ c = [.int .u64 c.int, .sl (c.body.map dL)] := by
 cases c
 rw [jJ, ru]
 rfl
theorem bY (s : aF) : dL s = [.int .i64 s.kind, .sl (gu s.names), .int .i64 s.type.kind, .str s.type.name, .sl (s.type.elem.map ej), .sl (s.aG.map eH), .sl (s.exprs.map eH), .sl (s.body.map dL), .sl (s.dO.map dL), .sl (s.cases.map jJ)] := by
 cases s
 rw [dL, ru, ru, Ce]
 rfl
def gI (p : bI) : List D := [.str p.name, .int .i64 p.type.kind, .str p.type.name, .sl (p.type.elem.map ej)]
def fJ (s : cM) : List D := [.str s.name, .sl (s.fields.map gI)]
def fK (f : cR) : List D := [.str f.name, .sl (f.params.map gI), .sl (f.results.map ej), .sl (f.body.map dL)]
theorem qq (p : bI) : gI p = [.str p.name, .int .i64 p.type.kind, .str p.type.name, .sl (p.type.elem.map ej)] := rfl
theorem K8 (s : cM) : fJ s = [.str s.name, .sl (s.fields.map gI)] := rfl
theorem qs (f : cR) : fK f = [.str f.name, .sl (f.params.map gI), .sl (f.results.map ej), .sl (f.body.map dL)] := rfl
def aT (t : az) : V := .agg [.d (.int .i64 t.kind), .d (.str t.name), .d (.sl (t.elem.map ej))]
def ry (x : aj) : V := .agg [.d (.int .i64 x.kind), .d (.str x.text), .d (.int .u64 x.int), .d (.int .i64 x.type.kind), .d (.str x.type.name), .d (.sl (x.type.elem.map ej)), .d (.sl (gu x.names)), .d (.sl (x.kids.map eH))]
def zZ (s : aF) : V := .agg [.d (.int .i64 s.kind), .d (.sl (gu s.names)), .d (.int .i64 s.type.kind), .d (.str s.type.name), .d (.sl (s.type.elem.map ej)), .d (.sl (s.aG.map eH)), .d (.sl (s.exprs.map eH)), .d (.sl (s.body.map dL)), .d (.sl (s.dO.map dL)), .d (.sl (s.cases.map jJ))]
def Gc (c : cQ) : V := .agg [.d (.int .u64 c.int), .d (.sl (c.body.map dL))]
def AS (p : bI) : V := .agg [.d (.str p.name), .d (.int .i64 p.type.kind), .d (.str p.type.name), .d (.sl (p.type.elem.map ej))]
def xC (s : cM) : V := .agg [.d (.str s.name), .d (.sl (s.fields.map gI))]
def xD (f : cR) : V := .agg [.d (.str f.name), .d (.sl (f.params.map gI)), .d (.sl (f.results.map ej)), .d (.sl (f.body.map dL))]
def l7 (p : oV) : V := .agg [.d (.sl (p.structs.map fJ)), .d (.sl (p.funcs.map fK))]
theorem Ip (l : List (List UInt8)) : cV 1 (gu l) = true := fV (fun s : List UInt8 => [D.str s]) (fun _ => rfl) l
theorem Iq (l : List az) : cV 3 (l.map ej) = true := fV _ (fun x => by rw [cO]; rfl) l
theorem Ir (l : List aj) : cV 8 (l.map eH) = true := fV _ (fun x => by rw [cP]; rfl) l
theorem Is (l : List aF) : cV 10 (l.map dL) = true := fV _ (fun x => by rw [bY]; rfl) l
theorem It (l : List cQ) : cV 2 (l.map jJ) = true := fV _ (fun x => by rw [gr]; rfl) l
theorem Iu (l : List bI) : cV 4 (l.map gI) = true := fV gI (fun _ => rfl) l
theorem Iv (l : List cM) : cV 2 (l.map fJ) = true := fV fJ (fun _ => rfl) l
theorem Iw (l : List cR) : cV 4 (l.map fK) = true := fV fK (fun _ => rfl) l
theorem fZ (l : List (List UInt8)) : (gu l).length = l.length := by simp [gu]
theorem N7 (l : List (List UInt8)) (i : Nat) : (gu l)[i]? = (l[i]?).map fun s => [.str s] := by simp [gu]
theorem K9 (l : List (List UInt8)) (n : Nat) : (gu l).take n = gu (l.take n) := by simp [gu, List.map_take]
theorem La (l : List (List UInt8)) (n : Nat) : (gu l).drop n = gu (l.drop n) := by simp [gu, List.map_drop]
set_option linter.defProp false in
def awT := And.intro @Ip ( And.intro @Iq ( And.intro @Ir ( And.intro @Is ( And.intro @It ( And.intro @Iu ( And.intro @Iv ( And.intro @Iw ( And.intro @fZ ( And.intro @N7 ( And.intro @K9 (@La)))))))))))
set_option linter.defProp false
def W := And.intro awC (And.intro awN (And.intro awT tys))
def WO := And.intro awC (And.intro awO (And.intro awT tys))
def X4 := And.intro @and_self (And.intro @true_and (And.intro @and_true (And.intro @eq_self.{1} (And.intro @Int.natCast_add (And.intro @Int.natCast_one (And.intro @Int.natCast_zero (And.intro @gD (And.intro @xT (And.intro @jS (And.intro @mI (And.intro @cond_true.{1} (@cond_false.{1}))))))))))))
def cZ := And.intro @D5 (And.intro @Hj X4)
def yq := And.intro @Bq (And.intro @D6 (And.intro @Bool.and_true (And.intro @Bool.true_and (And.intro @Bool.and_self (And.intro @decide_true (And.intro @List.length_set.{0} (And.intro @fit.eq_1 (And.intro @fit.eq_2 (And.intro @fit.eq_3 (And.intro @fit.eq_4 (And.intro @fit.eq_5 (And.intro @fit.eq_6 (And.intro @fit.eq_7 (And.intro @fit.eq_8 (And.intro @fit.eq_9 (And.intro @fit.eq_10 (And.intro @fit.eq_11 (And.intro @fit.eq_12 (And.intro @iW.eq_1 (And.intro @iW.eq_2 (And.intro @fit.eq_15 (And.intro @fit.eq_16 (X4)))))))))))))))))))))))
def jb := And.intro @List.getD_cons_zero.{0} (And.intro @List.getD_cons_succ.{0} (And.intro @wk.eq_1 (And.intro @wk.eq_2 (And.intro @wk.eq_3 (And.intro @wk.eq_4 (And.intro @wk.eq_5 (And.intro @wk.eq_6 (And.intro @wk.eq_7 (And.intro @wk.eq_8 (And.intro @wk.eq_9 (And.intro @wk.eq_10 (And.intro @wk.eq_11 (And.intro @wk.eq_12 (And.intro @wk.eq_15 (And.intro @wk.eq_16 (X4))))))))))))))))
def jc := And.intro @decide_eq_true_eq (And.intro @decide_eq_false_iff_not (And.intro @Bool.not_eq_true' @Bool.not_eq_false'))
def eI := And.intro @Bo.eq_1 (And.intro @Bo.eq_2 (And.intro @sm.eq_1 (And.intro @sm.eq_2 (And.intro @sm.eq_3 (And.intro @sm.eq_4 (And.intro @Q1 (And.intro @Nh (And.intro @Q2 (And.intro @TO (And.intro @Nj (And.intro @Nk (And.intro @Nl (And.intro @Nm (And.intro @Kg (And.intro @Q3 (And.intro @ry.eq_1 (And.intro @zZ.eq_1 (And.intro @aT.eq_1 (And.intro @Gc.eq_1 (And.intro @AS.eq_1 (And.intro @xC.eq_1 (And.intro @xD.eq_1 (And.intro @l7.eq_1 (And.intro @Bool.and_eq_true (And.intro @decide_eq_true_eq (And.intro @and_true (And.intro @true_and (And.intro @List.length_map.{0, 0} (@fZ)))))))))))))))))))))))))))))
theorem aI (n : Int) (h : -9223372036854775808 ≤ n ∧ n ≤ 9223372036854775807) : IntKind.i64.wrap n = n := IntWalk.i64_in _ h
theorem lf (c : Nat) (d p : Int) (B : List (List V)) (T : List (Nat × Nat)) (h : B[c]? = some [.d (.int .i64 p)]) (hp : 0 ≤ p ∧ p ≤ 60000) :
 aD Tryz.prog av 90 [.ptr c 0, .d (.int .i64 d)] ⟨B, T⟩ (aB (.d (.bool (bt d p))) ⟨B.set c [.d (.int .i64 (p + 1))], T⟩) := by
 have hi := (List.getElem?_eq_some_iff.1 h).1
 have hw := aI (p + 1) (by omega)
 unfold bt
 refine aD.body Tryz.func90 rfl (by kernel_rfl) ?_
 refine af.go 100 ?_
 simp only [Tryz.f90, WO, seval, h, hi, hw]
 refine aZ (fun h1 => ?_) (fun h1 => ?_)
 all_goals
  simp only [WO, seval, h1]
  refine af.ret Tryz.func90 rfl (Left.TM rfl ?_)
  exact ⟨rfl, rfl⟩
theorem kC (s : List UInt8) (S : Mem) : aD Tryz.prog av 91 [.d (.str s)] S (aB (.d (.bool (ak s))) S) := by
 refine aD.Bh Tryz.func91 rfl (by kernel_rfl) fun c w xs h1 h2 h3 hI => ?_
 have hv := h2 0 (by simp)
 obtain ⟨x, rfl⟩ : ∃ x, xs = #[x] := ⟨xs[0]'(by simp at h1; omega), by apply Array.ext <;> simp_all⟩
 simp at hv
 cases hv with
 | d _ _ hv => cases hv with
  | str _ hl =>
   refine (Rq s w hI hl).mono ?_
   rintro e w' ⟨rfl, hb⟩
   exact ⟨_, _, rfl, ⟨rfl, rfl⟩, hb, .d _ _ (.bool _)⟩
theorem Gd (t : az) (B : List (List V)) (T : List (Nat × Nat)) : aD Tryz.prog av 96 [aT t] ⟨B, T⟩ (aB (.d (.bool (fm t))) ⟨B, T⟩) := by
 obtain ⟨n, hn⟩ : ∃ n, B.length = n := ⟨_, rfl⟩
 unfold aT
 refine aD.body Tryz.func96 rfl (by kernel_rfl) ?_
 refine af.go 100 ?_
 simp only [Tryz.f96, WO, seval, hn]
 repeat' ((first | refine aZ (fun h => ?_) (fun h => ?_) | refine aS (fun h => ?_) (fun h => ?_)) <;> simp only [WO, seval, h, hn])
 all_goals
  refine af.ret Tryz.func96 rfl (Left.box ?_)
  exact ⟨by simp [wk, fm, *], rfl⟩
def PF (bx : Ps → Nat → List V) (ok : Ps → Nat → Prop) (f : FuncId) (ar : List V) (s : Ps) (v : V) (s' : Ps) : Prop :=
 ∀ (c : Nat) (B : List (List V)) (T : List (Nat × Nat)) (i : Nat), c < B.length → ok s i → aD Tryz.prog av f (.ptr c 0 :: ar) ⟨B.set c (bx s i), T⟩ fun v' m => v' = v ∧ ∃ i', ok s' i' ∧ m = ⟨B.set c (bx s' i'), T⟩
section
variable {bx : Ps → Nat → List V} {ok : Ps → Nat → Prop} {f : FuncId} {ar : List V} {s s' : Ps} {v : V} {c i : Nat} {B J : List (List V)} {T K : List (Nat × Nat)}
theorem PF.fn (h : PF bx ok f ar s v s') (hc : c < B.length) (hi : ok s i) : aD Tryz.prog av f (.ptr c 0 :: ar) ⟨B.set c (bx s i) ++ J, T⟩ fun v' m => v' = v ∧ ∃ i', ok s' i' ∧ m = ⟨B.set c (bx s' i') ++ J, T⟩ := by
 have := h c (B ++ J) T i (by simp; omega) hi
 rw [List.set_append_left _ _ hc] at this
 refine this.mono ?_
 rintro v' m ⟨rfl, i', h1, rfl⟩
 exact ⟨rfl, i', h1, by rw [List.set_append_left _ _ hc]⟩
theorem PF.call {stop : dS} {k : List Item} {d : Option Tmp} {env : List V} (h : PF bx ok f ar s v s') (hc : c < B.length) (hi : ok s i) (hk : ∀ i', ok s' i' → stop k (aK env d v) ⟨B.set c (bx s' i') ++ J, T⟩) : qQ Tryz.prog av stop (.func f [] []) (.ptr c 0 :: ar) k d env ⟨B.set c (bx s i) ++ J, T⟩ :=
 ag (h.fn hc hi) fun _ _ ⟨e1, i', h1, e2⟩ => by rw [e1, e2]; exact hk i' h1
end
section
variable {B J : List (List V)} {T K : List (Nat × Nat)} {c : Nat} {x y : List V} {R : V → Mem → Prop} {v : V}
theorem PF.ret (hy : ∀ n m, y.all (fit n m) = true) (h : R (wk (B.set c x).length T.length v) ⟨B.set c y, T⟩) : Ab.Left ⟨B.set c x, T⟩ R v ⟨B.set c y ++ J, T ++ K⟩ := by
 refine Ab.Left.of (by simp) rfl ?_ h
 have := (qg.refl (B.set c x).length T.length (B.set c x)).set c (hy _ _)
 rwa [List.set_set] at this
end
end Go.Proofs.YtnfnbjjnjjdjdaaGreatDoor
namespace Go.Ab
open Go.RowKit Go.Av
abbrev Ix := FuncId → List Item → List V → Mem → Option (V × Mem)
def P5 (P : Program) (fn : FuncId) (env : List V) (S : Mem) : Option (V × Mem) :=
 match P.funcs[fn]? with
 | some f => match Bb P S env f.results.toList with
  | some v => some (v, S)
  | none => none
 | none => none
def Ru (S : Mem) (v : V) (S' : Mem) : V × Mem :=
 match fit S.boxes.length S'.aL.length v && (S'.boxes.take S.boxes.length).all (fun vs => vs.all (fit S.boxes.length S.aL.length)) && Nat.ble S.boxes.length S'.boxes.length && Nat.ble S.aL.length S'.aL.length with
 | true => (wk S.boxes.length S.aL.length v, ⟨S'.boxes.take S.boxes.length, S'.aL.take S.aL.length⟩)
 | false => (v, S')
def X5 (run : Ix) (g : FuncId) (body : Code) (init : List V) (S : Mem) : Option (V × Mem) :=
 match run g [.code body] init S with
 | some (v, S') => some (Ru S v S')
 | none => none
def Lb (P : Program) (dK : FuncId → List V → Option V) (run : Ix) (g : FuncId) (args : List V) : Option V :=
 match P.funcs[g]? with
 | some f => match f.body with
  | some body => match dK g args with
   | some v => some (wk 0 0 v)
   | none => match run g [.code body] (args ++ List.replicate (f.ntmps - args.length) .undef) ⟨[], []⟩ with
    | some (v, S0) => match fit 0 S0.aL.length v with
     | true => some (wk 0 0 v)
     | false => none
    | none => none
  | none => none
 | none => none
def P6 (P : Program) (run : Ix) (g : FuncId) (args : List V) (S : Mem) : Option (V × Mem) :=
 match P.funcs[g]? with
 | some f => match f.body with
  | some body => X5 run g body (args ++ List.replicate (f.ntmps - args.length) .undef) S
  | none => none
 | none => none
def X6 (P : Program) (dK : FuncId → List V → Option V) (run : Ix) (g : FuncId) (args : List V) (S : Mem) : Option (V × Mem) :=
 match iW 0 0 args with
 | true => match Lb P dK run g (ud 0 0 args) with
  | some v => some (v, S)
  | none => P6 P run g args S
 | false => P6 P run g args S
def z4 (run : Ix) (fn : FuncId) (r : Option (V × Mem)) (k : List Item) (d : Option Tmp) (env : List V) : Option (V × Mem) :=
 match r with
 | some (v, S) => run fn k (aK env d v) S
 | none => none
def Uy (P : Program) (env : List V) (S : Mem) (s : Operand) (t : TypeId) : List V × Mem :=
 match s with
 | .tmp q => match env.getD q .undef with
  | .sl rows .full => match bB P t with
   | some ti => match ti.d with
    | .slice e => match bB P e with
     | some te => match decide (0 < te.size) && cV te.size rows with
      | true => (env.set q (.sl rows (.own S.aL.length)), { S with aL := S.aL ++ [(rows.length, te.size)] })
      | false => (env, S)
     | none => (env, S)
    | _ => (env, S)
   | none => (env, S)
  | _ => (env, S)
 | _ => (env, S)
def Uz (P : Program) (I : Inv) (dK : FuncId → List V → Option V) (run : Ix) (fn : FuncId) (ops : Array Oper) (rest : List Nat) (o : Oper) (k : List Item) (env : List V) (S : Mem) : Option (V × Mem) :=
 match o.op with
 | .call q => match q.callee with
  | .value f => match ah I env f with
   | .func g first caps => z4 run fn (X6 P dK run g (first ++ q.args.toList.map (ah I env) ++ caps) S) (.inRegion ops rest :: k) o.dst env
   | _ => none
  | .builtin .append => match q.args.toList, q.argTypes.toList with
   | [s, _], [t, _] => match Uy P env S s t with
    | (cr, S') => z4 run fn (dw P (ah I cr) S' q) (.inRegion ops rest :: k) o.dst cr
   | _, _ => none
  | _ => z4 run fn (dw P (ah I env) S q) (.inRegion ops rest :: k) o.dst env
 | op => z4 run fn (cU P (ah I env) S op) (.inRegion ops rest :: k) o.dst env
def UA (P : Program) (I : Inv) (dK : FuncId → List V → Option V) (run : Ix) (fn : FuncId) (ops : Array Oper) (i : Nat) (rest : List Nat) (k : List Item) (env : List V) (S : Mem) : Option (V × Mem) :=
 match ops[i]? with
 | some o => match o.guard with
  | none => Uz P I dK run fn ops rest o k env S
  | some (j, want) => match eE env ops j with
   | .d (.bool t) => match t == want with
    | true => Uz P I dK run fn ops rest o k env S
    | false => run fn (.inRegion ops rest :: k) (aK env o.dst (.bZ [])) S
   | .bZ [] => run fn (.inRegion ops rest :: k) (aK env o.dst (.bZ [])) S
   | _ => none
 | none => none
def N8 : Op → Bool
 | .move _ => true
 | .assign _ => true
 | .pick .. => true
 | .build .. => true
 | .load .. => true
 | .nilCheck _ => true
 | .binOp .. => true
 | .unOp .. => true
 | .makeFunc .. => true
 | .slice .. => true
 | .fieldAddr .. => true
 | .indexAddr .. => true
 | .index .. => true
 | .extract .. => true
 | _ => false
def P7 (r : Option (V × Mem)) : Option V :=
 match r with
 | some (v, _) => some v
 | none => none
def P8 (P : Program) (I : Inv) (dK : FuncId → List V → Option V) (run : Ix) (o : Oper) (env : List V) (S : Mem) : Option V :=
 match o.op with
 | .call q => match q.callee with
  | .value f => match ah I env f with
   | .func g first caps => match iW 0 0 (first ++ q.args.toList.map (ah I env) ++ caps) with
    | true => Lb P dK run g (ud 0 0 (first ++ q.args.toList.map (ah I env) ++ caps))
    | false => none
   | _ => none
  | .builtin .len => P7 (dw P (ah I env) S q)
  | _ => none
 | op => match N8 op with
  | true => P7 (cU P (ah I env) S op)
  | false => none
def Cf (P : Program) (I : Inv) (dK : FuncId → List V → Option V) (run : Ix) (ops : Array Oper) (S : Mem) : List Oper → List V → Option (List V)
 | [], env => some env
 | o :: l, env => match o.guard with
  | none => match P8 P I dK run o env S with
   | some v => Cf P I dK run ops S l (aK env o.dst v)
   | none => none
  | some (j, want) => match eE env ops j with
   | .d (.bool t) => match t == want with
    | true => match P8 P I dK run o env S with
     | some v => Cf P I dK run ops S l (aK env o.dst v)
     | none => none
    | false => Cf P I dK run ops S l (aK env o.dst (.bZ []))
   | .bZ [] => Cf P I dK run ops S l (aK env o.dst (.bZ []))
   | _ => none
def Rv (P : Program) (I : Inv) (dK : FuncId → List V → Option V) (run : Ix) (fn : FuncId) (c : Code) (k : List Item) (env : List V) (S : Mem) : Option (V × Mem) :=
 match c with
 | .seq a b => run fn (.code a :: .code b :: k) env S
 | .skip => run fn k env S
 | .label _ => run fn k env S
 | .block id a => run fn (.code a :: .inBlock id :: k) env S
 | .region _ ops false => run fn (.inRegion ops (sx 0 ops.toList) :: k) env S
 | .region _ ops true => match P.follows .mixedOrders && Region.lexB .any ops with
  | true => match Cf P I dK run ops S ops.toList env with
   | some cr => run fn k cr S
   | none => none
  | false => none
 | .cond x a b => match ah I env x with
  | .d (.bool t) => match t with
   | true => run fn (.code a :: k) env S
   | false => run fn (.code b :: k) env S
  | _ => none
 | .exit id => match exitTo id k with
  | some k' => run fn k' env S
  | none => none
 | .loop x => run fn (.code x :: .inLoop x :: k) env S
 | .ret => P5 P fn env S
 | _ => none
def Rw (P : Program) (I : Inv) (dK : FuncId → List V → Option V) (run : Ix) : Ix := fun fn k env S =>
 match k with
 | [] => P5 P fn env S
 | .code c :: k => Rv P I dK run fn c k env S
 | .inBlock _ :: k => run fn k env S
 | .inLoop x :: k => run fn (.code x :: .inLoop x :: k) env S
 | .inRegion _ [] :: k => run fn k env S
 | .inRegion ops (i :: rest) :: k => UA P I dK run fn ops i rest k env S
 | _ => none
noncomputable def ev (P : Program) (I : Inv) (dK : FuncId → List V → Option V) (n : Nat) : Ix := Nat.rec (fun _ _ _ _ => none) (fun _ run => Rw P I dK run) n
section
variable {P : Program} {I : Inv} {dK : FuncId → List V → Option V}
end
end Go.Ab
namespace Go.Ab
open Go.RowKit Go.Av
theorem aD.Ge {P : Program} {I : Inv} {f : FuncId} {args P9 : List V} {v : V} (h : aD P I f P9 ⟨[], []⟩ (fun v' _ => v' = v)) (hd : ud 0 0 args = P9) (hv : wk 0 0 v = v) (S : Mem) : aD P I f args S (aB v S) :=
 aD.mono (aD.frame (R := fun v' _ => v' = v) (by rw [hd]; exact h) S) fun v' S' h => by
  obtain ⟨h1, v0, S0, h2, h3⟩ := h
  exact ⟨by rw [h3, h2, hv], h1⟩
theorem aD.only {P : Program} {I : Inv} {f : FuncId} {args : List V} {v : V} {S : Mem} (h : aD P I f args S (aB v S)) : aD P I f args S (fun v' _ => v' = v) := h.mono fun _ _ h => h.1
end Go.Ab
namespace Go.Proofs.YtnfnbjjnjjdjdaaGreatDoor
open Go.RowKit Go.Av Go.Ab
set_option maxRecDepth 100000
end Go.Proofs.YtnfnbjjnjjdjdaaGreatDoor
namespace Go.Proofs.YtnfnbjjnjjdjdaaGreatDoor
open Go.RowKit Go.Av Go.Ab
set_option linter.unusedSimpArgs false
set_option maxRecDepth 100000
set_option linter.defProp false
def Cg (bs : List UInt8) : List (List D) := bs.map eM
def Wp (x : bC) : List V := [.d (.int .i64 x.kind), .d (.str x.text), .d (.int .u64 x.int), .d (.int .i64 x.at'), .d (.int .i64 x.next)]
theorem Lc (bs : List UInt8) (i : Int) : (eU bs i).1.text.length ≤ bs.length + 9 := by
 unfold eU
 split
 ·simp [bC.zero]
 ·unfold gp
  split
  ·simp
  ·split
   ·simp only [sH, List.length_take, List.length_drop]; omega
   ·split
    ·split
     ·simp only [jU, gG, List.length_take, List.length_drop]; omega
     ·simp [bC.zero]
    ·split
     ·rename_i s hs
      have h3 : ∀ s ∈ eg, s.length ≤ 9 := by decide
      have := h3 s (List.mem_of_find?_eq_some hs)
      simp only
      omega
     ·simp [bC.zero]
def UB (bs : List UInt8) (s : Ps) : List V := [.d (.sl (Cg bs)), .d (.int .i64 s.w.kind), .d (.str s.w.text), .d (.int .u64 s.w.int), .d (.int .i64 s.w.at'), .d (.int .i64 s.w.next), .d (.int .i64 s.e), .d (.int .i64 s.o), .d (.bool s.h)]
abbrev PP (bs : List UInt8) (f : FuncId) (ar : List V) (s : Ps) (v : V) (s' : Ps) : Prop := PF (fun s _ => UB bs s) (fun s _ => Ux bs s) f ar s v s'
theorem PP.of {bs : List UInt8} {f : FuncId} {ar : List V} {s s' : Ps} {v : V} (h : ∀ (c : Nat) (B : List (List V)) (T : List (Nat × Nat)), c < B.length → Ux bs s → Ux bs s' ∧ aD Tryz.prog av f (.ptr c 0 :: ar) ⟨B.set c (UB bs s), T⟩ (aB v ⟨B.set c (UB bs s'), T⟩)) : PP bs f ar s v s' :=
 fun c B T i hc hi => (h c B T hc hi).2.mono fun _ _ ⟨e1, e2⟩ => ⟨e1, i, (h c B T hc hi).1, e2⟩
def sM {α : Type} (p : α → Bool) : List α → Int → Int
 | [], _ => -1
 | x :: l, i => if p x then i else sM p l (i + 1)
theorem Ch {α : Type} (p : α → Bool) : ∀ (l : List α) (i : Int), 0 ≤ i → decide (0 ≤ sM p l i) = l.any p
 | [], i, _ => by simp [sM]
 | x :: l, i, hi => by
  unfold sM
  cases hp : p x
  ·simp [hp, Ch p l (i + 1) (by omega)]
  ·simp [hp, hi]
theorem bW {α : Type} {l : List α} {i : Nat} (h : i < l.length) : l.drop i = l[i] :: l.drop (i + 1) := List.drop_eq_getElem_cons h
set_option maxHeartbeats 1000000 in
theorem z5 (l : List (List UInt8)) (s : List UInt8) (hl : l.length ≤ 9223372036854775807) (S : Mem) : aD Tryz.prog av 181 [.d (.sl (gu l)), .d (.str s)] S (aB (.d (.int .i64 (sM (· == s) l 0))) S) := by
 refine aD.body Tryz.func181 rfl (by kernel_rfl) ?_
 refine af.go 100 ?_
 simp only [Tryz.f181, WO, seval]
 refine af.cJ (fun i : Nat => (eK 19 [(0, .d (.sl (gu l))), (1, .d (.str s)), (6, .d (.sl (gu l))), (7, .d (.int .i64 l.length)), (8, .d (.int .i64 i))], S)) (fun i => i ≤ l.length ∧ sM (· == s) l 0 = sM (· == s) (l.drop i) i) (fun i => l.length - i) 0 ⟨by omega, rfl⟩ ?_ rfl ?_
 ·simp only [eK, List.replicate_succ, List.replicate_zero, List.foldl_cons, List.foldl_nil, List.set_cons_zero, List.set_cons_succ, gC, eq_self, or_true, true_or, and_self, Int.natCast_add, Int.natCast_one, Int.natCast_zero]
 rintro i ⟨h1, h2⟩ ih
 by_cases au : i < l.length
 ·have hw := aI ((i : Int) + 1) (by omega)
  have hg := List.getElem?_eq_getElem au
  rw [bW au] at h2
  have aH : decide ((i : Int) < (l.length : Int)) = true := decide_eq_true (by omega)
  refine af.go 100 ?_
  simp only [WO, seval, hg, aH, hw]
  refine aS (fun h => ?_) (fun h => ?_)
  ·have hb : (l[i] == s) = true := by rw [beq_iff_eq]; exact (of_decide_eq_true h).symm
   simp only [WO, seval, h]
   refine af.ret Tryz.func181 rfl (Left.none ?_)
   have e : sM (· == s) (l[i] :: l.drop (i + 1)) (i : Int) = i := by simp [sM, hb]
   rw [h2, e]
   exact ⟨rfl, rfl⟩
  ·have hb : (l[i] == s) = false := by rw [beq_eq_false_iff_ne]; exact fun e => of_decide_eq_false h e.symm
   simp only [WO, seval, h, hw]
   have e : sM (· == s) (l[i] :: l.drop (i + 1)) (i : Int) = sM (· == s) (l.drop (i + 1)) ((i + 1 : Nat) : Int) := by simp [sM, hb]
   refine ih (i + 1) ⟨by omega, by rw [h2, e]⟩ (by omega) _ _ ?_ rfl
   simp only [eK, List.replicate_succ, List.replicate_zero, List.foldl_cons, List.foldl_nil, List.set_cons_zero, List.set_cons_succ, gC, eq_self, or_true, true_or, and_self, Int.natCast_add, Int.natCast_one, Int.natCast_zero]
 ·have aH : decide ((i : Int) < (l.length : Int)) = false := decide_eq_false (by omega)
  refine af.go 100 ?_
  simp only [WO, seval, aH]
  refine af.ret Tryz.func181 rfl (Left.none ?_)
  rw [h2, List.drop_eq_nil_of_le (by omega)]
  exact ⟨rfl, rfl⟩
theorem contains_eq (l : List (List UInt8)) (s : List UInt8) : decide (0 ≤ sM (· == s) l 0) = l.contains s := by
 rw [Ch _ _ _ (Int.le_refl 0), Bool.eq_iff_iff, List.any_eq_true, List.contains_iff_exists_mem_beq]
 constructor <;> rintro ⟨x, hx, h⟩ <;> exact ⟨x, hx, by rw [beq_iff_eq] at h ⊢; exact h.symm⟩
theorem ug (l : List (List UInt8)) (s : List UInt8) (hl : l.length ≤ 9223372036854775807) (S : Mem) : aD Tryz.prog av 161 [.d (.sl (gu l)), .d (.str s)] S (aB (.d (.bool (l.contains s))) S) := by
 refine aD.body Tryz.func161 rfl (by kernel_rfl) ?_
 refine af.go 100 ?_
 simp only [Tryz.f161, WO, seval]
 refine ag (z5 l s hl _) ?_
 rintro _ _ ⟨rfl, rfl⟩
 refine af.go 100 ?_
 simp only [WO, seval, contains_eq]
 refine af.ret Tryz.func161 rfl (Left.none ?_)
 exact ⟨rfl, rfl⟩
def bk {α σ : Type} (f : α → σ → Bool × σ) : List α → Int → σ → Int × σ
 | [], _, s => (-1, s)
 | x :: l, i, s => if (f x s).1 = true then (i, (f x s).2) else bk f l (i + 1) (f x s).2
def lI {α σ : Type} (f : α → σ → Bool × σ) : List α → σ → Bool × σ
 | [], s => (false, s)
 | x :: l, s => if (f x s).1 = true then (true, (f x s).2) else lI f l (f x s).2
theorem jd {α σ : Type} (f : α → σ → Bool × σ) : ∀ (l : List α) (i : Int) (s : σ), 0 ≤ i → decide (0 ≤ (bk f l i s).1) = (lI f l s).1 ∧ (bk f l i s).2 = (lI f l s).2
 | [], i, s, _ => ⟨by simp [bk, lI], rfl⟩
 | x :: l, i, s, hi => by
  unfold bk lI
  cases h : (f x s).1
  ·simpa using jd f l (i + 1) (f x s).2 (by omega)
  ·simpa using hi
def Good (P : Program) (I : Inv) {α σ : Type} (g : FuncId) (first caps : List V) (Ci : α → V) (mem : σ → Mem) (f : α → σ → Bool × σ) : List α → σ → Prop
 | [], _ => True
 | x :: l, s => aD P I g (first ++ [Ci x] ++ caps) (mem s) (aB (.d (.bool (f x s).1)) (mem (f x s).2)) ∧ ((f x s).1 = false → Good P I g first caps Ci mem f l (f x s).2)
set_option maxHeartbeats 1000000 in
theorem vF {σ : Type} (g : FuncId) (first caps : List V) (mem : σ → Mem) (f : az → σ → Bool × σ) (hm : ∀ s s', (mem s).boxes.length = (mem s').boxes.length ∧ (mem s).aL.length = (mem s').aL.length) (l : List az) (hl : l.length ≤ 9223372036854775807) (s0 : σ) (hg : Good Tryz.prog av g first caps aT mem f l s0) :
 aD Tryz.prog av 107 [.d (.sl (l.map ej)), .func g first caps] (mem s0) (aB (.d (.int .i64 (bk f l 0 s0).1)) (mem (bk f l 0 s0).2)) := by
 refine aD.body Tryz.func107 rfl (by kernel_rfl) ?_
 refine af.go 100 ?_
 simp only [Tryz.f107, WO, seval]
 refine af.cJ (fun p : Nat × σ => (eK 19 [(0, .d (.sl (l.map ej))), (1, .func g first caps), (6, .d (.sl (l.map ej))), (7, .d (.int .i64 l.length)), (8, .d (.int .i64 p.1))], mem p.2)) (fun p => p.1 ≤ l.length ∧ bk f l 0 s0 = bk f (l.drop p.1) p.1 p.2 ∧ Good Tryz.prog av g first caps aT mem f (l.drop p.1) p.2) (fun p => l.length - p.1) (0, s0) ⟨by omega, rfl, hg⟩ ?_ rfl ?_
 ·simp only [eK, List.replicate_succ, List.replicate_zero, List.foldl_cons, List.foldl_nil, List.set_cons_zero, List.set_cons_succ, gC, eq_self, or_true, true_or, and_self, Int.natCast_add, Int.natCast_one, Int.natCast_zero]
 rintro ⟨i, s⟩ ⟨h1, h2, h3⟩ ih
 dsimp only at h1 h2 h3 ih ⊢
 by_cases au : i < l.length
 ·have hw := aI ((i : Int) + 1) (by omega)
  have lC := List.getElem?_eq_getElem au
  rw [bW au] at h2 h3
  obtain ⟨h4, h5⟩ := h3
  have aH : decide ((i : Int) < (l.length : Int)) = true := decide_eq_true (by omega)
  refine af.go 100 ?_
  simp only [WO, seval, List.getElem?_map, lC, aH, hw, cO]
  refine aQ h4 ?_
  rintro _ _ ⟨rfl, rfl⟩
  refine af.go 100 ?_
  simp only [WO, seval, hw]
  refine aS (fun h => ?_) (fun h => ?_)
  ·simp only [WO, seval, h]
   refine af.fits fun hf => ?_
   refine af.ret Tryz.func107 rfl (Left.fits hf (hm _ _).1 (hm _ _).2 ?_)
   have e : bk f (l[i] :: l.drop (i + 1)) (i : Int) s = ((i : Int), (f l[i] s).2) := by simp [bk, h]
   rw [h2, e]
   exact ⟨rfl, rfl⟩
  ·simp only [WO, seval, h, hw]
   have e : bk f (l[i] :: l.drop (i + 1)) (i : Int) s = bk f (l.drop (i + 1)) ((i + 1 : Nat) : Int) (f l[i] s).2 := by simp [bk, h]
   refine ih (i + 1, (f l[i] s).2) ⟨au, h2.trans e, h5 h⟩ (by simp only; omega) _ _ ?_ rfl
   simp only [eK, List.replicate_succ, List.replicate_zero, List.foldl_cons, List.foldl_nil, List.set_cons_zero, List.set_cons_succ, gC, eq_self, or_true, true_or, and_self, Int.natCast_add, Int.natCast_one, Int.natCast_zero]
 ·have aH : decide ((i : Int) < (l.length : Int)) = false := decide_eq_false (by omega)
  refine af.go 100 ?_
  simp only [WO, seval, aH]
  refine af.fits fun hf => ?_
  refine af.ret Tryz.func107 rfl (Left.fits hf (hm _ _).1 (hm _ _).2 ?_)
  rw [h2, List.drop_eq_nil_of_le (by omega)]
  exact ⟨rfl, rfl⟩
theorem lg {σ : Type} (g : FuncId) (first caps : List V) (mem : σ → Mem) (f : az → σ → Bool × σ) (hm : ∀ s s', (mem s).boxes.length = (mem s').boxes.length ∧ (mem s).aL.length = (mem s').aL.length) (l : List az) (hl : l.length ≤ 9223372036854775807) (s0 : σ) (hg : Good Tryz.prog av g first caps aT mem f l s0) :
 aD Tryz.prog av 70 [.d (.sl (l.map ej)), .func g first caps] (mem s0) (aB (.d (.bool (lI f l s0).1)) (mem (lI f l s0).2)) := by
 obtain ⟨e1, e2⟩ := jd f l 0 s0 (Int.le_refl 0)
 refine aD.body Tryz.func70 rfl (by kernel_rfl) ?_
 refine af.go 100 ?_
 simp only [Tryz.f70, WO, seval]
 refine ag (vF g first caps mem f hm l hl s0 hg) ?_
 rintro _ _ ⟨rfl, rfl⟩
 refine af.go 100 ?_
 simp only [WO, seval, e1]
 refine af.fits fun hf => ?_
 refine af.ret Tryz.func70 rfl (Left.fits hf (hm _ _).1 (hm _ _).2 ?_)
 rw [e2]
 exact ⟨rfl, rfl⟩
set_option maxHeartbeats 1000000 in
theorem vG {σ : Type} (g : FuncId) (first caps : List V) (mem : σ → Mem) (f : aF → σ → Bool × σ) (hm : ∀ s s', (mem s).boxes.length = (mem s').boxes.length ∧ (mem s).aL.length = (mem s').aL.length) (l : List aF) (hl : l.length ≤ 9223372036854775807) (s0 : σ) (hg : Good Tryz.prog av g first caps zZ mem f l s0) :
 aD Tryz.prog av 162 [.d (.sl (l.map dL)), .func g first caps] (mem s0) (aB (.d (.int .i64 (bk f l 0 s0).1)) (mem (bk f l 0 s0).2)) := by
 refine aD.body Tryz.func162 rfl (by kernel_rfl) ?_
 refine af.go 100 ?_
 simp only [Tryz.f162, WO, seval]
 refine af.cJ (fun p : Nat × σ => (eK 19 [(0, .d (.sl (l.map dL))), (1, .func g first caps), (6, .d (.sl (l.map dL))), (7, .d (.int .i64 l.length)), (8, .d (.int .i64 p.1))], mem p.2)) (fun p => p.1 ≤ l.length ∧ bk f l 0 s0 = bk f (l.drop p.1) p.1 p.2 ∧ Good Tryz.prog av g first caps zZ mem f (l.drop p.1) p.2) (fun p => l.length - p.1) (0, s0) ⟨by omega, rfl, hg⟩ ?_ rfl ?_
 ·simp only [eK, List.replicate_succ, List.replicate_zero, List.foldl_cons, List.foldl_nil, List.set_cons_zero, List.set_cons_succ, gC, eq_self, or_true, true_or, and_self, Int.natCast_add, Int.natCast_one, Int.natCast_zero]
 rintro ⟨i, s⟩ ⟨h1, h2, h3⟩ ih
 dsimp only at h1 h2 h3 ih ⊢
 by_cases au : i < l.length
 ·have hw := aI ((i : Int) + 1) (by omega)
  have lC := List.getElem?_eq_getElem au
  rw [bW au] at h2 h3
  obtain ⟨h4, h5⟩ := h3
  have aH : decide ((i : Int) < (l.length : Int)) = true := decide_eq_true (by omega)
  refine af.go 100 ?_
  simp only [WO, seval, List.getElem?_map, lC, aH, hw, bY]
  refine aQ h4 ?_
  rintro _ _ ⟨rfl, rfl⟩
  refine af.go 100 ?_
  simp only [WO, seval, hw]
  refine aS (fun h => ?_) (fun h => ?_)
  ·simp only [WO, seval, h]
   refine af.fits fun hf => ?_
   refine af.ret Tryz.func162 rfl (Left.fits hf (hm _ _).1 (hm _ _).2 ?_)
   have e : bk f (l[i] :: l.drop (i + 1)) (i : Int) s = ((i : Int), (f l[i] s).2) := by simp [bk, h]
   rw [h2, e]
   exact ⟨rfl, rfl⟩
  ·simp only [WO, seval, h, hw]
   have e : bk f (l[i] :: l.drop (i + 1)) (i : Int) s = bk f (l.drop (i + 1)) ((i + 1 : Nat) : Int) (f l[i] s).2 := by simp [bk, h]
   refine ih (i + 1, (f l[i] s).2) ⟨au, h2.trans e, h5 h⟩ (by simp only; omega) _ _ ?_ rfl
   simp only [eK, List.replicate_succ, List.replicate_zero, List.foldl_cons, List.foldl_nil, List.set_cons_zero, List.set_cons_succ, gC, eq_self, or_true, true_or, and_self, Int.natCast_add, Int.natCast_one, Int.natCast_zero]
 ·have aH : decide ((i : Int) < (l.length : Int)) = false := decide_eq_false (by omega)
  refine af.go 100 ?_
  simp only [WO, seval, aH]
  refine af.fits fun hf => ?_
  refine af.ret Tryz.func162 rfl (Left.fits hf (hm _ _).1 (hm _ _).2 ?_)
  rw [h2, List.drop_eq_nil_of_le (by omega)]
  exact ⟨rfl, rfl⟩
theorem rz {σ : Type} (g : FuncId) (first caps : List V) (mem : σ → Mem) (f : aF → σ → Bool × σ) (hm : ∀ s s', (mem s).boxes.length = (mem s').boxes.length ∧ (mem s).aL.length = (mem s').aL.length) (l : List aF) (hl : l.length ≤ 9223372036854775807) (s0 : σ) (hg : Good Tryz.prog av g first caps zZ mem f l s0) :
 aD Tryz.prog av 130 [.d (.sl (l.map dL)), .func g first caps] (mem s0) (aB (.d (.bool (lI f l s0).1)) (mem (lI f l s0).2)) := by
 obtain ⟨e1, e2⟩ := jd f l 0 s0 (Int.le_refl 0)
 refine aD.body Tryz.func130 rfl (by kernel_rfl) ?_
 refine af.go 100 ?_
 simp only [Tryz.f130, WO, seval]
 refine ag (vG g first caps mem f hm l hl s0 hg) ?_
 rintro _ _ ⟨rfl, rfl⟩
 refine af.go 100 ?_
 simp only [WO, seval, e1]
 refine af.fits fun hf => ?_
 refine af.ret Tryz.func130 rfl (Left.fits hf (hm _ _).1 (hm _ _).2 ?_)
 rw [e2]
 exact ⟨rfl, rfl⟩
set_option maxHeartbeats 1000000 in
theorem vH {σ : Type} (g : FuncId) (first caps : List V) (mem : σ → Mem) (f : cQ → σ → Bool × σ) (hm : ∀ s s', (mem s).boxes.length = (mem s').boxes.length ∧ (mem s).aL.length = (mem s').aL.length) (l : List cQ) (hl : l.length ≤ 9223372036854775807) (s0 : σ) (hg : Good Tryz.prog av g first caps Gc mem f l s0) :
 aD Tryz.prog av 114 [.d (.sl (l.map jJ)), .func g first caps] (mem s0) (aB (.d (.int .i64 (bk f l 0 s0).1)) (mem (bk f l 0 s0).2)) := by
 refine aD.body Tryz.func114 rfl (by kernel_rfl) ?_
 refine af.go 100 ?_
 simp only [Tryz.f114, WO, seval]
 refine af.cJ (fun p : Nat × σ => (eK 19 [(0, .d (.sl (l.map jJ))), (1, .func g first caps), (6, .d (.sl (l.map jJ))), (7, .d (.int .i64 l.length)), (8, .d (.int .i64 p.1))], mem p.2)) (fun p => p.1 ≤ l.length ∧ bk f l 0 s0 = bk f (l.drop p.1) p.1 p.2 ∧ Good Tryz.prog av g first caps Gc mem f (l.drop p.1) p.2) (fun p => l.length - p.1) (0, s0) ⟨by omega, rfl, hg⟩ ?_ rfl ?_
 ·simp only [eK, List.replicate_succ, List.replicate_zero, List.foldl_cons, List.foldl_nil, List.set_cons_zero, List.set_cons_succ, gC, eq_self, or_true, true_or, and_self, Int.natCast_add, Int.natCast_one, Int.natCast_zero]
 rintro ⟨i, s⟩ ⟨h1, h2, h3⟩ ih
 dsimp only at h1 h2 h3 ih ⊢
 by_cases au : i < l.length
 ·have hw := aI ((i : Int) + 1) (by omega)
  have lC := List.getElem?_eq_getElem au
  rw [bW au] at h2 h3
  obtain ⟨h4, h5⟩ := h3
  have aH : decide ((i : Int) < (l.length : Int)) = true := decide_eq_true (by omega)
  refine af.go 100 ?_
  simp only [WO, seval, List.getElem?_map, lC, aH, hw, gr]
  refine aQ h4 ?_
  rintro _ _ ⟨rfl, rfl⟩
  refine af.go 100 ?_
  simp only [WO, seval, hw]
  refine aS (fun h => ?_) (fun h => ?_)
  ·simp only [WO, seval, h]
   refine af.fits fun hf => ?_
   refine af.ret Tryz.func114 rfl (Left.fits hf (hm _ _).1 (hm _ _).2 ?_)
   have e : bk f (l[i] :: l.drop (i + 1)) (i : Int) s = ((i : Int), (f l[i] s).2) := by simp [bk, h]
   rw [h2, e]
   exact ⟨rfl, rfl⟩
  ·simp only [WO, seval, h, hw]
   have e : bk f (l[i] :: l.drop (i + 1)) (i : Int) s = bk f (l.drop (i + 1)) ((i + 1 : Nat) : Int) (f l[i] s).2 := by simp [bk, h]
   refine ih (i + 1, (f l[i] s).2) ⟨au, h2.trans e, h5 h⟩ (by simp only; omega) _ _ ?_ rfl
   simp only [eK, List.replicate_succ, List.replicate_zero, List.foldl_cons, List.foldl_nil, List.set_cons_zero, List.set_cons_succ, gC, eq_self, or_true, true_or, and_self, Int.natCast_add, Int.natCast_one, Int.natCast_zero]
 ·have aH : decide ((i : Int) < (l.length : Int)) = false := decide_eq_false (by omega)
  refine af.go 100 ?_
  simp only [WO, seval, aH]
  refine af.fits fun hf => ?_
  refine af.ret Tryz.func114 rfl (Left.fits hf (hm _ _).1 (hm _ _).2 ?_)
  rw [h2, List.drop_eq_nil_of_le (by omega)]
  exact ⟨rfl, rfl⟩
theorem rA {σ : Type} (g : FuncId) (first caps : List V) (mem : σ → Mem) (f : cQ → σ → Bool × σ) (hm : ∀ s s', (mem s).boxes.length = (mem s').boxes.length ∧ (mem s).aL.length = (mem s').aL.length) (l : List cQ) (hl : l.length ≤ 9223372036854775807) (s0 : σ) (hg : Good Tryz.prog av g first caps Gc mem f l s0) :
 aD Tryz.prog av 76 [.d (.sl (l.map jJ)), .func g first caps] (mem s0) (aB (.d (.bool (lI f l s0).1)) (mem (lI f l s0).2)) := by
 obtain ⟨e1, e2⟩ := jd f l 0 s0 (Int.le_refl 0)
 refine aD.body Tryz.func76 rfl (by kernel_rfl) ?_
 refine af.go 100 ?_
 simp only [Tryz.f76, WO, seval]
 refine ag (vH g first caps mem f hm l hl s0 hg) ?_
 rintro _ _ ⟨rfl, rfl⟩
 refine af.go 100 ?_
 simp only [WO, seval, e1]
 refine af.fits fun hf => ?_
 refine af.ret Tryz.func76 rfl (Left.fits hf (hm _ _).1 (hm _ _).2 ?_)
 rw [e2]
 exact ⟨rfl, rfl⟩
set_option maxHeartbeats 1000000 in
theorem vI {σ : Type} (g : FuncId) (first caps : List V) (mem : σ → Mem) (f : aj → σ → Bool × σ) (hm : ∀ s s', (mem s).boxes.length = (mem s').boxes.length ∧ (mem s).aL.length = (mem s').aL.length) (l : List aj) (hl : l.length ≤ 9223372036854775807) (s0 : σ) (hg : Good Tryz.prog av g first caps ry mem f l s0) :
 aD Tryz.prog av 199 [.d (.sl (l.map eH)), .func g first caps] (mem s0) (aB (.d (.int .i64 (bk f l 0 s0).1)) (mem (bk f l 0 s0).2)) := by
 refine aD.body Tryz.func199 rfl (by kernel_rfl) ?_
 refine af.go 100 ?_
 simp only [Tryz.f199, WO, seval]
 refine af.cJ (fun p : Nat × σ => (eK 19 [(0, .d (.sl (l.map eH))), (1, .func g first caps), (6, .d (.sl (l.map eH))), (7, .d (.int .i64 l.length)), (8, .d (.int .i64 p.1))], mem p.2)) (fun p => p.1 ≤ l.length ∧ bk f l 0 s0 = bk f (l.drop p.1) p.1 p.2 ∧ Good Tryz.prog av g first caps ry mem f (l.drop p.1) p.2) (fun p => l.length - p.1) (0, s0) ⟨by omega, rfl, hg⟩ ?_ rfl ?_
 ·simp only [eK, List.replicate_succ, List.replicate_zero, List.foldl_cons, List.foldl_nil, List.set_cons_zero, List.set_cons_succ, gC, eq_self, or_true, true_or, and_self, Int.natCast_add, Int.natCast_one, Int.natCast_zero]
 rintro ⟨i, s⟩ ⟨h1, h2, h3⟩ ih
 dsimp only at h1 h2 h3 ih ⊢
 by_cases au : i < l.length
 ·have hw := aI ((i : Int) + 1) (by omega)
  have lC := List.getElem?_eq_getElem au
  rw [bW au] at h2 h3
  obtain ⟨h4, h5⟩ := h3
  have aH : decide ((i : Int) < (l.length : Int)) = true := decide_eq_true (by omega)
  refine af.go 100 ?_
  simp only [WO, seval, List.getElem?_map, lC, aH, hw, cP]
  refine aQ h4 ?_
  rintro _ _ ⟨rfl, rfl⟩
  refine af.go 100 ?_
  simp only [WO, seval, hw]
  refine aS (fun h => ?_) (fun h => ?_)
  ·simp only [WO, seval, h]
   refine af.fits fun hf => ?_
   refine af.ret Tryz.func199 rfl (Left.fits hf (hm _ _).1 (hm _ _).2 ?_)
   have e : bk f (l[i] :: l.drop (i + 1)) (i : Int) s = ((i : Int), (f l[i] s).2) := by simp [bk, h]
   rw [h2, e]
   exact ⟨rfl, rfl⟩
  ·simp only [WO, seval, h, hw]
   have e : bk f (l[i] :: l.drop (i + 1)) (i : Int) s = bk f (l.drop (i + 1)) ((i + 1 : Nat) : Int) (f l[i] s).2 := by simp [bk, h]
   refine ih (i + 1, (f l[i] s).2) ⟨au, h2.trans e, h5 h⟩ (by simp only; omega) _ _ ?_ rfl
   simp only [eK, List.replicate_succ, List.replicate_zero, List.foldl_cons, List.foldl_nil, List.set_cons_zero, List.set_cons_succ, gC, eq_self, or_true, true_or, and_self, Int.natCast_add, Int.natCast_one, Int.natCast_zero]
 ·have aH : decide ((i : Int) < (l.length : Int)) = false := decide_eq_false (by omega)
  refine af.go 100 ?_
  simp only [WO, seval, aH]
  refine af.fits fun hf => ?_
  refine af.ret Tryz.func199 rfl (Left.fits hf (hm _ _).1 (hm _ _).2 ?_)
  rw [h2, List.drop_eq_nil_of_le (by omega)]
  exact ⟨rfl, rfl⟩
theorem iB {σ : Type} (g : FuncId) (first caps : List V) (mem : σ → Mem) (f : aj → σ → Bool × σ) (hm : ∀ s s', (mem s).boxes.length = (mem s').boxes.length ∧ (mem s).aL.length = (mem s').aL.length) (l : List aj) (hl : l.length ≤ 9223372036854775807) (s0 : σ) (hg : Good Tryz.prog av g first caps ry mem f l s0) :
 aD Tryz.prog av 182 [.d (.sl (l.map eH)), .func g first caps] (mem s0) (aB (.d (.bool (lI f l s0).1)) (mem (lI f l s0).2)) := by
 obtain ⟨e1, e2⟩ := jd f l 0 s0 (Int.le_refl 0)
 refine aD.body Tryz.func182 rfl (by kernel_rfl) ?_
 refine af.go 100 ?_
 simp only [Tryz.f182, WO, seval]
 refine ag (vI g first caps mem f hm l hl s0 hg) ?_
 rintro _ _ ⟨rfl, rfl⟩
 refine af.go 100 ?_
 simp only [WO, seval, e1]
 refine af.fits fun hf => ?_
 refine af.ret Tryz.func182 rfl (Left.fits hf (hm _ _).1 (hm _ _).2 ?_)
 rw [e2]
 exact ⟨rfl, rfl⟩
set_option maxHeartbeats 1000000 in
theorem N9 (k : Int) (B : List (List V)) (T : List (Nat × Nat)) : aD Tryz.prog av 201 [.d (.int .i64 k)] ⟨B, T⟩ (aB (.d (.int .i64 (eW k))) ⟨B, T⟩) := by
 refine aD.body Tryz.func201 rfl (by kernel_rfl) ?_
 refine af.go 300 ?_
 simp only [Tryz.f201, WO, seval]
 repeat' ((first | refine aZ (fun h => ?_) (fun h => ?_) | refine aS (fun h => ?_) (fun h => ?_)) <;> simp only [WO, seval, h])
 all_goals
  refine af.ret Tryz.func201 rfl (Left.none ?_)
  first
   | (obtain rfl := of_decide_eq_true h
      exact ⟨rfl, rfl⟩)
   | (simp only [decide_eq_false_iff_not] at *
      refine ⟨?_, rfl⟩
      have : eW k = -2 := by simp [eW, *]
      rw [this]
      rfl)
theorem Oa (s : List UInt8) (h : ∀ x ∈ vB, ¬ s = x.1) : jO s = 0 := by
 unfold jO
 rw [List.find?_eq_none.2 fun x hx => by simpa using fun e => h x hx e.symm]
 rfl
set_option maxHeartbeats 2000000 in
theorem Ob (s : List UInt8) (B : List (List V)) (T : List (Nat × Nat)) : aD Tryz.prog av 206 [.d (.str s)] ⟨B, T⟩ (aB (.d (.int .i64 (jO s))) ⟨B, T⟩) := by
 refine aD.body Tryz.func206 rfl (by kernel_rfl) ?_
 refine af.go 400 ?_
 simp only [Tryz.f206, WO, seval]
 repeat' ((first | refine aZ (fun h => ?_) (fun h => ?_) | refine aS (fun h => ?_) (fun h => ?_)) <;> simp only [WO, seval, h])
 all_goals
  refine af.ret Tryz.func206 rfl (Left.none ?_)
  first
   | (obtain rfl := of_decide_eq_true h
      exact ⟨rfl, rfl⟩)
   | (simp only [decide_eq_false_iff_not] at *
      refine ⟨?_, rfl⟩
      have : jO s = 0 := Oa s (by simp [vB, *])
      rw [this]
      rfl)
theorem vJ (n : Nat) (l : List (List UInt8)) (h : n < l.length) : gk (n + 1) l = (gk n l && ak l[n] && !(l.take n).contains l[n]) := by
 have : l.getD n [] = l[n] := by simp [List.getD, h]
 simp only [gk, this, Rr]
set_option maxHeartbeats 1000000 in
theorem rB (l : List (List UInt8)) (hl : l.length ≤ 9223372036854775807) (B : List (List V)) (T : List (Nat × Nat)) : aD Tryz.prog av 129 [.d (.sl (gu l))] ⟨B, T⟩ (aB (.d (.bool (gk l.length l))) ⟨B, T⟩) := by
 refine aD.body Tryz.func129 rfl (by kernel_rfl) ?_
 refine af.go 100 ?_
 simp only [Tryz.f129, WO, seval]
 refine af.cJ (fun i : Nat => (eK 23 [(0, .d (.sl (gu l))), (5, .d (.sl (gu l))), (6, .d (.int .i64 l.length)), (7, .d (.int .i64 i))], ⟨B, T⟩)) (fun i => i ≤ l.length ∧ gk i l = true) (fun i => l.length - i) 0 ⟨by omega, rfl⟩ ?_ rfl ?_
 ·simp only [eK, List.replicate_succ, List.replicate_zero, List.foldl_cons, List.foldl_nil, List.set_cons_zero, List.set_cons_succ, gC, eq_self, or_true, true_or, and_self, Int.natCast_add, Int.natCast_one, Int.natCast_zero]
 rintro i ⟨h1, h2⟩ ih
 by_cases au : i < l.length
 ·have hw := aI ((i : Int) + 1) (by omega)
  have hg := List.getElem?_eq_getElem au
  have hs := vJ i l au
  rw [h2, Bool.true_and] at hs
  have hle : (i : Int) ≤ (l.length : Int) := by omega
  have aH : decide ((i : Int) < (l.length : Int)) = true := decide_eq_true (by omega)
  refine af.go 100 ?_
  simp only [WO, seval, hg, aH, hw]
  refine ag (kC _ _) ?_
  rintro _ _ ⟨rfl, rfl⟩
  refine af.go 100 ?_
  simp only [WO, seval, hw]
  cases hI : ak l[i]
  ·simp only [WO, seval, hI, Bool.not_false]
   refine af.ret Tryz.func129 rfl (Left.none ?_)
   have : gk l.length l = false := B8 l (i + 1) (by rw [hs, hI]; rfl) _ (by omega)
   rw [this]
   exact ⟨rfl, rfl⟩
  ·simp only [WO, seval, hI, Bool.not_true, hle]
   refine ag (ug _ _ (by simp; omega) _) ?_
   rintro _ _ ⟨rfl, rfl⟩
   refine af.go 100 ?_
   simp only [WO, seval, hw]
   refine aS (fun h => ?_) (fun h => ?_)
   ·simp only [WO, seval, h]
    refine af.ret Tryz.func129 rfl (Left.none ?_)
    have : gk l.length l = false := B8 l (i + 1) (by rw [hs, hI, h]; rfl) _ (by omega)
    rw [this]
    exact ⟨rfl, rfl⟩
   ·simp only [WO, seval, h, hw]
    refine ih (i + 1) ⟨au, by rw [hs, hI, h]; rfl⟩ (by omega) _ _ ?_ rfl
    simp only [eK, List.replicate_succ, List.replicate_zero, List.foldl_cons, List.foldl_nil, List.set_cons_zero, List.set_cons_succ, gC, eq_self, or_true, true_or, and_self, Int.natCast_add, Int.natCast_one, Int.natCast_zero]
 ·have aH : decide ((i : Int) < (l.length : Int)) = false := decide_eq_false (by omega)
  refine af.go 100 ?_
  simp only [WO, seval, aH]
  refine af.ret Tryz.func129 rfl (Left.none ?_)
  obtain rfl : i = l.length := by omega
  rw [h2]
  exact ⟨rfl, rfl⟩
theorem lp {P : Program} {I : Inv} {α : Type} {g : FuncId} {first caps : List V} {Ci : α → V} {S : Mem} {f : α → Bool} : ∀ (l : List α), (∀ x ∈ l, aD P I g (first ++ [Ci x] ++ caps) S (aB (.d (.bool (f x))) S)) → Good P I g first caps Ci (fun _ : Unit => S) (fun x s => (f x, s)) l ()
 | [], _ => trivial
 | x :: l, h => ⟨h x List.mem_cons_self, fun _ => lp l fun y hy => h y (List.mem_cons_of_mem _ hy)⟩
theorem je {α : Type} (f : α → Bool) : ∀ l : List α, (lI (fun x (s : Unit) => (f x, s)) l ()).1 = l.any f
 | [] => rfl
 | x :: l => by
  unfold lI
  cases h : f x
  ·simp [h, je f l]
  ·simp [h]
theorem vK : ∀ l : List aj, vE l = l.all iQ
 | [] => by rw [vE]; rfl
 | x :: l => by rw [vE, vK l]; rfl
theorem z6 {α : Type} (f : α → Bool) (l : List α) : l.any (fun x => !f x) = !l.all f := by
 induction l with
 | nil => rfl
 | cons x l ih => simp [ih, Bool.not_and]
def vL (x : aj) : Prop := ∀ (B : List (List V)) (T : List (Nat × Nat)), aD Tryz.prog av 185 [ry x] ⟨B, T⟩ (aB (.d (.bool (iQ x))) ⟨B, T⟩)
set_option maxHeartbeats 1000000 in
theorem Ld (x : aj) (h : vL x) (B : List (List V)) (T : List (Nat × Nat)) : aD Tryz.prog av 200 [ry x] ⟨B, T⟩ (aB (.d (.bool (!iQ x))) ⟨B, T⟩) := by
 obtain ⟨N, hn⟩ : ∃ N, B.length = N := ⟨_, rfl⟩
 have h := h (B ++ [[.d (.int .i64 x.kind), .d (.str x.text), .d (.int .u64 x.int), .d (.int .i64 x.type.kind), .d (.str x.type.name), .d (.sl (x.type.elem.map ej)), .d (.sl (gu x.names)), .d (.sl (x.kids.map eH))]]) T
 unfold ry at h ⊢
 refine aD.body Tryz.func200 rfl (by kernel_rfl) ?_
 refine af.go 100 ?_
 simp only [Tryz.f200, WO, seval, hn]
 refine ag (h) ?_
 rintro _ _ ⟨rfl, rfl⟩
 refine af.go 100 ?_
 simp only [WO, seval, hn]
 refine af.ret Tryz.func200 rfl (Left.box ?_)
 exact ⟨rfl, rfl⟩
set_option maxHeartbeats 2000000 in
theorem Iy (k : Int) (t : List UInt8) (i : Int) (ty : az) (ns : List (List UInt8)) (ks : List aj) (hx : ∀ x ∈ ks, vL x) : vL (.mk k t i ty ns ks) := by
 intro B T
 obtain ⟨N, hn⟩ : ∃ N, B.length = N := ⟨_, rfl⟩
 have hS : iQ (.mk k t i ty ns ks) = (decide (k ≠ 14) && decide (k ≠ 15) && ks.all iQ) := by rw [iQ, vK]
 simp only [ry, aj.kind, aj.text, aj.int, aj.type, aj.names, aj.kids]
 refine aD.FM Tryz.func185 rfl (by kernel_rfl) fun bh => ?_
 simp only [Bo, sm, ry, zZ, aT, Gc, AS, xC, xD, l7, Bool.and_eq_true, decide_eq_true_eq, and_true, true_and, List.length_map, fZ] at bh
 refine af.go 100 ?_
 simp only [Tryz.f185, WO, seval, hn]
 obtain ⟨-, -, -, -, hl⟩ := bh
 repeat' ((first | refine aZ (fun h => ?_) (fun h => ?_) | refine aS (fun h => ?_) (fun h => ?_)) <;> simp only [WO, seval, h, hn])
 all_goals first
  | (refine af.ret Tryz.func185 rfl (Left.box ?_)
     rw [hS]
     (try clear ih)
     (try simp only [jc] at *)
     simp only [jb, seval, aB] <;> simp [*]
     skip)
  | (refine ag (iB 200 [] [] (fun _ : Unit => _) (fun x s => (!iQ x, s)) (fun _ _ => ⟨rfl, rfl⟩) ks hl () (lp ks fun x hm => Ld x (hx x hm) _ T)) ?_
     rintro _ _ ⟨rfl, rfl⟩
     rw [je, z6]
     refine af.go 100 ?_
     simp only [WO, seval, hn]
     refine af.ret Tryz.func185 rfl (Left.box ?_)
     rw [hS]
     (try clear ih)
     (try simp only [jc] at *)
     simp only [jb, seval, aB] <;> simp [*]
     skip)
mutual
theorem Gf : ∀ x : aj, vL x
 | .mk k t i ty ns ks => Iy k t i ty ns ks (Cj ks)
theorem Cj : ∀ (ks : List aj), ∀ x ∈ ks, vL x
 | [], _, h => absurd h List.not_mem_nil
 | y :: l, x, h => by
  rcases List.mem_cons.1 h with e | e
  ·rw [e]; exact Gf y
  ·exact Cj l x e
end
def exB (x : aj) : List V := [.d (.int .i64 x.kind), .d (.str x.text), .d (.int .u64 x.int), .d (.int .i64 x.type.kind), .d (.str x.type.name), .d (.sl (x.type.elem.map ej)), .d (.sl (gu x.names)), .d (.sl (x.kids.map eH))]
theorem j8 (k : Int) (t : List UInt8) (i : Int) (ty : az) (ns : List (List UInt8)) (ks : List aj) : dP (.mk k t i ty ns ks) = match ks with | [y] => if k = 9 then dP y else decide (k = 1) | _ => decide (k = 1) := by
 rcases ks with _ | ⟨z, _ | ⟨z2, l⟩⟩ <;> simp [dP]
set_option maxHeartbeats 2000000 in
theorem Le (x : aj) (B : List (List V)) (T : List (Nat × Nat)) : aD Tryz.prog av 184 [ry x] ⟨B, T⟩ (aB (.d (.bool (dP x))) ⟨B, T⟩) := by
 obtain ⟨N, hn⟩ : ∃ N, B.length = N := ⟨_, rfl⟩
 unfold ry
 refine aD.body Tryz.func184 rfl (by kernel_rfl) ?_
 refine af.go 100 ?_
 simp only [Tryz.f184, WO, seval, hn]
 refine af.cJ (fun y : aj => (eK 19 [(1, .ptr N 0)], ⟨B ++ [exB y], T⟩)) (fun y => dP y = dP x) (fun y => SizeOf.sizeOf y) x rfl ?_ rfl ?_
 ·simp only [eK, List.replicate_succ, List.replicate_zero, List.foldl_cons, List.foldl_nil, List.set_cons_zero, List.set_cons_succ, gC, eq_self, or_true, true_or, and_self, Int.natCast_add, Int.natCast_one, Int.natCast_zero]
 rintro y hy ih
 cases y with
 | mk k t i ty ns ks =>
 have hp := j8 k t i ty ns ks
 dsimp only [exB] at ih ⊢
 dsimp only [aj.kind, aj.text, aj.int, aj.type, aj.names, aj.kids] at ⊢
 rw [hp] at hy
 rcases ks with _ | ⟨z, _ | ⟨z2, l⟩⟩
 ·dsimp only at hy
  refine af.go 100 ?_
  simp only [WO, seval, hn, cP]
  repeat' ((first | refine aZ (fun h => ?_) (fun h => ?_) | refine aS (fun h => ?_) (fun h => ?_)) <;> simp only [WO, seval, h, hn, cP])
  all_goals
   refine af.ret Tryz.func184 rfl (Left.box ?_)
   rw [← hy]
   (try clear ih)
   (try simp only [jc] at *)
   simp only [jb, seval, aB] <;> simp [*]
   skip
 ·dsimp only at hy
  refine af.go 100 ?_
  simp only [WO, seval, hn, cP]
  repeat' ((first | refine aZ (fun h => ?_) (fun h => ?_) | refine aS (fun h => ?_) (fun h => ?_)) <;> simp only [WO, seval, h, hn, cP])
  all_goals first
   | (refine af.ret Tryz.func184 rfl (Left.box ?_)
      rw [← hy]
      (try clear ih)
      (try simp only [jc] at *)
      simp only [jb, seval, aB] <;> simp [*]
      skip)
   | (refine ih z ?_ (by simp only [aj.mk.sizeOf_spec, List.cons.sizeOf_spec]; omega) _ _ ?_ ?_
      ·rw [← hy, if_pos (of_decide_eq_true (by assumption))]
      ·skip
       simp only [eK, List.replicate_succ, List.replicate_zero, List.foldl_cons, List.foldl_nil, List.set_cons_zero, List.set_cons_succ, gC, eq_self, or_true, true_or, and_self, Int.natCast_add, Int.natCast_one, Int.natCast_zero]
       skip
      ·rfl)
 ·have ic : decide ((l.length : Int) + 1 + 1 = 1) = false := decide_eq_false (by omega)
  dsimp only at hy
  refine af.go 100 ?_
  simp only [WO, seval, hn, cP, ic]
  repeat' ((first | refine aZ (fun h => ?_) (fun h => ?_) | refine aS (fun h => ?_) (fun h => ?_)) <;> simp only [WO, seval, h, hn, cP, ic])
  all_goals
   refine af.ret Tryz.func184 rfl (Left.box ?_)
   rw [← hy]
   (try clear ih)
   (try simp only [jc] at *)
   simp only [jb, seval, aB] <;> simp [*]
   skip
def UC := by
 have c := aN Tryz.f183 (by conv => lhs; cbv)
 dsimp only [KK, fj, eR, eS, List.map_cons, List.map_nil, List.toList_toArray] at c
 exact c
theorem X7 : bK Tryz.prog 183 Tryz.f183 6 := ⟨Tryz.func183, by kernel_rfl⟩
def jK := by
 have c := aN Tryz.f163 (by conv => lhs; cbv)
 dsimp only [KK, fj, eR, eS, List.map_cons, List.map_nil, List.toList_toArray] at c
 exact c
theorem X8 : bK Tryz.prog 163 Tryz.f163 149 := ⟨Tryz.func163, by kernel_rfl⟩
set_option maxHeartbeats 1000000 in
theorem yt (x : aj) (B : List (List V)) (T : List (Nat × Nat)) : aD Tryz.prog av 183 [ry x] ⟨B, T⟩ (aB (.d (.bool (!dP x))) ⟨B, T⟩) := by
 obtain ⟨N, hn⟩ : ∃ N, B.length = N := ⟨_, rfl⟩
 have h := Le x (B ++ [[.d (.int .i64 x.kind), .d (.str x.text), .d (.int .u64 x.int), .d (.int .i64 x.type.kind), .d (.str x.type.name), .d (.sl (x.type.elem.map ej)), .d (.sl (gu x.names)), .d (.sl (x.kids.map eH))]]) T
 unfold ry at h ⊢
 refine X7.go 100 rfl fun _ => ?_
 simp only [W, seval, UC, hn]
 refine ag (h) ?_
 rintro _ _ ⟨rfl, rfl⟩
 refine af.go 100 ?_
 simp only [W, seval, UC, hn]
 refine af.ret Tryz.func183 rfl (Left.box ?_)
 (try clear ih)
 (try simp only [jc] at *)
 simp only [jb, seval, aB] <;> simp [*]
 skip
def wW (s : aF) : List V := [.d (.int .i64 s.kind), .d (.sl (gu s.names)), .d (.int .i64 s.type.kind), .d (.str s.type.name), .d (.sl (s.type.elem.map ej)), .d (.sl (s.aG.map eH)), .d (.sl (s.exprs.map eH)), .d (.sl (s.body.map dL)), .d (.sl (s.dO.map dL)), .d (.sl (s.cases.map jJ))]
def gM : List aj → Bool | [x] => iQ x | _ => false
def z7 : List aj → Bool | [x] => decide (x.kind = 7) | _ => false
def nameOf : List (List UInt8) → Bool | [x] => ak x | _ => false
def sizedB (k : Int) (ns : List (List UInt8)) (ls es : List aj) (b3 b4 b5 b6 b7 b8 : Bool) : Bool :=
 if k = 1 then decide (es.length = 0) && nameOf ns && !b5 && !b6 && !b7 && !b8
 else if k = 2 then decide (0 < ls.length) && (decide (es.length = ls.length) || z7 es) && ls.all dP && (!b3 && !b4) && !b6 && !b7 && !b8
 else if k = 3 then (!b3 && !b4) && !b5 && gM es && !b8
 else if k = 4 then (!b3 && !b4) && !b5 && gM es && !b7 && !b8
 else if k = 5 then (!b3 && !b4) && !b5 && gM es && !b6
 else if k = 6 then (!b3 && !b4) && !b5 && decide (0 < es.length) && !b6 && !b7 && !b8
 else false
theorem Iz (s : aF) : iz s = sizedB s.kind s.names s.aG s.exprs (decide ((0 : Int) < (s.names.length : Int))) (!fm s.type) (decide ((0 : Int) < (s.aG.length : Int))) (decide ((0 : Int) < (s.body.length : Int))) (decide ((0 : Int) < (s.dO.length : Int))) (decide ((0 : Int) < (s.cases.length : Int))) := by
 have e (n : Nat) : (!decide ((0 : Int) < (n : Int))) = decide (n = 0) := by
  rw [Bool.eq_iff_iff, Bool.not_eq_true', decide_eq_false_iff_not, decide_eq_true_iff]; omega
 have e2 {α : Type} (l : List α) (q : Decidable (l = [])) : decide (l.length = 0) = @decide (l = []) q := decide_eq_decide.2 List.length_eq_zero_iff
 unfold iz sizedB
 simp only [e, Bool.not_not]
 rw [e2 s.names, e2 s.aG]
 rfl
def lq (k : Int) (es : List aj) (b3 b4 b5 b6 b7 b8 b9 : Bool) : Bool :=
 (if k = 3 ∨ k = 4 ∨ k = 5 then b9 && gM es else b9) && !b3 && !b4 && !b5 && !b6 && !b7 && !b8
set_option maxHeartbeats 4000000 in
theorem Lf (s : aF) (B : List (List V)) (T : List (Nat × Nat)) : aD Tryz.prog av 163 [zZ s] ⟨B, T⟩ (aB (.d (.bool (iz s))) ⟨B, T⟩) := by
 obtain ⟨N, hn⟩ : ∃ N, B.length = N := ⟨_, rfl⟩
 have hs := Iz s
 unfold zZ
 refine X8.go 100 rfl fun bh => ?_
 simp only [eI] at bh
 simp only [W, seval, jK, hn]
 obtain ⟨-, -, -, SJ, -⟩ := bh
 refine af.draw (by kernel_rfl) (by kernel_rfl) (oO 60 _ _ ?_)
 simp only [W, seval, jK, hn]
 refine ⟨_, Gd s.type _ _, ?_⟩
 simp only [W, seval, jK, hn]
 generalize decide ((0 : Int) < (s.names.length : Int)) = b3 at hs ⊢
 generalize (!fm s.type) = b4 at hs ⊢
 generalize vA : decide ((0 : Int) < (s.aG.length : Int)) = b5 at hs ⊢
 generalize decide ((0 : Int) < (s.body.length : Int)) = b6 at hs ⊢
 generalize decide ((0 : Int) < (s.dO.length : Int)) = b7 at hs ⊢
 generalize decide ((0 : Int) < (s.cases.length : Int)) = b8 at hs ⊢
 generalize iz s = res at hs ⊢
 refine af.go 9 ?_
 simp only [W, seval, jK, hn]
 refine af.join (fun c : Bool × Bool × Bool × Bool × Bool × Bool × Bool => (bu 149 [(1, .ptr N 0), (3, .d (.bool c.1)), (4, .d (.bool c.2.1)), (5, .d (.bool c.2.2.1)), (6, .d (.bool c.2.2.2.1)), (7, .d (.bool c.2.2.2.2.1)), (8, .d (.bool c.2.2.2.2.2.1)), (9, .d (.bool c.2.2.2.2.2.2))], ⟨B ++ [wW s], T⟩)) (fun c => (s.kind = 3 ∨ s.kind = 4 ∨ s.kind = 5 → c.2.2.2.2.2.2 = decide (s.exprs.length = 1)) ∧ lq s.kind s.exprs c.1 c.2.1 c.2.2.1 c.2.2.2.1 c.2.2.2.2.1 c.2.2.2.2.2.1 c.2.2.2.2.2.2 = res) ?_ ?_
 ·rintro ⟨c3, c4, c5, c6, c7, c8, c9⟩ ⟨hc, hr⟩
  dsimp only [wW] at hc hr ⊢
  rw [← hr]
  clear hs hr
  have vk : (s.kind = 3 ∨ s.kind = 4 ∨ s.kind = 5) → (∃ x, s.exprs[0]? = some x ∧ c9 = true ∧ gM s.exprs = iQ x) ∨ c9 = false := by
   intro h
   rw [hc h]
   rcases s.exprs with _ | ⟨x, _ | ⟨y, l⟩⟩
   ·exact .inr rfl
   ·exact .inl ⟨x, rfl, rfl, rfl⟩
   ·exact .inr (decide_eq_false (by simp))
  clear hc
  by_cases Ck : s.kind = 3 ∨ s.kind = 4 ∨ s.kind = 5
  ·have hl : lq s.kind s.exprs c3 c4 c5 c6 c7 c8 c9 = ((c9 && gM s.exprs) && !c3 && !c4 && !c5 && !c6 && !c7 && !c8) := by rw [lq, if_pos Ck]
   rw [hl]
   rcases vk Ck with ⟨x, hg, rfl, hh⟩ | rfl
   ·rw [hh]
    have hd := Gf x
    rcases Ck with k | k | k
    all_goals
     refine af.go 200 ?_
     simp only [W, seval, jK, hn, k]
     simp only [W, seval, jK, hg, List.getElem?_map, cP, k]
     refine ag (hd _ _) ?_
     rintro _ _ ⟨rfl, rfl⟩
     generalize iQ x = q
     refine af.go 200 ?_
     simp only [W, seval, jK, hn, k]
     repeat' ((first | refine aZ (fun h => ?_) (fun h => ?_) | refine aS (fun h => ?_) (fun h => ?_)) <;> simp only [W, seval, jK, h, hn, k])
     all_goals
      refine af.ret Tryz.func163 rfl (Left.box ?_)
      (try clear ih)
      (try simp only [jc] at *)
      simp only [jb, seval, aB] <;> simp [*]
      skip
   ·rcases Ck with k | k | k
    all_goals
     refine af.go 200 ?_
     simp only [W, seval, jK, hn, k]
     refine af.ret Tryz.func163 rfl (Left.box ?_)
     (try clear ih)
     (try simp only [jc] at *)
     simp only [jb, seval, aB] <;> simp [*]
     skip
  ·have hl : lq s.kind s.exprs c3 c4 c5 c6 c7 c8 c9 = (c9 && !c3 && !c4 && !c5 && !c6 && !c7 && !c8) := by rw [lq, if_neg Ck]
   rw [hl]
   have k3 : decide (s.kind = 3) = false := decide_eq_false fun h => Ck (.inl h)
   have k4 : decide (s.kind = 4) = false := decide_eq_false fun h => Ck (.inr (.inl h))
   have k5 : decide (s.kind = 5) = false := decide_eq_false fun h => Ck (.inr (.inr h))
   refine af.go 200 ?_
   simp only [W, seval, jK, hn, k3, k4, k5]
   repeat' ((first | refine aZ (fun h => ?_) (fun h => ?_) | refine aS (fun h => ?_) (fun h => ?_)) <;> simp only [W, seval, jK, h, hn, k3, k4, k5])
   all_goals
    refine af.ret Tryz.func163 rfl (Left.box ?_)
    (try clear ih)
    (try simp only [jc] at *)
    simp only [jb, seval, aB] <;> simp [*]
    skip
 ·intro K' hK
  have Oc : decide ((s.exprs.length : Int) = 1) = decide (s.exprs.length = 1) := decide_eq_decide.2 (by omega)
  have he6 : decide ((0 : Int) < (s.exprs.length : Int)) = decide (0 < s.exprs.length) := decide_eq_decide.2 (by omega)
  have X9 : decide ((s.exprs.length : Int) = 0) = decide (s.exprs.length = 0) := decide_eq_decide.2 (by omega)
  have hh : (decide (s.exprs.length = 1) && gM s.exprs) = gM s.exprs := by rcases s.exprs with _ | ⟨x, _ | ⟨y, l⟩⟩ <;> simp [gM]
  by_cases k1 : s.kind = 1
  ·have hz : ∀ v : Bool, lq s.kind s.exprs false false b5 b6 b7 b8 v = (v && !b5 && !b6 && !b7 && !b8) := fun v => by simp [lq, k1]
   have hs : res = (decide (s.exprs.length = 0) && nameOf s.names && !b5 && !b6 && !b7 && !b8) := by rw [hs, sizedB, if_pos k1]
   rcases hN : s.names with _ | ⟨x, _ | ⟨y, l⟩⟩
   all_goals
    have ic : ∀ n : Nat, decide ((n : Int) + 1 + 1 = 1) = false := fun n => decide_eq_false (by omega)
    rw [hN] at hs
    refine af.Hi 400 ?_
    simp only [W, seval, jK, hn, k1, hN, X9, ic]
    repeat' ((first | refine aZ (fun h => ?_) (fun h => ?_) | refine aS (fun h => ?_) (fun h => ?_)) <;> simp only [W, seval, jK, h, hn, k1, hN, X9, ic])
    all_goals first
     | (refine hK (false, false, b5, b6, b7, b8, false) ⟨fun h => absurd h (by omega), ?_⟩ _ _ ?_ ?_
        ·rw [hz, hs]
         simp only [nameOf, h, Bool.and_false, Bool.false_and]
        ·skip
         refine ay.env _ ?_
         simp only [cZ, seval]
         skip
        ·simp only [wW, k1, hN])
     | (skip
        refine ag (kC _ _) ?_
        rintro _ _ ⟨rfl, rfl⟩
        refine af.My 200 ?_
        simp only [W, seval, jK, hn, k1, hN, X9, ic]
        refine hK (false, false, b5, b6, b7, b8, ak x) ⟨fun h => absurd h (by omega), ?_⟩ _ _ ?_ ?_
        ·rw [hz, hs]
         simp only [nameOf, h, Bool.true_and]
        ·skip
         refine ay.env _ ?_
         simp only [cZ, seval]
         skip
        ·simp only [wW, k1, hN])
     | (refine hK (false, false, b5, b6, b7, b8, false) ⟨fun h => absurd h (by omega), ?_⟩ _ _ ?_ ?_
        ·fail
        ·skip
         refine ay.env _ ?_
         simp only [cZ, seval]
         skip
        ·simp only [wW, k1, hN])
  by_cases k2 : s.kind = 2
  ·have hz : ∀ v : Bool, lq s.kind s.exprs b3 b4 false b6 b7 b8 v = (v && !b3 && !b4 && !b6 && !b7 && !b8) := fun v => by simp [lq, k2]
   have hs : res = (decide (0 < s.aG.length) && (decide (s.exprs.length = s.aG.length) || z7 s.exprs) && s.aG.all dP && (!b3 && !b4) && !b6 && !b7 && !b8) := by rw [hs, sizedB, if_neg k1, if_pos k2]
   have Ya : decide (0 < s.aG.length) = b5 := vA ▸ decide_eq_decide.2 (by omega)
   obtain ⟨be, Qa⟩ : ∃ b, decide ((s.exprs.length : Int) = (s.aG.length : Int)) = b := ⟨_, rfl⟩
   have Yb : decide (s.exprs.length = s.aG.length) = be := Qa ▸ decide_eq_decide.2 (by omega)
   obtain ⟨Wq, Ro⟩ : ∃ b, z7 s.exprs = b := ⟨_, rfl⟩
   rw [Ya, Yb, Ro] at hs
   have hw : ∀ v : Bool, v = (b5 && (be || Wq) && s.aG.all dP) → lq s.kind s.exprs b3 b4 false b6 b7 b8 v = res := fun v hv => by
    rw [hz, hs, hv]
    generalize s.aG.all dP = q
    cases b3 <;> cases b4 <;> cases b5 <;> cases be <;> cases Wq <;> cases q <;> cases b6 <;> cases b7 <;> cases b8 <;> rfl
   clear hz hs
   have vk : (∃ x, s.exprs[0]? = some x ∧ decide ((s.exprs.length : Int) = 1) = true ∧ decide (x.kind = 7) = Wq) ∨ (decide ((s.exprs.length : Int) = 1) = false ∧ Wq = false) := by
    rw [← Ro]
    rcases s.exprs with _ | ⟨x, _ | ⟨y, l⟩⟩
    ·exact .inr ⟨by decide, rfl⟩
    ·exact .inl ⟨x, rfl, by simp, rfl⟩
    ·exact .inr ⟨decide_eq_false (by simp; omega), rfl⟩
   rcases vk with ⟨x, hg, UD, UE⟩ | ⟨UD, UE⟩
   ·refine af.Hi 400 ?_
    simp only [W, seval, jK, hn, k2, vA, Qa, hg, UD, UE, List.getElem?_map, cP]
    repeat' ((first | refine aZ (fun h => ?_) (fun h => ?_) | refine aS (fun h => ?_) (fun h => ?_)) <;> simp only [W, seval, jK, h, hn, k2, vA, Qa, hg, UD, UE, List.getElem?_map, cP])
    all_goals first
     | (refine hK (b3, b4, false, b6, b7, b8, false) ⟨fun h => absurd h (by omega), hw _ (by simp [*])⟩ _ _ ?_ ?_
        ·skip
         refine ay.env _ ?_
         simp only [cZ, seval]
         skip
        ·simp only [wW, k2])
     | (refine ag (iB 183 [] [] (fun _ : Unit => _) (fun x s => (!dP x, s)) (fun _ _ => ⟨rfl, rfl⟩) s.aG SJ () (lp s.aG fun x hm => yt x _ T)) ?_
        rintro _ _ ⟨rfl, rfl⟩
        rw [je, z6]
        refine af.My 200 ?_
        simp only [W, seval, jK, hn, k2, Bool.not_not]
        refine hK (b3, b4, false, b6, b7, b8, s.aG.all dP) ⟨fun h => absurd h (by omega), hw _ (by simp [*])⟩ _ _ ?_ ?_
        ·skip
         refine ay.env _ ?_
         simp only [cZ, seval]
         skip
        ·simp only [wW, k2])
     | fail
   ·refine af.Hi 400 ?_
    simp only [W, seval, jK, hn, k2, vA, Qa, UD]
    repeat' ((first | refine aZ (fun h => ?_) (fun h => ?_) | refine aS (fun h => ?_) (fun h => ?_)) <;> simp only [W, seval, jK, h, hn, k2, vA, Qa, UD])
    all_goals first
     | (refine hK (b3, b4, false, b6, b7, b8, false) ⟨fun h => absurd h (by omega), hw _ (by simp [*])⟩ _ _ ?_ ?_
        ·skip
         refine ay.env _ ?_
         simp only [cZ, seval]
         skip
        ·simp only [wW, k2])
     | (refine ag (iB 183 [] [] (fun _ : Unit => _) (fun x s => (!dP x, s)) (fun _ _ => ⟨rfl, rfl⟩) s.aG SJ () (lp s.aG fun x hm => yt x _ T)) ?_
        rintro _ _ ⟨rfl, rfl⟩
        rw [je, z6]
        refine af.My 200 ?_
        simp only [W, seval, jK, hn, k2, Bool.not_not]
        refine hK (b3, b4, false, b6, b7, b8, s.aG.all dP) ⟨fun h => absurd h (by omega), hw _ (by simp [*])⟩ _ _ ?_ ?_
        ·skip
         refine ay.env _ ?_
         simp only [cZ, seval]
         skip
        ·simp only [wW, k2])
     | fail
  by_cases k3 : s.kind = 3
  ·have hs : res = ((!b3 && !b4) && !b5 && gM s.exprs && !b8) := by rw [hs, sizedB, if_neg k1, if_neg k2, if_pos k3]
   refine af.Hi 400 ?_
   simp only [W, seval, jK, hn, k3, Oc]
   refine hK (b3, b4, b5, false, false, b8, decide (s.exprs.length = 1)) ⟨fun _ => rfl, ?_⟩ _ _ ?_ ?_
   ·rw [hs, lq, if_pos (.inl k3), hh]
    generalize gM s.exprs = hd
    cases b3 <;> cases b4 <;> cases b5 <;> cases b8 <;> cases hd <;> rfl
   ·skip
    refine ay.env _ ?_
    simp only [cZ, seval]
    skip
   ·simp only [wW, k3]
  by_cases k4 : s.kind = 4
  ·have hs : res = ((!b3 && !b4) && !b5 && gM s.exprs && !b7 && !b8) := by rw [hs, sizedB, if_neg k1, if_neg k2, if_neg k3, if_pos k4]
   refine af.Hi 400 ?_
   simp only [W, seval, jK, hn, k4, Oc]
   refine hK (b3, b4, b5, false, b7, b8, decide (s.exprs.length = 1)) ⟨fun _ => rfl, ?_⟩ _ _ ?_ ?_
   ·rw [hs, lq, if_pos (.inr (.inl k4)), hh]
    generalize gM s.exprs = hd
    cases b3 <;> cases b4 <;> cases b5 <;> cases b7 <;> cases b8 <;> cases hd <;> rfl
   ·skip
    refine ay.env _ ?_
    simp only [cZ, seval]
    skip
   ·simp only [wW, k4]
  by_cases k5 : s.kind = 5
  ·have hs : res = ((!b3 && !b4) && !b5 && gM s.exprs && !b6) := by rw [hs, sizedB, if_neg k1, if_neg k2, if_neg k3, if_neg k4, if_pos k5]
   refine af.Hi 400 ?_
   simp only [W, seval, jK, hn, k5, Oc]
   refine hK (b3, b4, b5, b6, false, false, decide (s.exprs.length = 1)) ⟨fun _ => rfl, ?_⟩ _ _ ?_ ?_
   ·rw [hs, lq, if_pos (.inr (.inr k5)), hh]
    generalize gM s.exprs = hd
    cases b3 <;> cases b4 <;> cases b5 <;> cases b6 <;> cases hd <;> rfl
   ·skip
    refine ay.env _ ?_
    simp only [cZ, seval]
    skip
   ·simp only [wW, k5]
  by_cases k6 : s.kind = 6
  ·have hs : res = ((!b3 && !b4) && !b5 && decide (0 < s.exprs.length) && !b6 && !b7 && !b8) := by rw [hs, sizedB, if_neg k1, if_neg k2, if_neg k3, if_neg k4, if_neg k5, if_pos k6]
   refine af.Hi 400 ?_
   simp only [W, seval, jK, hn, k6, he6]
   refine hK (b3, b4, b5, b6, b7, b8, decide (0 < s.exprs.length)) ⟨fun h => absurd h (by omega), ?_⟩ _ _ ?_ ?_
   ·rw [hs, lq, if_neg (by omega)]
    generalize decide (0 < s.exprs.length) = hd
    cases b3 <;> cases b4 <;> cases b5 <;> cases b6 <;> cases b7 <;> cases b8 <;> cases hd <;> rfl
   ·skip
    refine ay.env _ ?_
    simp only [cZ, seval]
    skip
   ·simp only [wW, k6]
  have hs : res = false := by rw [hs, sizedB, if_neg k1, if_neg k2, if_neg k3, if_neg k4, if_neg k5, if_neg k6]
  have e1 := decide_eq_false k1
  have e2 := decide_eq_false k2
  have e3 := decide_eq_false k3
  have e4 := decide_eq_false k4
  have e5 := decide_eq_false k5
  have e6 := decide_eq_false k6
  refine af.Hi 400 ?_
  simp only [W, seval, jK, hn, e1, e2, e3, e4, e5, e6]
  refine af.ret Tryz.func163 rfl (Left.box ?_)
  rw [hs]
  (try clear ih)
  (try simp only [jc] at *)
  simp only [jb, seval, aB] <;> simp [*]
  skip
set_option maxHeartbeats 1000000 in
theorem Gg (k : Int) (n : List UInt8) (es : List az) (he : es.length ≠ 1) (c : Nat) (d p : Int) (B : List (List V)) (T : List (Nat × Nat)) (h : B[c]? = some [.d (.int .i64 p)]) (hp : 0 ≤ p ∧ p ≤ 60000) :
 aD Tryz.prog av 94 [.ptr c 0, aT (.mk k n es), .d (.int .i64 d)] ⟨B, T⟩ (aB (.d (.bool (eV ak (.mk k n es) d p).1)) ⟨B.set c [.d (.int .i64 (eV ak (.mk k n es) d p).2)], T⟩) := by
 obtain ⟨N, hn⟩ : ∃ N, B.length = N := ⟨_, rfl⟩
 have hc := (List.getElem?_eq_some_iff.1 h).1
 have hi : c < N := by omega
 have AM : decide ((es.length : Int) = 1) = false := decide_eq_false (by omega)
 have hr := Ik ak k n d p es (.inr he)
 have bV : es ≠ [] ∨ es = [] := by by_cases h : es = [] <;> simp [h]
 simp only [aT, az.kind, az.name, az.elem]
 refine aD.body Tryz.func94 rfl (by kernel_rfl) ?_
 refine af.go 200 ?_
 simp only [Tryz.f94, WO, seval, hn, hi]
 refine ag (lf c d p _ _ (by rw [ai hc]; exact h) hp) ?_
 rintro _ _ ⟨rfl, rfl⟩
 refine af.go 200 ?_
 simp only [WO, seval, hn, hi, AM]
 cases hk : bt d p
 ·simp only [WO, seval, hn, hi, hk, Bool.not_false]
  refine af.ret Tryz.func94 rfl (Left.set (by rfl) ?_)
  have hS : eV ak (.mk k n es) d p = (false, p + 1) := by unfold eV; rw [if_pos hk]
  rw [hS]
  exact ⟨rfl, rfl⟩
 ·have hS := sI ak k n es d p (by rw [hk]; decide)
  rw [hr] at hS
  rw [hS]
  simp only [WO, seval, hn, hi, hk, Bool.not_true, AM]
  repeat' ((first | refine aZ (fun h => ?_) (fun h => ?_) | refine aS (fun h => ?_) (fun h => ?_)) <;> simp only [WO, seval, h, hn, hi, AM])
  all_goals first
   | (refine af.ret Tryz.func94 rfl (Left.set (by rfl) ?_)
      (try clear ih)
      (try simp only [jc] at *)
      simp only [jb, seval, aB] <;> simp [*]
      skip)
   | (skip
      refine ag (kC n _) ?_
      rintro _ _ ⟨rfl, rfl⟩
      refine af.go 200 ?_
      simp only [WO, seval, hn, hi]
      repeat' ((first | refine aZ (fun h => ?_) (fun h => ?_) | refine aS (fun h => ?_) (fun h => ?_)) <;> simp only [WO, seval, h, hn, hi])
      all_goals
       refine af.ret Tryz.func94 rfl (Left.set (by rfl) ?_)
       (try clear ih)
       (try simp only [jc] at *)
       simp only [jb, seval, aB] <;> simp [*]
       skip)
set_option maxHeartbeats 2000000 in
theorem vM : ∀ (t : az) (c : Nat) (d p : Int) (B : List (List V)) (T : List (Nat × Nat)), B[c]? = some [.d (.int .i64 p)] → 0 ≤ p ∧ p ≤ 60000 → 0 ≤ d ∧ d ≤ 61 →
 aD Tryz.prog av 94 [.ptr c 0, aT t, .d (.int .i64 d)] ⟨B, T⟩ (aB (.d (.bool (eV ak t d p).1)) ⟨B.set c [.d (.int .i64 (eV ak t d p).2)], T⟩)
 | .mk k n [], c, d, p, B, T, h, hp, hd => Gg k n [] (by simp) c d p B T h hp
 | .mk k n (e :: e2 :: es), c, d, p, B, T, h, hp, hd => Gg k n _ (by simp) c d p B T h hp
 | .mk k n [e], c, d, p, B, T, h, hp, hd => by
  obtain ⟨N, hn⟩ : ∃ N, B.length = N := ⟨_, rfl⟩
  have hc := (List.getElem?_eq_some_iff.1 h).1
  have hi : c < N := by omega
  have hw := aI (d + 1) (by omega)
  have ih := vM e c (d + 1) (p + 1)
  simp only [aT, az.kind, az.name, az.elem]
  refine aD.body Tryz.func94 rfl (by kernel_rfl) ?_
  refine af.go 200 ?_
  simp only [Tryz.f94, WO, seval, hn, hi, cO]
  refine ag (lf c d p _ _ (by rw [ai hc]; exact h) hp) ?_
  rintro _ _ ⟨rfl, rfl⟩
  refine af.go 200 ?_
  simp only [WO, seval, hn, hi, hw, cO]
  cases hk : bt d p
  ·simp only [WO, seval, hn, hi, hk, Bool.not_false]
   refine af.ret Tryz.func94 rfl (Left.set (by rfl) ?_)
   have hS : eV ak (.mk k n [e]) d p = (false, p + 1) := by unfold eV; rw [if_pos hk]
   rw [hS]
   exact ⟨rfl, rfl⟩
  ·have hS := sI ak k n [e] d p (by rw [hk]; decide)
   have IA : p + 1 ≤ 60000 ∧ d ≤ 60 := by
    unfold bt at hk
    rw [Bool.and_eq_true, decide_eq_true_iff, decide_eq_true_iff] at hk
    exact hk
   simp only [lH] at hS
   rw [hS]
   simp only [WO, seval, hn, hi, hk, Bool.not_true, hw, cO]
   repeat' ((first | refine aZ (fun h => ?_) (fun h => ?_) | refine aS (fun h => ?_) (fun h => ?_)) <;> simp only [WO, seval, h, hn, hi, hw, cO])
   all_goals first
    | (refine af.ret Tryz.func94 rfl (Left.set (by rfl) ?_)
       (try clear ih)
       (try simp only [jc] at *)
       simp only [jb, seval, aB] <;> simp [*]
       skip)
    | (skip
       refine ag (kC n _) ?_
       rintro _ _ ⟨rfl, rfl⟩
       refine af.go 200 ?_
       simp only [WO, seval, hn, hi]
       repeat' ((first | refine aZ (fun h => ?_) (fun h => ?_) | refine aS (fun h => ?_) (fun h => ?_)) <;> simp only [WO, seval, h, hn, hi])
       all_goals
        refine af.ret Tryz.func94 rfl (Left.set (by rfl) ?_)
        (try clear ih)
        (try simp only [jc] at *)
        simp only [jb, seval, aB] <;> simp [*]
        skip)
    | (skip
       refine ag (ih _ T ?_ (by omega) (by omega)) ?_
       ·rw [ai (by simp; omega)]; exact eF hc
       rintro _ _ ⟨rfl, rfl⟩
       refine af.go 200 ?_
       simp only [WO, seval, hn, hi]
       repeat' ((first | refine aZ (fun h => ?_) (fun h => ?_) | refine aS (fun h => ?_) (fun h => ?_)) <;> simp only [WO, seval, h, hn, hi])
       all_goals
        refine af.ret Tryz.func94 rfl (Left.set (by rfl) ?_)
        (try clear ih)
        (try simp only [jc] at *)
        simp only [jb, seval, aB] <;> simp [*]
        skip)
set_option maxHeartbeats 4000000 in
theorem Od (x : aj) (c : Nat) (d p : Int) (B : List (List V)) (T : List (Nat × Nat)) (hB : B[c]? = some [.d (.int .i64 p)]) (hp : 0 ≤ p ∧ p ≤ 60000) (hd : 0 ≤ d ∧ d ≤ 60) :
 aD Tryz.prog av 202 [.ptr c 0, ry x, .d (.int .i64 d)] ⟨B, T⟩ (aB (.d (.bool (dh x d p).1)) ⟨B.set c [.d (.int .i64 (dh x d p).2)], T⟩) := by
 obtain ⟨N, hn⟩ : ∃ N, B.length = N := ⟨_, rfl⟩
 have hc := (List.getElem?_eq_some_iff.1 hB).1
 have hi : c < N := by omega
 have hw := aI (d + 1) (by omega)
 cases x with
 | mk k t i ty ns ks =>
 simp only [ry, aj.kind, aj.text, aj.int, aj.type, aj.names, aj.kids]
 refine aD.FM Tryz.func202 rfl (by kernel_rfl) fun bh => ?_
 simp only [Bo, sm, ry, zZ, aT, Gc, AS, xC, xD, l7, Bool.and_eq_true, decide_eq_true_eq, and_true, true_and, List.length_map, fZ] at bh
 refine af.go 200 ?_
 simp only [Tryz.f202, WO, seval, hn, hi]
 obtain ⟨bn, EM⟩ : ∃ b, ∀ q : Decidable (0 < ns.length), @decide (0 < ns.length) q = b := ⟨decide (0 < ns.length), fun _ => decide_eq_decide.2 Iff.rfl⟩
 have hz : decide ((0 : Int) < (ns.length : Int)) = bn := (decide_eq_decide.2 (by omega)).trans (EM inferInstance)
 obtain ⟨-, -, -, hs4, -⟩ := bh
 obtain ⟨bl, SK⟩ : ∃ b, ∀ q : Decidable (ns.length = ks.length), @decide (ns.length = ks.length) q = b := ⟨decide (ns.length = ks.length), fun _ => decide_eq_decide.2 Iff.rfl⟩
 have Wr : decide ((ns.length : Int) = (ks.length : Int)) = bl := (decide_eq_decide.2 (by omega)).trans (SK inferInstance)
 refine af.draw (by kernel_rfl) (by kernel_rfl) (oO 60 _ _ ?_)
 simp only [WO, seval, hn, hi, hz]
 refine ⟨_, Gd ty _ _, ?_⟩
 simp only [WO, seval, hn, hi, hz]
 have IB : B.set c [.d (.int .i64 p)] = B := by
  obtain ⟨_, h⟩ := List.getElem?_eq_some_iff.1 hB
  rw [← h, List.set_getElem_self]
 refine af.go 400 ?_
 simp only [WO, seval, hn, hi, hw, hz]
 repeat' ((first | refine aZ (fun h => ?_) (fun h => ?_) | refine aS (fun h => ?_) (fun h => ?_)) <;> simp only [WO, seval, h, hn, hi, hw])
 all_goals first
  | (skip
     refine ag (kC _ _) ?_
     rintro _ _ ⟨rfl, rfl⟩
     refine af.go 200 ?_
     simp only [WO, seval, hn, hi]
     repeat' ((first | refine aZ (fun h => ?_) (fun h => ?_) | refine aS (fun h => ?_) (fun h => ?_)) <;> simp only [WO, seval, h, hn, hi])
     all_goals
      refine af.ret Tryz.func202 rfl (Left.box ?_)
      simp only [dh, iP, aj.kind, aj.text, aj.int, aj.type, aj.names, aj.kids, EM]
      (try clear ih)
      (try simp only [jc] at *)
      simp only [jb, seval, aB] <;> simp [*]
      (try exact (EM _).symm)
      skip)
  | (skip
     refine ag (Ob _ _ _) ?_
     rintro _ _ ⟨rfl, rfl⟩
     refine af.go 200 ?_
     simp only [WO, seval, hn, hi]
     repeat' ((first | refine aZ (fun h => ?_) (fun h => ?_) | refine aS (fun h => ?_) (fun h => ?_)) <;> simp only [WO, seval, h, hn, hi])
     all_goals
      refine af.ret Tryz.func202 rfl (Left.box ?_)
      simp only [dh, iP, aj.kind, aj.text, aj.int, aj.type, aj.names, aj.kids, EM]
      (try clear ih)
      (try simp only [jc] at *)
      simp only [jb, seval, aB] <;> simp [*]
      (try exact (EM _).symm)
      skip)
  | (skip
     refine af.draw (by kernel_rfl) (by kernel_rfl) (oO 60 _ _ ?_)
     simp only [WO, seval, hn, hi]
     refine af.go 200 ?_
     simp only [WO, seval, hn, hi]
     repeat' ((first | refine aZ (fun h => ?_) (fun h => ?_) | refine aS (fun h => ?_) (fun h => ?_)) <;> simp only [WO, seval, h, hn, hi])
     all_goals
      refine af.ret Tryz.func202 rfl (Left.box ?_)
      simp only [dh, iP, aj.kind, aj.text, aj.int, aj.type, aj.names, aj.kids, EM]
      (try clear ih)
      (try simp only [jc] at *)
      simp only [jb, seval, aB] <;> simp [*]
      (try exact (EM _).symm)
      skip)
  | (refine af.ret Tryz.func202 rfl (Left.box ?_)
     simp only [dh, iP, aj.kind, aj.text, aj.int, aj.type, aj.names, aj.kids, EM]
     (try clear ih)
     (try simp only [jc] at *)
     simp only [jb, seval, aB] <;> simp [*]
     (try exact (EM _).symm)
     skip)
  | (refine ag (vM ty c (d + 1) p _ T (by rw [ai (by omega)]; exact hB) hp (by omega)) ?_
     rintro _ _ ⟨rfl, rfl⟩
     obtain ⟨⟨b, q⟩, fk⟩ : ∃ r, eV ak ty (d + 1) p = r := ⟨_, rfl⟩
     simp only [WO, seval, fk]
     refine af.go 300 ?_
     simp only [WO, seval, hn, hi, Wr]
     repeat' ((first | refine aZ (fun h => ?_) (fun h => ?_) | refine aS (fun h => ?_) (fun h => ?_)) <;> simp only [WO, seval, h, hn, hi, Wr])
     all_goals first
      | (refine af.ret Tryz.func202 rfl (Left.set (by rfl) ?_)
         simp only [dh, iP, aj.kind, aj.text, aj.int, aj.type, aj.names, aj.kids, EM, SK, fk]
         (try clear ih)
         (try simp only [jc] at *)
         simp only [jb, seval, aB] <;> simp [*]
         (try exact (EM _).symm)
         (try (intro e; have e2 := (SK _).symm.trans e; simp_all))
         skip)
      | (skip
         refine ag (rB ns hs4 _ _) ?_
         rintro _ _ ⟨rfl, rfl⟩
         refine af.go 300 ?_
         simp only [WO, seval, hn, hi, Wr]
         repeat' ((first | refine aZ (fun h => ?_) (fun h => ?_) | refine aS (fun h => ?_) (fun h => ?_)) <;> simp only [WO, seval, h, hn, hi, Wr])
         all_goals
          refine af.ret Tryz.func202 rfl (Left.set (by rfl) ?_)
          simp only [dh, iP, aj.kind, aj.text, aj.int, aj.type, aj.names, aj.kids, EM, SK, fk]
          (try clear ih)
          (try simp only [jc] at *)
          simp only [jb, seval, aB] <;> simp [*]
          (try exact (EM _).symm)
          (try exact (SK _).trans (by assumption))
          (try (intro e; have e2 := (SK _).symm.trans e; simp_all))
          skip))
def vN (x : aj) : Prop := ∀ (c : Nat) (d p : Int) (B : List (List V)) (T : List (Nat × Nat)), B[c]? = some [.d (.int .i64 p)] → 0 ≤ p ∧ p ≤ 60000 → 0 ≤ d ∧ d ≤ 61 →
 aD Tryz.prog av 186 [.ptr c 0, ry x, .d (.int .i64 d)] ⟨B, T⟩ (aB (.d (.bool (pT x d p).1)) ⟨B.set c [.d (.int .i64 (pT x d p).2)], T⟩)
set_option maxHeartbeats 2000000 in
theorem vO (l : List aj) (hx : ∀ x ∈ l, vN x) (c : Nat) (d m p : Int) (B : List (List V)) (T : List (Nat × Nat)) (hB : B[c]? = some [.d (.int .i64 p)]) (hp : 0 ≤ p ∧ p ≤ 60000) (hd : 0 ≤ d ∧ d ≤ 61) :
 aD Tryz.prog av 165 [.ptr c 0, .d (.sl (l.map eH)), .d (.int .i64 d), .d (.int .i64 m)] ⟨B, T⟩ (aB (.d (.bool ((eX l d p).1 && decide ((l.length : Int) ≤ m)))) ⟨B.set c [.d (.int .i64 (eX l d p).2)], T⟩) := by
 obtain ⟨N, hn⟩ : ∃ N, B.length = N := ⟨_, rfl⟩
 have hc := (List.getElem?_eq_some_iff.1 hB).1
 have hi : c < N := by omega
 have IB : B.set c [.d (.int .i64 p)] = B := by
  obtain ⟨_, h⟩ := List.getElem?_eq_some_iff.1 hB
  rw [← h, List.set_getElem_self]
 refine aD.FM Tryz.func165 rfl (by kernel_rfl) fun bh => ?_
 simp only [Bo, sm, ry, zZ, aT, Gc, AS, xC, xD, l7, Bool.and_eq_true, decide_eq_true_eq, and_true, true_and, List.length_map, fZ] at bh
 refine af.go 100 ?_
 simp only [Tryz.f165, WO, seval, hn, hi]
 refine af.fits fun hf => ?_
 refine af.ir (fun a : Nat × Int => (eK 30 [(0, .ptr c 0), (1, .d (.sl (l.map eH))), (2, .d (.int .i64 d)), (3, .d (.int .i64 m)), (8, .d (.bool false)), (9, .func 186 [.ptr c 0] []), (14, .d (.sl (l.map eH))), (15, .d (.int .i64 l.length)), (16, .d (.int .i64 a.1))], ⟨B.set c [.d (.int .i64 a.2)], T⟩)) (fun a => a.1 ≤ l.length ∧ (0 ≤ a.2 ∧ a.2 ≤ 60000) ∧ eX l d p = eX (l.drop a.1) d a.2) (fun a => l.length - a.1) (0, p) ⟨by omega, hp, rfl⟩ ?_ (by rw [IB]) ?_
 ·simp only [eK, List.replicate_succ, List.replicate_zero, List.foldl_cons, List.foldl_nil, List.set_cons_zero, List.set_cons_succ, gC, eq_self, or_true, true_or, and_self, Int.natCast_add, Int.natCast_one, Int.natCast_zero]
 rintro ⟨i, q⟩ ⟨h1, h2, h3⟩ ih
 dsimp only at h1 h2 h3 ih ⊢
 by_cases au : i < l.length
 ·have hw := aI ((i : Int) + 1) (by omega)
  have hg := List.getElem?_eq_getElem au
  rw [Im l i au] at h3
  have aH : decide ((i : Int) < (l.length : Int)) = true := decide_eq_true (by omega)
  refine af.go 100 ?_
  simp only [WO, seval, hn, hi, List.getElem?_map, hg, aH, cP]
  refine aQ (hx l[i] (List.getElem_mem au) c d q _ T (by rw [ai (by simp; omega)]; exact eF hc) h2 hd) ?_
  rintro _ _ ⟨rfl, rfl⟩
  have wX := EL l[i] d q
  obtain ⟨⟨b, r⟩, he⟩ : ∃ r, pT l[i] d q = r := ⟨_, rfl⟩
  rw [he] at h3 wX
  dsimp only at wX
  refine af.go 100 ?_
  simp only [WO, seval, hn, hi, he]
  cases b
  ·simp only [WO, seval, hn, hi]
   refine af.ret Tryz.func165 rfl (Left.set (by rfl) ?_)
   rw [h3, if_pos rfl]
   exact ⟨rfl, rfl⟩
  ·have wX := wX rfl
   simp only [WO, seval, hn, hi, hw]
   refine ih (i + 1, r) ⟨au, by dsimp only; omega, by rw [h3]; rfl⟩ (by dsimp only; omega) _ _ _ _ rfl ⟨by simp; omega, Nat.le_refl _⟩ (hf.set rfl) ?_
   simp only [eK, List.replicate_succ, List.replicate_zero, List.foldl_cons, List.foldl_nil, List.set_cons_zero, List.set_cons_succ, pN, fit, iW, eq_self, or_true, true_or, and_self, true_and, and_true, Bool.and_true, Bool.true_and, Bool.and_self, decide_true, List.length_set, Int.natCast_add, Int.natCast_one, Int.natCast_zero, hn, hi]
 ·have aH : decide ((i : Int) < (l.length : Int)) = false := decide_eq_false (by omega)
  refine af.go 100 ?_
  simp only [WO, seval, aH]
  refine af.ret Tryz.func165 rfl (Left.TM rfl ?_)
  rw [List.drop_eq_nil_of_le (by omega), eX] at h3
  rw [h3]
  exact ⟨rfl, rfl⟩
theorem jf {d p : Int} (h : bt d p = true) : p + 1 ≤ 60000 ∧ d ≤ 60 := by
 unfold bt at h
 rw [Bool.and_eq_true, decide_eq_true_iff, decide_eq_true_iff] at h
 exact h
set_option maxHeartbeats 4000000 in
theorem IC (k : Int) (t : List UInt8) (i : Int) (ty : az) (ns : List (List UInt8)) (ks : List aj) (hx : ∀ x ∈ ks, vN x) : vN (.mk k t i ty ns ks) := by
 intro c d p B T hB hp hd
 obtain ⟨N, hn⟩ : ∃ N, B.length = N := ⟨_, rfl⟩
 have hc := (List.getElem?_eq_some_iff.1 hB).1
 have hi : c < N := by omega
 have hw := aI (d + 1) (by omega)
 obtain ⟨mo, JD⟩ : ∃ m, eW k = m := ⟨_, rfl⟩
 have hS : pT (.mk k t i ty ns ks) d p = if bt d p = false then (false, p + 1)
  else if nc k < (ks.length : Int) ∨ mo = -2 ∨ (0 ≤ mo ∧ (ks.length : Int) ≠ mo) then (false, p + 1)
  else if (dh (.mk k t i ty ns ks) d (p + 1)).1 = false then (false, (dh (.mk k t i ty ns ks) d (p + 1)).2)
  else eX ks (d + 1) (dh (.mk k t i ty ns ks) d (p + 1)).2 := by rw [pT, JD]
 have vP := lf c d p (B ++ [[.d (.int .i64 k), .d (.str t), .d (.int .u64 i), .d (.int .i64 ty.kind), .d (.str ty.name), .d (.sl (ty.elem.map ej)), .d (.sl (gu ns)), .d (.sl (ks.map eH))]]) T (by rw [ai hc]; exact hB) hp
 have yu := Od (.mk k t i ty ns ks) c d (p + 1)
 simp only [ry, aj.kind, aj.text, aj.int, aj.type, aj.names, aj.kids] at yu ⊢
 refine aD.body Tryz.func186 rfl (by kernel_rfl) ?_
 refine af.go 100 ?_
 simp only [Tryz.f186, WO, seval, hn, hi]
 refine ag (N9 k _ _) ?_
 rintro _ _ ⟨rfl, rfl⟩
 refine af.go 100 ?_
 simp only [WO, seval, hn, hi, JD]
 refine aS (fun F8 => ?_) (fun F8 => ?_)
 all_goals
  have aal : nc k = if k = 15 then 30000 else 40 := rfl
  simp only [WO, seval, F8, hn, hi, JD]
  refine ag vP ?_
  rintro _ _ ⟨rfl, rfl⟩
  first
   | have hm : nc k = 30000 := if_pos (of_decide_eq_true F8)
   | have hm : nc k = 40 := if_neg (of_decide_eq_false F8)
  cases hk : bt d p
  ·rw [if_pos hk] at hS
   refine af.go 200 ?_
   simp only [WO, seval, hn, hi, JD, hw, hk]
   refine af.ret Tryz.func186 rfl (Left.set (by rfl) ?_)
   rw [hS]
   exact ⟨rfl, rfl⟩
  ·rw [if_neg (by rw [hk]; decide), hm] at hS
   have IA := jf hk
   have yu := yu (B.set c [.d (.int .i64 (p + 1))] ++ [[.d (.int .i64 k), .d (.str t), .d (.int .u64 i), .d (.int .i64 ty.kind), .d (.str ty.name), .d (.sl (ty.elem.map ej)), .d (.sl (gu ns)), .d (.sl (ks.map eH))]]) T (by rw [ai (by simp; omega)]; exact eF hc) ⟨by omega, by omega⟩ ⟨by omega, by omega⟩
   have z8 := B9 (.mk k t i ty ns ks) d (p + 1) IA.1
   obtain ⟨⟨bb, bq⟩, hb⟩ : ∃ r, dh (.mk k t i ty ns ks) d (p + 1) = r := ⟨_, rfl⟩
   rw [hb] at yu hS z8
   dsimp only at z8
   refine af.go 200 ?_
   simp only [WO, seval, hn, hi, JD, hw, hk]
   repeat' ((first | refine aZ (fun h => ?_) (fun h => ?_) | refine aS (fun h => ?_) (fun h => ?_)) <;> simp only [WO, seval, h, hn, hi, JD, hw])
   all_goals first
    | (refine af.ret Tryz.func186 rfl (Left.set (by rfl) ?_)
       rw [hS]
       clear hS yu
       (try clear ih)
       (try simp only [jc] at *)
       simp only [jb, seval, aB] <;> simp [*]
       skip)
    | (rw [if_neg (by (simp only [decide_eq_true_eq, decide_eq_false_iff_not, Bool.not_eq_false', Bool.not_eq_true'] at *); omega)] at hS
       refine ag yu ?_
       rintro _ _ ⟨rfl, rfl⟩
       refine af.go 200 ?_
       simp only [WO, seval, hn, hi, JD, hw]
       cases bb
       ·simp only [WO, seval, hn, hi, JD, hw]
        refine af.ret Tryz.func186 rfl (Left.set (by rfl) ?_)
        rw [hS, if_pos rfl]
        exact ⟨rfl, rfl⟩
       ·have z8 := z8 rfl
        simp only [WO, seval, hn, hi, JD, hw]
        refine ag (vO ks hx c (d + 1) _ bq _ T (by rw [ai (by simp; omega)]; exact eF hc) (by omega) (by omega)) ?_
        rintro _ _ ⟨rfl, rfl⟩
        refine af.go 200 ?_
        simp only [WO, seval, hn, hi, JD, hw]
        refine af.ret Tryz.func186 rfl (Left.set (by rfl) ?_)
        rw [hS, if_neg (by simp)]
        refine ⟨?_, rfl⟩
        have hlen : ∀ m : Int, decide (m < (ks.length : Int)) = false → decide ((ks.length : Int) ≤ m) = true := fun m h => decide_eq_true (by have := of_decide_eq_false h; omega)
        have aU := hlen _ (by assumption)
        show V.d (D.bool ((eX ks (d + 1) bq).1 && decide _)) = _
        rw [aU, Bool.and_true])
mutual
theorem Aa : ∀ x : aj, vN x
 | .mk k t i ty ns ks => IC k t i ty ns ks (Cm ks)
theorem Cm : ∀ (ks : List aj), ∀ x ∈ ks, vN x
 | [], _, h => absurd h List.not_mem_nil
 | y :: l, x, h => by
  rcases List.mem_cons.1 h with e | e
  ·rw [e]; exact Aa y
  ·exact Cm l x e
end
def UF := by
 have c := aN Tryz.f131 (by conv => lhs; cbv)
 dsimp only [KK, fj, eR, eS, List.map_cons, List.map_nil, List.toList_toArray] at c
 exact c
theorem Yd : bK Tryz.prog 131 Tryz.f131 10 := ⟨Tryz.func131, by kernel_rfl⟩
def c95 := by
 have c := aN Tryz.f95 (by conv => lhs; cbv)
 dsimp only [KK, fj, eR, eS, List.map_cons, List.map_nil, List.toList_toArray] at c
 exact c
theorem b95 : bK Tryz.prog 95 Tryz.f95 11 := ⟨Tryz.func95, by kernel_rfl⟩
def Ye := by
 have c := aN Tryz.f164 (by conv => lhs; cbv)
 dsimp only [KK, fj, eR, eS, List.map_cons, List.map_nil, List.toList_toArray] at c
 exact c
theorem Yf : bK Tryz.prog 164 Tryz.f164 9 := ⟨Tryz.func164, by kernel_rfl⟩
def lJ (n : Nat) (s : aF) : Prop := ∀ (c : Nat) (d p : Int) (B : List (List V)) (T : List (Nat × Nat)), B[c]? = some [.d (.int .i64 p)] → 0 ≤ p ∧ p ≤ 60000 → 0 ≤ d ∧ d ≤ 62 →
 aD Tryz.prog av 132 [.ptr c 0, zZ s, .d (.int .i64 d)] ⟨B, T⟩ (aB (.d (.bool (iN n s d p).1)) ⟨B.set c [.d (.int .i64 (iN n s d p).2)], T⟩)
set_option maxHeartbeats 1000000 in
theorem ID (n : Nat) (x : aF) (h : lJ n x) (a b c : Nat) (d p : Int) (B : List (List V)) (T : List (Nat × Nat)) (hB : B[c]? = some [.d (.int .i64 p)]) (ha : B[a]? = some [.ptr c 0]) (hb : B[b]? = some [.d (.int .i64 d)]) (hp : 0 ≤ p ∧ p ≤ 60000) (hd : 0 ≤ d ∧ d ≤ 62) :
 aD Tryz.prog av 131 [zZ x, .ptr a 0, .ptr b 0] ⟨B, T⟩ (aB (.d (.bool (!(iN n x d p).1))) ⟨B.set c [.d (.int .i64 (iN n x d p).2)], T⟩) := by
 obtain ⟨N, hn⟩ : ∃ N, B.length = N := ⟨_, rfl⟩
 have hc := (List.getElem?_eq_some_iff.1 hB).1
 have hi : c < N := by omega
 have vj : a < N := by have := (List.getElem?_eq_some_iff.1 ha).1; omega
 have Ws : b < N := by have := (List.getElem?_eq_some_iff.1 hb).1; omega
 have h := h c d p (B ++ [wW x]) T (by rw [ai hc]; exact hB) hp hd
 unfold zZ at h ⊢
 simp only [wW] at h
 refine Yd.go 100 rfl fun bh => ?_
 simp only [eI] at bh
 simp only [W, seval, UF, hn, hi, vj, Ws, ha, hb]
 refine ag (h) ?_
 rintro _ _ ⟨rfl, rfl⟩
 refine af.go 100 ?_
 simp only [W, seval, UF, hn, hi, vj, Ws, ha, hb]
 refine af.ret Tryz.func131 rfl (Left.set (by rfl) ?_)
 (try clear ih)
 (try simp only [jc] at *)
 simp only [jb, seval, aB] <;> simp [*]
 skip
theorem vQ {α : Type} (g : α → Int → Bool × Int) : ∀ (l : List α) (p : Int), lI (fun x q => (!(g x q).1, (g x q).2)) l p = (!(dB g l p).1, (dB g l p).2)
 | [], p => rfl
 | x :: l, p => by
  rw [lI]
  show _ = (!(aY (g x) (dB g l) p).1, (aY (g x) (dB g l) p).2)
  unfold aY
  cases h : (g x p).1
  ·simp
  ·simp [vQ g l]
theorem Gh (n : Nat) (a b c : Nat) (d : Int) (B X : List (List V)) (T : List (Nat × Nat)) (hd : 0 ≤ d ∧ d ≤ 62) (hc : c < B.length) (ha : ∀ q : Int, (B.set c [.d (.int .i64 q)] ++ X)[a]? = some [.ptr c 0]) (hb : ∀ q : Int, (B.set c [.d (.int .i64 q)] ++ X)[b]? = some [.d (.int .i64 d)]) :
 ∀ (l : List aF) (q : Int), (∀ x ∈ l, lJ n x) → 0 ≤ q ∧ q ≤ 60000 → Good Tryz.prog av 131 [] [.ptr a 0, .ptr b 0] zZ (fun q : Int => ⟨B.set c [.d (.int .i64 q)] ++ X, T⟩) (fun x q => (!(iN n x d q).1, (iN n x d q).2)) l q
 | [], _, _, _ => trivial
 | x :: l, q, hl, hq => by
  have hx := hl x List.mem_cons_self
  have Ic : c < (B.set c [.d (.int .i64 q)]).length := by simpa using hc
  refine ⟨?_, fun h => ?_⟩
  ·have := ID n x hx a b c d q (B.set c [.d (.int .i64 q)] ++ X) T (by rw [ai Ic]; exact eF hc) (ha q) (hb q) hq hd
   rw [gK Ic, List.set_set] at this
   exact this
  ·have h : (iN n x d q).1 = true := by simpa using h
   have h1 := (aJ.st n x d).up q h
   have h2 := bF.st n x d q hq.2 h
   exact Gh n a b c d B X T hd hc ha hb l _ (fun y hy => hl y (List.mem_cons_of_mem _ hy)) ⟨Int.le_trans hq.1 h1, h2⟩
set_option maxHeartbeats 1000000 in
theorem rC (n : Nat) (l : List aF) (hl : ∀ x ∈ l, lJ n x) (c : Nat) (d p : Int) (B : List (List V)) (T : List (Nat × Nat)) (hB : B[c]? = some [.d (.int .i64 p)]) (hp : 0 ≤ p ∧ p ≤ 60000) (hd : 0 ≤ d ∧ d ≤ 62) :
 aD Tryz.prog av 95 [.ptr c 0, .d (.sl (l.map dL)), .d (.int .i64 d)] ⟨B, T⟩ (aB (.d (.bool (dB (fun s => iN n s d) l p).1)) ⟨B.set c [.d (.int .i64 (dB (fun s => iN n s d) l p).2)], T⟩) := by
 obtain ⟨N, hn⟩ : ∃ N, B.length = N := ⟨_, rfl⟩
 have hc := (List.getElem?_eq_some_iff.1 hB).1
 have hi : c < N := by omega
 have IB : B.set c [.d (.int .i64 p)] = B := by
  obtain ⟨_, h⟩ := List.getElem?_eq_some_iff.1 hB
  rw [← h, List.set_getElem_self]
 refine b95.go 100 rfl fun bh => ?_
 simp only [eI] at bh
 simp only [W, seval, c95, hn, hi]
 have hg := Gh n N (N + 1) c d B [[.ptr c 0], [.d (.int .i64 d)]] T hd hc (fun q => by rw [cy (by simpa using hn)]; rfl) (fun q => by rw [dx (by simpa using hn)]; rfl) l p hl hp
 have Cn := rz 131 [] [.ptr N 0, .ptr (N + 1) 0] (fun q : Int => ⟨B.set c [.d (.int .i64 q)] ++ [[.ptr c 0], [.d (.int .i64 d)]], T⟩) (fun x q => (!(iN n x d q).1, (iN n x d q).2)) (fun _ _ => ⟨by simp, rfl⟩) l (by first | exact bh | exact bh.1) p hg
 rw [vQ (fun x => iN n x d), IB] at Cn
 refine ag Cn ?_
 rintro _ _ ⟨rfl, rfl⟩
 refine af.go 100 ?_
 simp only [W, seval, c95, hn, hi, Bool.not_not]
 refine af.ret Tryz.func95 rfl (Left.set (by rfl) ?_)
 (try clear ih)
 (try simp only [jc] at *)
 simp only [jb, seval, aB] <;> simp [*]
 skip
set_option maxHeartbeats 1000000 in
theorem Lg (x y : cQ) (b : Nat) (bv : V) (B : List (List V)) (T : List (Nat × Nat)) (hb : B[b]? = some [.d (.int .u64 x.int), bv]) :
 aD Tryz.prog av 164 [Gc y, .ptr b 0] ⟨B, T⟩ (aB (.d (.bool (decide (y.int = x.int)))) ⟨B, T⟩) := by
 obtain ⟨N, hn⟩ : ∃ N, B.length = N := ⟨_, rfl⟩
 have Ws : b < N := by have := (List.getElem?_eq_some_iff.1 hb).1; omega
 unfold Gc
 refine Yf.go 100 rfl fun bh => ?_
 simp only [eI] at bh
 simp only [W, seval, Ye, hn, Ws, hb]
 refine af.ret Tryz.func164 rfl (Left.box ?_)
 (try clear ih)
 (try simp only [jc] at *)
 simp only [jb, seval, aB] <;> simp [*]
 skip
theorem yw (x : cQ) : ∀ l : List cQ, l.any (fun y => decide (y.int = x.int)) = (l.map cQ.int).contains x.int
 | [] => rfl
 | y :: l => by
  rw [List.any_cons, yw x l, List.map_cons, List.contains_cons]
  congr 1
  rw [Bool.eq_iff_iff, decide_eq_true_iff, beq_iff_eq]
  exact eq_comm
def fF := by
 have c := aN Tryz.f132 (by conv => lhs; cbv)
 dsimp only [KK, fj, eR, eS, List.map_cons, List.map_nil, List.toList_toArray] at c
 exact c
theorem Yg : bK Tryz.prog 132 Tryz.f132 97 := ⟨Tryz.func132, by kernel_rfl⟩
theorem cg {f g : Int → Bool × Int} {p : Int} (h : (f p).1 = false) : aY f g p = (false, (f p).2) := if_pos h
theorem bw {f g : Int → Bool × Int} {p : Int} (h : (f p).1 = true) : aY f g p = g (f p).2 := if_neg (by rw [h]; simp)
theorem cW (f g k : Int → Bool × Int) (p : Int) : aY (aY f g) k p = aY f (aY g k) p := by
 cases h : (f p).1
 ·have e : aY f g p = (false, (f p).2) := cg h
  rw [cg h, cg (by rw [e]), e]
 ·have e : aY f g p = g (f p).2 := bw h
  rw [bw h]
  unfold aY at e ⊢
  rw [e]
def Co (n : Nat) (s : aF) (d : Int) : Int → Bool × Int := aY (fo s.aG (d + 1)) (aY (fo s.exprs (d + 1)) (aY (dB (fun x => iN n x (d + 1)) s.body) (dB (fun x => iN n x (d + 1)) s.dO)))
theorem Lh (n : Nat) (s : aF) (d p : Int) : iN (n + 1) s d p = aY (cG d) (aY (cN (iz s && decide (s.cases.length ≤ 40))) (aY (if s.kind = 1 then fun p => eV ak s.type (d + 1) p else cN true) (aY (sL (iN n) d [] s.cases) (Co n s d)))) p := rfl
theorem yx (R : aF → Int → Int → Bool × Int) (d : Int) (seen : List Int) (k : cQ) (l : List cQ) : sL R d seen (k :: l) = aY (cG (d + 1)) (aY (cN (!seen.contains k.int)) (aY (dB (fun s => R s (d + 2)) k.body) (sL R d (seen ++ [k.int]) l))) := rfl
theorem Yh {α : Type} (A : List α) (a b : α) : A ++ [a, b] = (A ++ [a]) ++ [b] := by simp
theorem Cp (l : List aj) (d p : Int) : fo l d p = ((eX l d p).1 && decide ((l.length : Int) ≤ 40), (eX l d p).2) := by
 have e : decide ((l.length : Int) ≤ 40) = decide (l.length ≤ 40) := decide_eq_decide.2 (by omega)
 rw [e]
 unfold fo
 cases h : (eX l d p).1
 ·rw [cg h, Bool.false_and]
 ·rw [bw h, Bool.true_and]
  rfl
set_option maxHeartbeats 8000000 in
theorem IE (n : Nat) (s : aF) (Gi : ∀ x ∈ s.body, lJ n x) (Yi : ∀ x ∈ s.dO, lJ n x) (Wt : ∀ k ∈ s.cases, ∀ x ∈ k.body, lJ n x) : lJ (n + 1) s := by
 intro c d p B T hB hp hd
 obtain ⟨N, hn⟩ : ∃ N, B.length = N := ⟨_, rfl⟩
 have hc := (List.getElem?_eq_some_iff.1 hB).1
 have hi : c < N := by omega
 have dM : c < N + 1 := by omega
 have dm : N < N + 1 := by omega
 have xp := aI (d + 1) (by omega)
 have SF := aI (d + 2) (by omega)
 generalize cw : iN (n + 1) s d p = res
 rw [Lh] at cw
 have vP := lf c d p (B ++ [wW s]) T (by rw [ai hc]; exact hB) hp
 have dG := fun q : Int => Lf s (B.set c [.d (.int .i64 q)] ++ [wW s]) T
 unfold zZ at dG ⊢
 simp only [wW] at vP dG
 refine Yg.go 6 rfl fun bh => ?_
 simp only [eI] at bh
 simp only [W, seval, fF, hn, hi]
 refine af.join (fun _ : Unit => (bu 97 [(0, .ptr c 0), (2, .d (.int .i64 d)), (4, .ptr N 0)], ⟨B.set c [.d (.int .i64 (p + 1))] ++ [wW s], T⟩)) (fun _ => bt d p = true ∧ iz s = true ∧ s.cases.length ≤ 40) ?_ ?_
 rotate_left
 ·intro K' hK
  refine af.Hi 200 ?_
  simp only [W, seval, fF, hn, hi]
  refine ag vP ?_
  rintro _ _ ⟨rfl, rfl⟩
  refine af.My 200 ?_
  simp only [W, seval, fF, hn, hi]
  cases hk : bt d p
  ·rw [cg (show (cG d p).1 = false from hk)] at cw
   simp only [W, seval, fF, hk, hn, hi]
   refine af.ret Tryz.func132 rfl (Left.set (by rfl) ?_)
   rw [← cw]
   (try clear ih)
   (try simp only [jc] at *)
   simp only [jb, seval, aB] <;> simp [*]
   rfl
  ·have IA := jf hk
   rw [bw (show (cG d p).1 = true from hk)] at cw
   simp only [W, seval, fF, hk, hn, hi]
   refine ag (dG (p + 1)) ?_
   rintro _ _ ⟨rfl, rfl⟩
   refine af.My 200 ?_
   simp only [W, seval, fF, hn, hi]
   cases hz : iz s
   ·rw [cg (by rw [hz]; rfl)] at cw
    simp only [W, seval, fF, hk, hn, hi]
    refine af.ret Tryz.func132 rfl (Left.set (by rfl) ?_)
    rw [← cw]
    (try clear ih)
    (try simp only [jc] at *)
    simp only [jb, seval, aB] <;> simp [*]
    rfl
   ·simp only [W, seval, fF, hk, hn, hi]
    refine aS (fun Yj => ?_) (fun Yj => ?_)
    ·rw [cg (by rw [hz, decide_eq_false (by have := of_decide_eq_true Yj; omega)]; rfl)] at cw
     simp only [W, seval, fF, hk, hn, hi]
     refine af.ret Tryz.func132 rfl (Left.set (by rfl) ?_)
     rw [← cw]
     (try clear ih)
     (try simp only [jc] at *)
     simp only [jb, seval, aB] <;> simp [*]
     rfl
    ·simp only [W, seval, fF, hk, hn, hi]
     refine hK () ⟨hk, hz, by have := of_decide_eq_false Yj; omega⟩ _ _ ?_ rfl
     refine ay.env _ ?_
     simp only [cZ, seval, hn]
 ·rintro ⟨⟩ ⟨hk, hz, jY⟩
  have IA := jf hk
  rw [bw (show (cG d p).1 = true from hk), bw (by simp [cN, hz, jY])] at cw
  change aY _ _ (p + 1) = res at cw
  clear vP dG
  dsimp only [wW]
  refine af.go 1 ?_
  simp only [W, seval, fF]
  refine af.join (fun q : Int => (bu 97 [(0, .ptr c 0), (2, .d (.int .i64 d)), (4, .ptr N 0)], ⟨B.set c [.d (.int .i64 q)] ++ [wW s], T⟩)) (fun q => (0 ≤ q ∧ q ≤ 60000) ∧ aY (sL (iN n) d [] s.cases) (Co n s d) q = res) ?_ ?_
  rotate_left
  ·intro K' hK
   by_cases k1 : s.kind = 1
   ·rw [if_pos k1] at cw
    have e1 := decide_eq_true k1
    refine af.Hi 200 ?_
    simp only [W, seval, fF, hn, hi, xp, e1]
    refine ag (vM s.type c (d + 1) (p + 1) _ T (by rw [ai (by simp; omega)]; exact eF hc) ⟨by omega, by omega⟩ ⟨by omega, by omega⟩) ?_
    rintro _ _ ⟨rfl, rfl⟩
    have wX := qp ak s.type (d + 1) (p + 1)
    obtain ⟨⟨b, q⟩, fk⟩ : ∃ r, eV ak s.type (d + 1) (p + 1) = r := ⟨_, rfl⟩
    rw [fk] at wX
    refine af.My 200 ?_
    simp only [W, seval, fF, hn, hi, fk]
    cases b
    ·rw [cg (by rw [fk]), fk] at cw
     simp only [W, seval, fF, hn, hi]
     refine af.ret Tryz.func132 rfl (Left.set (by rfl) ?_)
     rw [← cw]
     (try clear ih)
     (try simp only [jc] at *)
     simp only [jb, seval, aB] <;> simp [*]
     skip
    ·rw [bw (by rw [fk]), fk] at cw
     have wX := wX rfl
     simp only [W, seval, fF, hn, hi]
     refine hK q ⟨⟨by omega, wX.2⟩, cw⟩ _ _ ?_ rfl
     refine ay.env _ ?_
     simp only [cZ, seval, hn]
   ·rw [if_neg k1, bw rfl] at cw
    have e1 := decide_eq_false k1
    refine af.Hi 200 ?_
    simp only [W, seval, fF, hn, hi, xp, e1]
    refine hK (p + 1) ⟨⟨by omega, IA.1⟩, cw⟩ _ _ ?_ rfl
    refine ay.env _ ?_
    simp only [cZ, seval, hn]
  ·rintro q ⟨hq, Li⟩
   clear cw
   dsimp only [wW]
   refine af.go 20 ?_
   simp only [W, seval, fF, hn, hi]
   refine af.fits fun hf => ?_
   have UG : ∀ q' : Int, Fits ⟨B.set c [.d (.int .i64 q')] ++ [[.d (.int .i64 s.kind), .d (.sl (gu s.names)), .d (.int .i64 s.type.kind), .d (.str s.type.name), .d (.sl (s.type.elem.map ej)), .d (.sl (s.aG.map eH)), .d (.sl (s.exprs.map eH)), .d (.sl (s.body.map dL)), .d (.sl (s.dO.map dL)), .d (.sl (s.cases.map jJ))]], T⟩ := fun q' => by
    have := hf.set (i := c) (vs := [.d (.int .i64 q')]) rfl
    rwa [gK (by simp; omega), List.set_set] at this
   refine af.small fun ET => ?_
   have Rb : (s.cases.length : Int) ≤ 40 := by omega
   clear ET
   refine af.ir (fun a : Nat × Int => (bu 97 [(0, .ptr c 0), (2, .d (.int .i64 d)), (4, .ptr N 0), (37, .d (.sl (s.cases.map jJ))), (38, .d (.int .i64 s.cases.length)), (39, .d (.int .i64 a.1))], ⟨B.set c [.d (.int .i64 a.2)] ++ [[.d (.int .i64 s.kind), .d (.sl (gu s.names)), .d (.int .i64 s.type.kind), .d (.str s.type.name), .d (.sl (s.type.elem.map ej)), .d (.sl (s.aG.map eH)), .d (.sl (s.exprs.map eH)), .d (.sl (s.body.map dL)), .d (.sl (s.dO.map dL)), .d (.sl (s.cases.map jJ))]], T⟩)) (fun a => a.1 ≤ s.cases.length ∧ (0 ≤ a.2 ∧ a.2 ≤ 60000) ∧ aY (sL (iN n) d ((s.cases.take a.1).map cQ.int) (s.cases.drop a.1)) (Co n s d) a.2 = res) (fun a => s.cases.length - a.1) (0, q) ⟨by omega, hq, Li⟩ ?_ rfl ?_
   ·skip
    refine ay.env _ ?_
    simp only [cZ, seval, hn]
   rintro ⟨i, r⟩ ⟨h1, h2, h3⟩ ih
   dsimp only at h1 h2 h3 ih ⊢
   by_cases au : i < s.cases.length
   ·have hw := aI ((i : Int) + 1) (by omega)
    have hg := List.getElem?_eq_getElem au
    have aH : decide ((i : Int) < (s.cases.length : Int)) = true := decide_eq_true (by omega)
    have hle : (i : Int) ≤ (s.cases.length : Int) := by omega
    have Ac : decide ((i : Int) ≤ (s.cases.length : Int)) = true := decide_eq_true hle
    rw [bW au, yx, cW] at h3
    obtain ⟨x, hx⟩ : ∃ x, s.cases[i] = x := ⟨_, rfl⟩
    rw [hx] at hg h3
    have hmt : (s.cases.map jJ).take i = (s.cases.take i).map jJ := (List.map_take).symm
    have vP := lf c (d + 1) r
    refine af.go 200 ?_
    simp only [W, seval, fF, hn, hi, xp, List.getElem?_map, hg, aH, gr]
    refine ag (vP _ T (by rw [ai (by simp; omega)]; exact eF hc) h2) ?_
    rintro _ _ ⟨rfl, rfl⟩
    refine af.go 200 ?_
    simp only [W, seval, fF, hn, hi, xp]
    cases UH : bt (d + 1) r
    ·rw [cg (show (cG (d + 1) r).1 = false from UH)] at h3
     simp only [W, seval, fF, hn, hi, UH]
     refine af.ret Tryz.func132 rfl (Left.set (by rfl) ?_)
     rw [← h3]
     (try clear ih)
     (try simp only [jc] at *)
     simp only [jb, seval, aB] <;> simp [*]
     rfl
    ·have UI := jf UH
     rw [bw (show (cG (d + 1) r).1 = true from UH), cW] at h3
     change aY _ _ (r + 1) = res at h3
     simp only [W, seval, fF, hn, hi, UH, hle, Ac, hmt]
     have Cn := fun S => rA 164 [] [.ptr (N + 1) 0] (fun _ : Unit => S) (fun y s => (decide (y.int = x.int), s)) (fun _ _ => ⟨rfl, rfl⟩) (s.cases.take i) (by simp; omega) ()
     refine ag (Cn _ (lp (s.cases.take i) fun y _ => Lg x y (N + 1) _ _ T (by rw [dx (by simpa using hn)]; rfl))) ?_
     rintro _ _ ⟨rfl, rfl⟩
     rw [je, yw]
     refine af.go 200 ?_
     simp only [W, seval, fF, hn, hi, SF]
     cases oF : ((s.cases.take i).map cQ.int).contains x.int
     ·rw [bw (by rw [oF]; rfl), cW] at h3
      change aY _ _ (r + 1) = res at h3
      simp only [W, seval, fF, hn, hi, oF, SF]
      refine ag (rC n x.body (Wt x (by rw [← hx]; exact List.getElem_mem au)) c (d + 2) (r + 1) _ T (by rw [ai (by simp; omega)]; exact eF hc) ⟨by omega, UI.1⟩ ⟨by omega, by omega⟩) ?_
      rintro _ _ ⟨rfl, rfl⟩
      have wY := (aJ.row (f := fun s => iN n s (d + 2)) (c := DB n) x.body fun y _ => aJ.st n y (d + 2)).up (r + 1)
      have tI := bF.row (f := fun s => iN n s (d + 2)) (fun y => bF.st n y (d + 2)) x.body (r + 1) UI.1
      obtain ⟨⟨b, q2⟩, aA⟩ : ∃ z, dB (fun s => iN n s (d + 2)) x.body (r + 1) = z := ⟨_, rfl⟩
      rw [aA] at wY tI
      refine af.go 200 ?_
      simp only [W, seval, fF, hn, hi, aA]
      cases b
      ·rw [cg (by rw [aA]), aA] at h3
       simp only [W, seval, fF, hn, hi]
       refine af.ret Tryz.func132 rfl (Left.set (by rfl) ?_)
       rw [← h3]
       (try clear ih)
       (try simp only [jc] at *)
       simp only [jb, seval, aB] <;> simp [*]
       skip
      ·rw [bw (by rw [aA]), aA] at h3
       have wY := wY rfl
       have tI := tI rfl
       simp only [W, seval, fF, hn, hi, hw]
       have yd : (s.cases.take (i + 1)).map cQ.int = (s.cases.take i).map cQ.int ++ [x.int] := by
        rw [List.take_succ_eq_append_getElem au, List.map_append, hx]
        rfl
       rw [Yh]
       refine ih (i + 1, q2) ⟨au, ⟨by dsimp only; omega, tI⟩, ?_⟩ (by dsimp only; omega) _ _ _ _ rfl ⟨by simp; omega, Nat.le_refl _⟩ (UG q2) ?_
       ·dsimp only
        rw [yd]
        exact h3
       ·skip
        refine cC.env _ ?_
        simp only [yq, seval, hn, List.length_append, List.length_cons, List.length_nil, Nat.zero_add, dM, dm]
     ·rw [cg (by rw [oF]; rfl)] at h3
      simp only [W, seval, fF, hn, hi, oF]
      refine af.ret Tryz.func132 rfl (Left.set (by rfl) ?_)
      rw [← h3]
      (try clear ih)
      (try simp only [jc] at *)
      simp only [jb, seval, aB] <;> simp [*]
      rfl
   ·have aH : decide ((i : Int) < (s.cases.length : Int)) = false := decide_eq_false (by omega)
    rw [List.drop_eq_nil_of_le (by omega), bw rfl] at h3
    change Co n s d r = res at h3
    unfold Co at h3
    refine af.go 200 ?_
    simp only [W, seval, fF, hn, hi, aH, xp]
    refine ag (vO s.aG (fun x _ => Aa x) c (d + 1) 40 r _ T (by rw [ai (by simp; omega)]; exact eF hc) h2 ⟨by omega, by omega⟩) ?_
    rintro _ _ ⟨rfl, rfl⟩
    have wY := (aJ.fo s.aG (d + 1)).up r
    have tI := bF.fo s.aG (d + 1) r h2.2
    have he := Cp s.aG (d + 1) r
    obtain ⟨⟨b1, q1⟩, UJ⟩ : ∃ z, fo s.aG (d + 1) r = z := ⟨_, rfl⟩
    rw [UJ] at wY tI he
    obtain ⟨Oc, J8⟩ := Prod.mk.inj he
    rw [← Oc, ← J8]
    clear he Oc J8
    refine af.go 200 ?_
    simp only [W, seval, fF, hn, hi, xp]
    cases b1
    ·rw [cg (by rw [UJ]), UJ] at h3
     simp only [W, seval, fF, hn, hi, xp]
     refine af.ret Tryz.func132 rfl (Left.set (by rfl) ?_)
     rw [← h3]
     (try clear ih)
     (try simp only [jc] at *)
     simp only [jb, seval, aB] <;> simp [*]
     skip
    rw [bw (by rw [UJ]), UJ] at h3
    dsimp only at h3
    have Yk := wY rfl
    have Rx := tI rfl
    dsimp only at Yk Rx
    simp only [W, seval, fF, hn, hi, xp]
    refine ag (vO s.exprs (fun x _ => Aa x) c (d + 1) 40 q1 _ T (by rw [ai (by simp; omega)]; exact eF hc) ⟨by omega, Rx⟩ ⟨by omega, by omega⟩) ?_
    rintro _ _ ⟨rfl, rfl⟩
    have wY := (aJ.fo s.exprs (d + 1)).up q1
    have tI := bF.fo s.exprs (d + 1) q1 Rx
    have he := Cp s.exprs (d + 1) q1
    obtain ⟨⟨b2, q2⟩, SL⟩ : ∃ z, fo s.exprs (d + 1) q1 = z := ⟨_, rfl⟩
    rw [SL] at wY tI he
    obtain ⟨Oc, J8⟩ := Prod.mk.inj he
    rw [← Oc, ← J8]
    clear he Oc J8
    refine af.go 200 ?_
    simp only [W, seval, fF, hn, hi, xp]
    cases b2
    ·rw [cg (by rw [SL]), SL] at h3
     simp only [W, seval, fF, hn, hi, xp]
     refine af.ret Tryz.func132 rfl (Left.set (by rfl) ?_)
     rw [← h3]
     (try clear ih)
     (try simp only [jc] at *)
     simp only [jb, seval, aB] <;> simp [*]
     skip
    rw [bw (by rw [SL]), SL] at h3
    dsimp only at h3
    have IF := wY rfl
    have xE := tI rfl
    dsimp only at IF xE
    simp only [W, seval, fF, hn, hi, xp]
    refine ag (rC n s.body Gi c (d + 1) q2 _ T (by rw [ai (by simp; omega)]; exact eF hc) ⟨by omega, xE⟩ ⟨by omega, by omega⟩) ?_
    rintro _ _ ⟨rfl, rfl⟩
    have wY := (aJ.row (f := fun s => iN n s (d + 1)) (c := DB n) s.body fun y _ => aJ.st n y (d + 1)).up q2
    have tI := bF.row (f := fun s => iN n s (d + 1)) (fun y => bF.st n y (d + 1)) s.body q2 xE
    obtain ⟨⟨b3, q3⟩, SM⟩ : ∃ z, dB (fun s => iN n s (d + 1)) s.body q2 = z := ⟨_, rfl⟩
    rw [SM] at wY tI
    refine af.go 200 ?_
    simp only [W, seval, fF, hn, hi, xp, SM]
    cases b3
    ·rw [cg (by rw [SM]), SM] at h3
     simp only [W, seval, fF, hn, hi, xp]
     refine af.ret Tryz.func132 rfl (Left.set (by rfl) ?_)
     rw [← h3]
     (try clear ih)
     (try simp only [jc] at *)
     simp only [jb, seval, aB] <;> simp [*]
     skip
    rw [bw (by rw [SM]), SM] at h3
    dsimp only at h3
    have IG := wY rfl
    have Cq := tI rfl
    dsimp only at IG Cq
    simp only [W, seval, fF, hn, hi, xp]
    refine ag (rC n s.dO Yi c (d + 1) q3 _ T (by rw [ai (by simp; omega)]; exact eF hc) ⟨by omega, Cq⟩ ⟨by omega, by omega⟩) ?_
    rintro _ _ ⟨rfl, rfl⟩
    rw [h3]
    refine af.go 200 ?_
    simp only [W, seval, fF, hn, hi, xp]
    refine af.ret Tryz.func132 rfl (Left.set (by rfl) ?_)
    (try clear ih)
    (try simp only [jc] at *)
    simp only [jb, seval, aB] <;> simp [*]
    skip
def Dp : Nat → aF → Prop
 | 0, _ => False
 | n + 1, s => (∀ x ∈ s.body, Dp n x) ∧ (∀ x ∈ s.dO, Dp n x) ∧ ∀ k ∈ s.cases, ∀ x ∈ k.body, Dp n x
theorem uA : ∀ (n : Nat) (s : aF), Dp n s → lJ n s
 | 0, _, h => h.elim
 | n + 1, s, h => IE n s (fun x hx => uA n x (h.1 x hx)) (fun x hx => uA n x (h.2.1 x hx)) (fun k hk x hx => uA n x (h.2.2 k hk x hx))
theorem Dp.uB : ∀ (n : Nat) (s : aF), SizeOf.sizeOf s ≤ n → Dp n s
 | 0, s, h => by
  cases s with
  | mk k ns ty ls es b e cs => simp at h
 | n + 1, s, h => by
  cases s with
  | mk k ns ty ls es b e cs =>
   have h0 : 1 + SizeOf.sizeOf b + SizeOf.sizeOf e + SizeOf.sizeOf cs ≤ n + 1 := by
    simp only [aF.mk.sizeOf_spec] at h
    omega
   refine ⟨fun x hx => Dp.uB n x ?_, fun x hx => Dp.uB n x ?_, fun c hc x hx => Dp.uB n x ?_⟩
   ·have := List.sizeOf_lt_of_mem (show x ∈ b from hx)
    omega
   ·have := List.sizeOf_lt_of_mem (show x ∈ e from hx)
    omega
   ·have h1 := List.sizeOf_lt_of_mem (show c ∈ cs from hc)
    have h2 := List.sizeOf_lt_of_mem hx
    have h3 : SizeOf.sizeOf c.body ≤ SizeOf.sizeOf c := by
     cases c with
     | mk i b => simp only [cQ.body, cQ.mk.sizeOf_spec]; omega
    omega
def II := by
 have c := aN Tryz.f92 (by conv => lhs; cbv)
 dsimp only [KK, fj, eR, eS, List.map_cons, List.map_nil, List.toList_toArray] at c
 exact c
theorem b92 : bK Tryz.prog 92 Tryz.f92 40 := ⟨Tryz.func92, by kernel_rfl⟩
theorem bX : List.mapM mE [] = some [] := rfl
theorem bH (x : D) (l : List V) : List.mapM mE (.d x :: l) = (List.mapM mE l).map (x :: ·) := by
 rw [List.mapM_cons]
 show (some x).bind _ = _
 rw [Option.bind_some]
 cases List.mapM mE l <;> rfl
theorem Lj {c : Cx} {w : World} {rows : List (List D)} {tk : Tok} {v : Value} (h : VR c w (.sl rows tk) v) : VR c w (.d (.sl rows)) v := by
 cases h with
 | full _ a h ha => exact .d _ _ h
 | own _ t a cap i h ht hr hn hl => exact .d _ _ h
theorem Ll {P : Program} {I : Inv} {f : FuncId} {rows : List (List D)} {tk : Tok} {S : Mem} {R : V → Mem → Prop} (h : aD P I f [.d (.sl rows)] S R) : aD P I f [.sl rows tk] S R :=
 ⟨h.1, fun c w xs h1 h2 h3 hI => h.2 c w xs h1 (fun j hj => by
  have Tp : j = 0 := by simpa using hj
  subst Tp
  exact Lj (h2 0 (by simp))) h3 hI⟩
theorem Gj {B : List (List V)} {T K : List (Nat × Nat)} {R : V → Mem → Prop} {v : V} {i : Nat} {vs : List V} (hf : vs.all (fit B.length T.length) = true) (h : R (wk B.length T.length v) ⟨B.set i vs, T⟩) : Ab.Left ⟨B, T⟩ R v ⟨B.set i vs, T ++ K⟩ := by
 have := Left.sq (J := []) (K := K) hf h
 rwa [List.append_nil] at this
theorem Oe (jz : Nat) (l : List bI) (p : Int) : ER jz l p = aY (dB (fun x : bI => aY (cG 0) (fun p => eV ak x.type 0 p)) l) (cN (decide (l.length ≤ jz) && gk l.length (l.map bI.name))) p := rfl
set_option maxHeartbeats 4000000 in
theorem yz (jz : Nat) (_ : jz ≤ 1000) (l : List bI) (c : Nat) (p : Int) (B : List (List V)) (T : List (Nat × Nat)) (hB : B[c]? = some [.d (.int .i64 p)]) (hp : 0 ≤ p ∧ p ≤ 60000) :
 aD Tryz.prog av 92 [.ptr c 0, .d (.sl (l.map gI)), .d (.int .i64 jz)] ⟨B, T⟩ (aB (.d (.bool (ER jz l p).1)) ⟨B.set c [.d (.int .i64 (ER jz l p).2)], T⟩) := by
 obtain ⟨N, hn⟩ : ∃ N, B.length = N := ⟨_, rfl⟩
 obtain ⟨M, hM⟩ : ∃ M, T.length = M := ⟨_, rfl⟩
 have hc := (List.getElem?_eq_some_iff.1 hB).1
 have hi : c < N := by omega
 have IB : B.set c [.d (.int .i64 p)] = B := by
  obtain ⟨_, h⟩ := List.getElem?_eq_some_iff.1 hB
  rw [← h, List.set_getElem_self]
 generalize cw : ER jz l p = res
 rw [Oe] at cw
 refine b92.go 14 rfl fun bh => ?_
 simp only [eI] at bh
 simp only [W, seval, II, hn, hi]
 refine af.fits fun hf => ?_
 refine af.token 7 [] (by rfl) 1 (by omega) rfl ?_
 simp only [ko, hM]
 refine af.go 20 ?_
 simp only [W, seval, II, hn, hi]
 refine af.ir (fun a : Nat × Int => (bu 40 [(0, .ptr c 0), (1, .d (.sl (l.map gI))), (2, .d (.int .i64 jz)), (6, .d (.bool false)), (7, .sl (gu ((l.take a.1).map bI.name)) (.own M)), (10, .d (.sl (l.map gI))), (11, .d (.int .i64 l.length)), (12, .d (.int .i64 a.1))], ⟨B.set c [.d (.int .i64 a.2)], T ++ [(a.1, 1)]⟩)) (fun a => a.1 ≤ l.length ∧ ((a.1 : Int) ≤ a.2 ∧ a.2 ≤ 60000) ∧ aY (dB (fun x : bI => aY (cG 0) (fun p => eV ak x.type 0 p)) (l.drop a.1)) (cN (decide (l.length ≤ jz) && gk l.length (l.map bI.name))) a.2 = res) (fun a => l.length - a.1) (0, p) ⟨by omega, hp, cw⟩ ?_ (by rw [IB]) ?_
 ·skip
  refine ay.env _ ?_
  simp only [cZ, seval, hn]
  trivial
 rintro ⟨i, q⟩ ⟨h1, h2, h3⟩ ih
 dsimp only at h1 h2 h3 ih ⊢
 by_cases au : i < l.length
 ·have hw := aI ((i : Int) + 1) (by omega)
  have aH : decide ((i : Int) < (l.length : Int)) = true := decide_eq_true (by omega)
  have hg := List.getElem?_eq_getElem au
  have xm : min i l.length = i := by omega
  have ek : (i + 1) * 16 ≤ 140737488355328 := by omega
  have PI : gu ((l.take i).map bI.name) ++ [[.str l[i].name]] = gu ((l.take (i + 1)).map bI.name) := by
   rw [List.take_succ_eq_append_getElem au, List.map_append]
   simp [gu]
  have Yl : ∀ s : List UInt8, cV 1 [[D.str s]] = true := fun _ => rfl
  have hM1 : M < M + 1 := by omega
  rw [bW au] at h3
  change aY (aY (aY (cG 0) (fun p => eV ak l[i].type 0 p)) (dB _ (l.drop (i + 1)))) _ q = res at h3
  rw [cW, cW] at h3
  refine af.go 100 ?_
  simp only [W, seval, II, hn, hi, hM, List.getElem?_map, hg, aH, gI, xm, List.length_take, ek, PI, bX, bH, Nat.reduceMul, Yl]
  refine ag (lf c 0 q _ _ (by rw [ai (by simp; omega)]; exact eF hc) ⟨by omega, h2.2⟩) ?_
  rintro _ _ ⟨rfl, rfl⟩
  refine af.go 200 ?_
  simp only [W, seval, II, hn, hi, hM]
  cases hk : bt 0 q
  ·rw [cg (show (cG 0 q).1 = false from hk)] at h3
   simp only [W, seval, II, hn, hi, hk]
   refine af.ret Tryz.func92 rfl (Left.sq rfl ?_)
   rw [← h3]
   (try clear ih)
   (try simp only [jc] at *)
   simp only [jb, seval, aB] <;> simp [*]
   rfl
  ·have IA := jf hk
   rw [bw (show (cG 0 q).1 = true from hk)] at h3
   change aY _ _ (q + 1) = res at h3
   simp only [W, seval, II, hn, hi, hk]
   refine ag (vM l[i].type c 0 (q + 1) _ _ (by rw [ai (by simp; omega)]; exact eF hc) ⟨by omega, IA.1⟩ ⟨by omega, by omega⟩) ?_
   rintro _ _ ⟨rfl, rfl⟩
   have wX := qp ak l[i].type 0 (q + 1)
   obtain ⟨⟨b, r⟩, fk⟩ : ∃ z, eV ak l[i].type 0 (q + 1) = z := ⟨_, rfl⟩
   rw [fk] at wX
   refine af.go 200 ?_
   simp only [W, seval, II, hn, hi, hM, fk]
   cases b
   ·rw [cg (by rw [fk]), fk] at h3
    simp only [W, seval, II, hn, hi]
    refine af.ret Tryz.func92 rfl (Left.sq rfl ?_)
    rw [← h3]
    (try clear ih)
    (try simp only [jc] at *)
    simp only [jb, seval, aB] <;> simp [*]
    skip
   ·rw [bw (by rw [fk]), fk] at h3
    have wX := wX rfl
    dsimp only at wX h3
    simp only [W, seval, II, hn, hi, hM, hw]
    refine ih (i + 1, r) ⟨au, ⟨by dsimp only; omega, wX.2⟩, h3⟩ (by dsimp only; omega) _ _ _ _ rfl ⟨by simp; omega, by simp; omega⟩ ?_ ?_
    ·have := Fits.more (X := []) (Y := [(i + 1, 1)]) (Fits.set hf (i := c) (vs := [.d (.int .i64 r)]) rfl) (fun vs hv => absurd hv List.not_mem_nil)
     rwa [List.append_nil] at this
    ·skip
     refine cC.env _ ?_
     simp only [yq, seval, hn, hi, hM, List.length_append, List.length_cons, List.length_nil, Nat.zero_add, hM1]
 ·have aH : decide ((i : Int) < (l.length : Int)) = false := decide_eq_false (by omega)
  rw [List.drop_eq_nil_of_le (by omega), bw rfl] at h3
  have jF : l.take i = l := List.take_of_length_le (by omega)
  have JD : decide ((l.length : Int) ≤ (jz : Int)) = decide (l.length ≤ jz) := decide_eq_decide.2 (by omega)
  refine af.go 200 ?_
  simp only [W, seval, II, hn, hi, hM, aH, jF, JD]
  cases hle : decide (l.length ≤ jz)
  ·simp only [W, seval, II, hn, hi, hM]
   refine af.ret Tryz.func92 rfl (Gj rfl ?_)
   rw [← h3, hle]
   (try clear ih)
   (try simp only [jc] at *)
   simp only [jb, seval, aB] <;> simp [*]
   exact ⟨rfl, rfl⟩
  ·simp only [W, seval, II, hn, hi, hM]
   refine ag (Ll (rB (l.map bI.name) (by simp; have := of_decide_eq_true hle; omega) _ _)) ?_
   rintro _ _ ⟨rfl, rfl⟩
   refine af.go 200 ?_
   simp only [W, seval, II, hn, hi, hM]
   refine af.ret Tryz.func92 rfl (Gj rfl ?_)
   rw [← h3, hle]
   (try clear ih)
   (try simp only [jc] at *)
   simp only [jb, seval, aB] <;> simp [*]
   exact ⟨rfl, rfl⟩
def c93 := by
 have c := aN Tryz.f93 (by conv => lhs; cbv)
 dsimp only [KK, fj, eR, eS, List.map_cons, List.map_nil, List.toList_toArray] at c
 exact c
theorem b93 : bK Tryz.prog 93 Tryz.f93 8 := ⟨Tryz.func93, by kernel_rfl⟩
def pF := by
 have c := aN Tryz.f46 (by conv => lhs; cbv)
 dsimp only [KK, fj, eR, eS, List.map_cons, List.map_nil, List.toList_toArray] at c
 exact c
theorem b46 : bK Tryz.prog 46 Tryz.f46 80 := ⟨Tryz.func46, by kernel_rfl⟩
def c16 := by
 have c := aN Tryz.f16 (by conv => lhs; cbv)
 dsimp only [KK, fj, eR, eS, List.map_cons, List.map_nil, List.toList_toArray] at c
 exact c
theorem b16 : bK Tryz.prog 16 Tryz.f16 6 := ⟨Tryz.func16, by kernel_rfl⟩
set_option maxHeartbeats 1000000 in
theorem Lm (x : az) (a c : Nat) (p : Int) (B : List (List V)) (T : List (Nat × Nat)) (hB : B[c]? = some [.d (.int .i64 p)]) (ha : B[a]? = some [.ptr c 0]) (hp : 0 ≤ p ∧ p ≤ 60000) :
 aD Tryz.prog av 93 [aT x, .ptr a 0] ⟨B, T⟩ (aB (.d (.bool (!(eV ak x 0 p).1))) ⟨B.set c [.d (.int .i64 (eV ak x 0 p).2)], T⟩) := by
 obtain ⟨N, hn⟩ : ∃ N, B.length = N := ⟨_, rfl⟩
 have hc := (List.getElem?_eq_some_iff.1 hB).1
 have hi : c < N := by omega
 have vj : a < N := by have := (List.getElem?_eq_some_iff.1 ha).1; omega
 have h := vM x c 0 p (B ++ [[.d (.int .i64 x.kind), .d (.str x.name), .d (.sl (x.elem.map ej))]]) T (by rw [ai hc]; exact hB) hp (by omega)
 unfold aT at h ⊢
 refine b93.go 100 rfl fun bh => ?_
 simp only [eI] at bh
 simp only [W, seval, c93, hn, hi, vj, ha]
 refine ag (h) ?_
 rintro _ _ ⟨rfl, rfl⟩
 refine af.go 100 ?_
 simp only [W, seval, c93, hn, hi, vj, ha]
 refine af.ret Tryz.func93 rfl (Left.set (by rfl) ?_)
 (try clear ih)
 (try simp only [jc] at *)
 simp only [jb, seval, aB] <;> simp [*]
 skip
theorem Gk (a c : Nat) (B X : List (List V)) (T : List (Nat × Nat)) (hc : c < B.length) (ha : ∀ q : Int, (B.set c [.d (.int .i64 q)] ++ X)[a]? = some [.ptr c 0]) :
 ∀ (l : List az) (q : Int), 0 ≤ q ∧ q ≤ 60000 → Good Tryz.prog av 93 [] [.ptr a 0] aT (fun q : Int => ⟨B.set c [.d (.int .i64 q)] ++ X, T⟩) (fun x q => (!(eV ak x 0 q).1, (eV ak x 0 q).2)) l q
 | [], _, _ => trivial
 | x :: l, q, hq => by
  have Ic : c < (B.set c [.d (.int .i64 q)]).length := by simpa using hc
  refine ⟨?_, fun h => ?_⟩
  ·have := Lm x a c q (B.set c [.d (.int .i64 q)] ++ X) T (by rw [ai Ic]; exact eF hc) (ha q) hq
   rw [gK Ic, List.set_set] at this
   exact this
  ·have h : (eV ak x 0 q).1 = true := by simpa using h
   have h1 := qp ak x 0 q h
   exact Gk a c B X T hc ha l _ ⟨Int.le_trans hq.1 (by dsimp only; omega), h1.2⟩
theorem UK {α : Type} (A : List α) (a b c : α) : A ++ [a, b, c] = (A ++ [a, b]) ++ [c] := by simp
set_option maxHeartbeats 4000000 in
theorem Of (n : Nat) (pr : oV) (jX : ∀ f ∈ pr.funcs, ∀ x ∈ f.body, lJ n x) (c : Nat) (p : Int) (B : List (List V)) (T : List (Nat × Nat)) (hB : B[c]? = some [.d (.int .i64 p)]) (hp : 0 ≤ p ∧ p ≤ 60000) :
 aD Tryz.prog av 46 [.ptr c 0, l7 pr] ⟨B, T⟩ (aB (.d (.bool (MG n pr p).1)) ⟨B.set c [.d (.int .i64 (MG n pr p).2)], T⟩) := by
 obtain ⟨N, hn⟩ : ∃ N, B.length = N := ⟨_, rfl⟩
 have hc := (List.getElem?_eq_some_iff.1 hB).1
 have hi : c < N := by omega
 have dM : c < N + 2 := by omega
 have dm : N < N + 2 := by omega
 have dQ : N + 1 < N + 2 := by omega
 have IB : B.set c [.d (.int .i64 p)] = B := by
  obtain ⟨_, h⟩ := List.getElem?_eq_some_iff.1 hB
  rw [← h, List.set_getElem_self]
 generalize cw : MG n pr p = res
 change aY (dB Io pr.structs) (dB (JC n) pr.funcs) p = res at cw
 unfold l7
 refine b46.go 7 rfl fun bh => ?_
 simp only [eI] at bh
 simp only [W, seval, pF, hn, hi]
 refine af.join (fun q : Int => (bu 80 [(2, .ptr N 0), (3, .ptr (N + 1) 0), (4, .d (.bool false))], ⟨B.set c [.d (.int .i64 q)] ++ [[.ptr c 0], [.d (.sl (pr.structs.map fJ)), .d (.sl (pr.funcs.map fK))]], T⟩)) (fun q => (0 ≤ q ∧ q ≤ 60000) ∧ dB (JC n) pr.funcs q = res) ?_ ?_
 rotate_left
 ·intro K' hK
  refine af.Hi 30 ?_
  simp only [W, seval, pF, hn, hi]
  refine af.fits fun hf => ?_
  have UG : ∀ q' : Int, Fits ⟨B.set c [.d (.int .i64 q')] ++ [[.ptr c 0], [.d (.sl (pr.structs.map fJ)), .d (.sl (pr.funcs.map fK))]], T⟩ := fun q' => by
   have := hf.set (i := c) (vs := [.d (.int .i64 q')]) rfl
   rwa [gK (by omega)] at this
  refine af.ir (fun a : Nat × Int => (bu 80 [(2, .ptr N 0), (3, .ptr (N + 1) 0), (4, .d (.bool false)), (10, .d (.sl (pr.structs.map fJ))), (11, .d (.int .i64 pr.structs.length)), (12, .d (.int .i64 a.1))], ⟨B.set c [.d (.int .i64 a.2)] ++ [[.ptr c 0], [.d (.sl (pr.structs.map fJ)), .d (.sl (pr.funcs.map fK))]], T⟩)) (fun a => a.1 ≤ pr.structs.length ∧ (0 ≤ a.2 ∧ a.2 ≤ 60000) ∧ aY (dB Io (pr.structs.drop a.1)) (dB (JC n) pr.funcs) a.2 = res) (fun a => pr.structs.length - a.1) (0, p) ⟨by omega, hp, cw⟩ ?_ (by rw [IB]) ?_
  ·skip
   refine ay.env _ ?_
   simp only [cZ, seval, hn]
  rintro ⟨i, q⟩ ⟨h1, h2, h3⟩ ih
  dsimp only at h1 h2 h3 ih ⊢
  by_cases au : i < pr.structs.length
  ·have hw := aI ((i : Int) + 1) (by omega)
   have hg := List.getElem?_eq_getElem au
   have aH : decide ((i : Int) < (pr.structs.length : Int)) = true := decide_eq_true (by omega)
   rw [bW au] at h3
   obtain ⟨x, hx⟩ : ∃ x, pr.structs[i] = x := ⟨_, rfl⟩
   rw [hx] at hg h3
   change aY (aY (Io x) (dB Io (pr.structs.drop (i + 1)))) (dB (JC n) pr.funcs) q = res at h3
   rw [cW] at h3
   change aY (aY (cG 0) (aY (cN (ak x.name)) (ER 60 x.fields))) _ q = res at h3
   rw [cW] at h3
   have Ln := yz 60 (by omega) x.fields c
   have Lo : ((60 : Nat) : Int) = 60 := rfl
   rw [Lo] at Ln
   refine af.Hi 100 ?_
   simp only [W, seval, pF, hn, hi, List.getElem?_map, hg, aH, fJ]
   refine ag (lf c 0 q _ _ (by rw [ai (by simp; omega)]; exact eF hc) h2) ?_
   rintro _ _ ⟨rfl, rfl⟩
   refine af.My 200 ?_
   simp only [W, seval, pF, hn, hi]
   cases hk : bt 0 q
   ·rw [cg (show (cG 0 q).1 = false from hk)] at h3
    simp only [W, seval, pF, hn, hi, hk]
    refine af.ret Tryz.func46 rfl (Left.set (by rfl) ?_)
    rw [← h3]
    (try clear ih)
    (try simp only [jc] at *)
    simp only [jb, seval, aB] <;> simp [*]
    rfl
   have IA := jf hk
   rw [bw (show (cG 0 q).1 = true from hk)] at h3
   change aY _ _ (q + 1) = res at h3
   rw [cW] at h3
   simp only [W, seval, pF, hn, hi, hk]
   refine ag (kC x.name _) ?_
   rintro _ _ ⟨rfl, rfl⟩
   refine af.My 200 ?_
   simp only [W, seval, pF, hn, hi]
   cases hid : ak x.name
   ·rw [cg (by rw [hid]; rfl)] at h3
    simp only [W, seval, pF, hn, hi]
    refine af.ret Tryz.func46 rfl (Left.set (by rfl) ?_)
    rw [← h3]
    (try clear ih)
    (try simp only [jc] at *)
    simp only [jb, seval, aB] <;> simp [*]
    rfl
   rw [bw (by rw [hid]; rfl)] at h3
   change aY _ _ (q + 1) = res at h3
   simp only [W, seval, pF, hn, hi]
   refine ag (Ln (q + 1) _ T (by rw [ai (by simp; omega)]; exact eF hc) ⟨by omega, IA.1⟩) ?_
   rintro _ _ ⟨rfl, rfl⟩
   have wY := (aJ.pa 60 x.fields).up (q + 1)
   have tI := bF.pa 60 x.fields (q + 1) IA.1
   obtain ⟨⟨b, r⟩, tJ⟩ : ∃ z, ER 60 x.fields (q + 1) = z := ⟨_, rfl⟩
   rw [tJ] at wY tI
   refine af.My 200 ?_
   simp only [W, seval, pF, hn, hi, tJ]
   cases b
   ·rw [cg (by rw [tJ]), tJ] at h3
    simp only [W, seval, pF, hn, hi]
    refine af.ret Tryz.func46 rfl (Left.set (by rfl) ?_)
    rw [← h3]
    (try clear ih)
    (try simp only [jc] at *)
    simp only [jb, seval, aB] <;> simp [*]
    skip
   ·rw [bw (by rw [tJ]), tJ] at h3
    have wY := wY rfl
    have tI := tI rfl
    dsimp only at wY tI h3
    simp only [W, seval, pF, hn, hi, hw]
    rw [UK]
    refine ih (i + 1, r) ⟨au, ⟨by dsimp only; omega, tI⟩, h3⟩ (by dsimp only; omega) _ _ _ _ rfl ⟨by simp; omega, Nat.le_refl _⟩ (UG r) ?_
    refine cC.env _ ?_
    simp only [yq, seval, hn, List.length_append, List.length_cons, List.length_nil, Nat.zero_add, Nat.reduceAdd, dm, dQ]
  ·have aH : decide ((i : Int) < (pr.structs.length : Int)) = false := decide_eq_false (by omega)
   rw [List.drop_eq_nil_of_le (by omega), bw rfl] at h3
   refine af.My 100 (k := [_, _, _]) (K := K') ?_
   simp only [W, seval, pF, hn, hi, aH]
   refine hK q ⟨h2, h3⟩ _ _ ?_ rfl
   refine ay.env _ ?_
   simp only [cZ, seval, hn]
 ·rintro q0 ⟨TE, Li⟩
  clear cw IB
  dsimp only
  refine af.go 20 ?_
  simp only [W, seval, pF, hn, hi]
  refine af.fits fun hf => ?_
  have UG : ∀ q' : Int, Fits ⟨B.set c [.d (.int .i64 q')] ++ [[.ptr c 0], [.d (.sl (pr.structs.map fJ)), .d (.sl (pr.funcs.map fK))]], T⟩ := fun q' => by
   have := hf.set (i := c) (vs := [.d (.int .i64 q')]) rfl
   rwa [gK (by simp; omega), List.set_set] at this
  refine af.ir (fun a : Nat × Int => (bu 80 [(2, .ptr N 0), (3, .ptr (N + 1) 0), (4, .d (.bool false)), (34, .d (.sl (pr.funcs.map fK))), (35, .d (.int .i64 pr.funcs.length)), (36, .d (.int .i64 a.1))], ⟨B.set c [.d (.int .i64 a.2)] ++ [[.ptr c 0], [.d (.sl (pr.structs.map fJ)), .d (.sl (pr.funcs.map fK))]], T⟩)) (fun a => a.1 ≤ pr.funcs.length ∧ (0 ≤ a.2 ∧ a.2 ≤ 60000) ∧ dB (JC n) (pr.funcs.drop a.1) a.2 = res) (fun a => pr.funcs.length - a.1) (0, q0) ⟨by omega, TE, Li⟩ ?_ rfl ?_
  ·skip
   refine ay.env _ ?_
   simp only [cZ, seval, hn]
  rintro ⟨i, q⟩ ⟨h1, h2, h3⟩ ih
  dsimp only at h1 h2 h3 ih ⊢
  by_cases au : i < pr.funcs.length
  ·have hw := aI ((i : Int) + 1) (by omega)
   have hg := List.getElem?_eq_getElem au
   have aH : decide ((i : Int) < (pr.funcs.length : Int)) = true := decide_eq_true (by omega)
   rw [bW au] at h3
   obtain ⟨x, hx⟩ : ∃ x, pr.funcs[i] = x := ⟨_, rfl⟩
   have hxm : x ∈ pr.funcs := by rw [← hx]; exact List.getElem_mem au
   rw [hx] at hg h3
   change aY (aY (cG 0) (aY (cN (ak x.name)) (aY (ER 20 x.params) (aY (cN (decide (1 ≤ x.results.length) && decide (x.results.length ≤ 20))) (aY (dB (fun t p => eV ak t 0 p) x.results) (dB (fun s => iN n s 0) x.body)))))) (dB (JC n) (pr.funcs.drop (i + 1))) q = res at h3
   rw [cW] at h3
   have Ln := yz 20 (by omega) x.params c
   have Lo : ((20 : Nat) : Int) = 20 := rfl
   rw [Lo] at Ln
   refine af.go 100 ?_
   simp only [W, seval, pF, hn, hi, List.getElem?_map, hg, aH, fK]
   refine ag (lf c 0 q _ _ (by rw [ai (by simp; omega)]; exact eF hc) h2) ?_
   rintro _ _ ⟨rfl, rfl⟩
   refine af.go 200 ?_
   simp only [W, seval, pF, hn, hi]
   cases hk : bt 0 q
   ·rw [cg (show (cG 0 q).1 = false from hk)] at h3
    simp only [W, seval, pF, hn, hi, hk]
    refine af.ret Tryz.func46 rfl (Left.set (by rfl) ?_)
    rw [← h3]
    (try clear ih)
    (try simp only [jc] at *)
    simp only [jb, seval, aB] <;> simp [*]
    rfl
   have IA := jf hk
   rw [bw (show (cG 0 q).1 = true from hk)] at h3
   change aY _ _ (q + 1) = res at h3
   rw [cW] at h3
   simp only [W, seval, pF, hn, hi, hk]
   refine ag (kC x.name _) ?_
   rintro _ _ ⟨rfl, rfl⟩
   refine af.go 200 ?_
   simp only [W, seval, pF, hn, hi]
   cases hid : ak x.name
   ·rw [cg (by rw [hid]; rfl)] at h3
    simp only [W, seval, pF, hn, hi]
    refine af.ret Tryz.func46 rfl (Left.set (by rfl) ?_)
    rw [← h3]
    (try clear ih)
    (try simp only [jc] at *)
    simp only [jb, seval, aB] <;> simp [*]
    rfl
   rw [bw (by rw [hid]; rfl)] at h3
   change aY _ _ (q + 1) = res at h3
   rw [cW] at h3
   simp only [W, seval, pF, hn, hi]
   refine ag (Ln (q + 1) _ T (by rw [ai (by simp; omega)]; exact eF hc) ⟨by omega, IA.1⟩) ?_
   rintro _ _ ⟨rfl, rfl⟩
   have wY := (aJ.pa 20 x.params).up (q + 1)
   have tI := bF.pa 20 x.params (q + 1) IA.1
   obtain ⟨⟨b, r⟩, tJ⟩ : ∃ z, ER 20 x.params (q + 1) = z := ⟨_, rfl⟩
   rw [tJ] at wY tI
   refine af.go 200 ?_
   simp only [W, seval, pF, hn, hi, tJ]
   cases b
   ·rw [cg (by rw [tJ]), tJ] at h3
    simp only [W, seval, pF, hn, hi]
    refine af.ret Tryz.func46 rfl (Left.set (by rfl) ?_)
    rw [← h3]
    (try clear ih)
    (try simp only [jc] at *)
    simp only [jb, seval, aB] <;> simp [*]
    skip
   rw [bw (by rw [tJ]), tJ] at h3
   have wY := wY rfl
   have tI := tI rfl
   dsimp only at wY tI h3
   rw [cW] at h3
   by_cases A7 : 1 ≤ x.results.length
   case neg =>
    have e1 : decide ((x.results.length : Int) < 1) = true := decide_eq_true (by omega)
    rw [cg (by rw [decide_eq_false A7]; rfl)] at h3
    simp only [W, seval, pF, hn, hi, e1]
    refine af.ret Tryz.func46 rfl (Left.set (by rfl) ?_)
    rw [← h3]
    (try clear ih)
    (try simp only [jc] at *)
    simp only [jb, seval, aB] <;> simp [*]
    rfl
   have e1 : decide ((x.results.length : Int) < 1) = false := decide_eq_false (by omega)
   by_cases PG : x.results.length ≤ 20
   case neg =>
    have e2 : decide ((20 : Int) < (x.results.length : Int)) = true := decide_eq_true (by omega)
    rw [cg (by rw [decide_eq_false PG, Bool.and_false]; rfl)] at h3
    simp only [W, seval, pF, hn, hi, e1, e2]
    refine af.ret Tryz.func46 rfl (Left.set (by rfl) ?_)
    rw [← h3]
    (try clear ih)
    (try simp only [jc] at *)
    simp only [jb, seval, aB] <;> simp [*]
    rfl
   have e2 : decide ((20 : Int) < (x.results.length : Int)) = false := decide_eq_false (by omega)
   rw [bw (by rw [decide_eq_true A7, decide_eq_true PG]; rfl)] at h3
   change aY _ _ r = res at h3
   rw [cW] at h3
   simp only [W, seval, pF, hn, hi, e1, e2]
   have hgd := Gk N c B [[.ptr c 0], [.d (.sl (pr.structs.map fJ)), .d (.sl (pr.funcs.map fK))], [.d (.str x.name), .d (.sl (x.params.map gI)), .d (.sl (x.results.map ej)), .d (.sl (x.body.map dL))]] T hc (fun q => by rw [cy (by simpa using hn)]; rfl) x.results r ⟨by omega, tI⟩
   have Cn := lg 93 [] [.ptr N 0] (fun q : Int => ⟨B.set c [.d (.int .i64 q)] ++ [[.ptr c 0], [.d (.sl (pr.structs.map fJ)), .d (.sl (pr.funcs.map fK))], [.d (.str x.name), .d (.sl (x.params.map gI)), .d (.sl (x.results.map ej)), .d (.sl (x.body.map dL))]], T⟩) (fun x q => (!(eV ak x 0 q).1, (eV ak x 0 q).2)) (fun _ _ => ⟨by simp, rfl⟩) x.results (by omega) r hgd
   rw [vQ (fun x => eV ak x 0)] at Cn
   refine ag Cn ?_
   rintro _ _ ⟨rfl, rfl⟩
   have IF := (aJ.row (f := fun t p => eV ak t 0 p) (c := xB) x.results fun t _ => aJ.ty t 0).up r
   have xE := bF.row (f := fun t p => eV ak t 0 p) (fun t => bF.ty t 0) x.results r tI
   obtain ⟨⟨b, r2⟩, fk⟩ : ∃ z, dB (fun t p => eV ak t 0 p) x.results r = z := ⟨_, rfl⟩
   rw [fk] at IF xE
   refine af.go 200 ?_
   simp only [W, seval, pF, hn, hi, fk]
   cases b
   ·rw [cg (by rw [fk]), fk] at h3
    simp only [W, seval, pF, hn, hi]
    refine af.ret Tryz.func46 rfl (Left.set (by rfl) ?_)
    rw [← h3]
    (try clear ih)
    (try simp only [jc] at *)
    simp only [jb, seval, aB] <;> simp [*]
    skip
   rw [bw (by rw [fk]), fk] at h3
   have IF := IF rfl
   have xE := xE rfl
   dsimp only at IF xE h3
   simp only [W, seval, pF, hn, hi]
   refine ag (rC n x.body (jX x hxm) c 0 r2 _ T (by rw [ai (by simp; omega)]; exact eF hc) ⟨by omega, xE⟩ ⟨by omega, by omega⟩) ?_
   rintro _ _ ⟨rfl, rfl⟩
   have IG := (aJ.row (f := fun s => iN n s 0) (c := DB n) x.body fun y _ => aJ.st n y 0).up r2
   have Cq := bF.row (f := fun s => iN n s 0) (fun y => bF.st n y 0) x.body r2 xE
   obtain ⟨⟨b, r3⟩, IJ⟩ : ∃ z, dB (fun s => iN n s 0) x.body r2 = z := ⟨_, rfl⟩
   rw [IJ] at IG Cq
   refine af.go 200 ?_
   simp only [W, seval, pF, hn, hi, IJ]
   cases b
   ·rw [cg (by rw [IJ]), IJ] at h3
    simp only [W, seval, pF, hn, hi]
    refine af.ret Tryz.func46 rfl (Left.set (by rfl) ?_)
    rw [← h3]
    (try clear ih)
    (try simp only [jc] at *)
    simp only [jb, seval, aB] <;> simp [*]
    skip
   rw [bw (by rw [IJ]), IJ] at h3
   have IG := IG rfl
   have Cq := Cq rfl
   dsimp only at IG Cq h3
   simp only [W, seval, pF, hn, hi, hw]
   rw [UK]
   refine ih (i + 1, r3) ⟨au, ⟨by dsimp only; omega, Cq⟩, h3⟩ (by dsimp only; omega) _ _ _ _ rfl ⟨by simp; omega, Nat.le_refl _⟩ (UG r3) ?_
   refine cC.env _ ?_
   simp only [yq, seval, hn, List.length_append, List.length_cons, List.length_nil, Nat.zero_add, Nat.reduceAdd, dm, dQ]
  ·have aH : decide ((i : Int) < (pr.funcs.length : Int)) = false := decide_eq_false (by omega)
   rw [List.drop_eq_nil_of_le (by omega)] at h3
   refine af.go 100 ?_
   simp only [W, seval, pF, hn, hi, aH]
   refine af.ret Tryz.func46 rfl (Left.set (by rfl) ?_)
   rw [← h3]
   (try clear ih)
   (try simp only [jc] at *)
   simp only [jb, seval, aB] <;> simp [*]
   rw [← h3]
   exact ⟨rfl, rfl⟩
set_option maxHeartbeats 1000000 in
theorem Lp (n : Nat) (pr : oV) (jX : ∀ f ∈ pr.funcs, ∀ x ∈ f.body, lJ n x) (B : List (List V)) (T : List (Nat × Nat)) :
 aD Tryz.prog av 16 [l7 pr] ⟨B, T⟩ (aB (.d (.bool (MG n pr 0).1)) ⟨B, T⟩) := by
 obtain ⟨N, hn⟩ : ∃ N, B.length = N := ⟨_, rfl⟩
 have h := Of n pr jX (N + 1) 0 (B ++ [[.d (.sl (pr.structs.map fJ)), .d (.sl (pr.funcs.map fK))], [.d (.int .i64 0)]]) T (by rw [dx hn]; rfl) (by omega)
 unfold l7 at h ⊢
 refine b16.go 100 rfl fun bh => ?_
 simp only [eI] at bh
 simp only [W, seval, c16, hn]
 refine ag h ?_
 rintro _ _ ⟨rfl, rfl⟩
 refine af.go 100 ?_
 simp only [W, seval, c16, hn]
 refine af.ret Tryz.func16 rfl (Left.box ?_)
 (try clear ih)
 (try simp only [jc] at *)
 simp only [jb, seval, aB] <;> simp [*]
 skip
end Go.Proofs.YtnfnbjjnjjdjdaaGreatDoor
namespace Go.Ab
open Go.RowKit Go.Av
def lookW : List (Nat × Nat × Nat × List Nat) → Nat → Nat → Option (Nat × List Nat)
 | [], _, _ => none
 | (f, r, p, A) :: l, g, s => match Nat.beq f g && Nat.beq r s with
  | true => some (p, A)
  | false => lookW l g s
end Go.Ab
namespace Go.Proofs.YtnfnbjjnjjdjdaaGreatDoor
open Go.RowKit Go.Av Go.Ab
set_option maxRecDepth 100000
def UL : List (Nat × Nat × Nat × List Nat) := [(101, 1, 14, [13]), (203, 7, 8, []), (21, 8, 5, []), (21, 10, 5, []), (60, 6, 5, []), (60, 12, 5, []),
 (207, 11, 5, []), (207, 13, 5, []), (207, 15, 8, []), (207, 20, 7, []), (190, 7, 5, [])]
theorem Lq : eB Tryz.prog = true := by kernel_rfl
def SN : List UInt8 := [112, 97, 99, 107, 97, 103, 101, 32, 112, 32, 102, 117, 110, 99, 32, 102, 40, 97, 32, 105, 110, 116, 41, 32, 40, 105, 110, 116, 41, 32, 123, 32, 114, 101, 116, 117, 114, 110, 32, 97, 32, 43, 32, 49, 32, 125]
def SO : List UInt8 := [112, 97, 99, 107, 97, 103, 101, 32, 112, 32, 102, 117, 110, 99, 32, 102, 40, 97, 32, 105, 110, 116, 41, 32, 40, 98, 121, 116, 101, 41, 32, 123, 32, 114, 101, 116, 117, 114, 110, 32, 97, 32, 43, 32, 49, 32, 125]
def AT (k : Int) (t : az) : oV := ⟨[], [⟨[102], [⟨[97], .mk 4 [] []⟩], [.mk k [] []], [.mk 6 [] (.mk 0 [] []) [] [.mk 6 [43] 0 (.mk 0 [] []) [] [.mk 1 [97] 0 (.mk 0 [] []) [] [], .mk 2 [] 1 t [] []]] [] [] []]⟩]⟩
theorem Lr {bs : List UInt8} (h0 : bs ≠ []) (hl : bs.length ≤ 400000) (i : Int) (S : Mem) : aD Tryz.prog av 128 [.d (.sl (Cg bs)), .d (.int .i64 i)] S (aB (.bZ [.agg (Wp (eU bs i).1), .d (.int .i64 ((eU bs i).2 : Nat))]) S) := by
 refine aD.Bh Tryz.func128 rfl (by kernel_rfl) fun c w xs h1 h2 h3 hI => ?_
 have xS := h2 0 (by simp)
 have Ry := h2 1 (by simp)
 obtain ⟨x, y, rfl⟩ : ∃ x y, xs = #[x, y] := ⟨xs[0]'(by simp at h1; omega), xs[1]'(by simp at h1; omega), by
  apply Array.ext
  ·simpa using h1
  ·intro j hj eJ
   have : j = 0 ∨ j = 1 := by simp at eJ; omega
   rcases this with rfl | rfl <;> rfl⟩
 simp at xS Ry
 cases Ry with
 | d _ _ Ry => cases Ry with
  | int => cases xS with
   | d _ _ xS => cases xS with
    | sl _ sz a cap f dG hr hcp hm hs hd =>
     have hC : Calls Tryz.prog 128 #[.slice a (Cg bs).length cap, .int .i64 i] w (BY (eU bs i) w) := by
      have bV : Cg bs ≠ [] := by simpa [Cg] using h0
      obtain ⟨g, off, ha, hc⟩ := hs bV
      have Nx : (Cg bs).length = bs.length := by simp [Cg]
      have hz : sz = 1 := by
       obtain ⟨b, r, rfl⟩ : ∃ b r, bs = b :: r := by cases bs with
        | nil => exact absurd rfl h0
        | cons b r => exact ⟨b, r, rfl⟩
       exact (hr _ List.mem_cons_self).symm
      subst hz
      have Og : 0 < bs.length := List.length_pos_iff.2 h0
      have eO : ∀ j u, (bv bs)[j]? = some u → w.cell? ⟨g, off + j, none⟩ = some u := by
       intro j u hu
       obtain ⟨b, hb, rfl⟩ := zQ hu
       obtain ⟨hj, hb⟩ := List.getElem?_eq_some_iff.1 hb
       have hjD : j < (Cg bs).length := by omega
       have aA : (Cg bs)[j] = [.int .u8 (b.toNat : Int)] := by simp [Cg, hb, eM]
       have h4 := hc j hjD 0 (by rw [aA]; simp)
       have h5 := hd j hjD 0 (by rw [aA]; simp)
       simp only [aA, List.getElem_cons_zero] at h5
       cases hf : f j 0 with
       | int k n =>
        rw [hf] at h5
        cases h5
        rw [← hf]
        simpa using h4.2
       | _ => rw [hf] at h5; cases h5
      have hg : g < w.heap.size := by
       have := eO 0 (.int .u8 ((bs[0]'Og).toNat : Int)) (kX (List.getElem?_eq_getElem Og))
       exact oE this
      exact P2 w.heap.size _ bs i w hI (.inr ⟨g, off, cap, by rw [ha, Nx], hg, by omega, hm, eO⟩) (Nat.le_refl _)
     refine hC.mono ?_
     rintro e w' ⟨rfl, hb⟩
     have XV := Lc bs i
     refine ⟨_, _, rfl, ⟨rfl, rfl⟩, hb, .bZ _ _ rfl fun j hj => ?_⟩
     have DA : j = 0 ∨ j = 1 := by simp at hj; omega
     rcases DA with rfl | rfl
     ·refine .agg _ _ rfl (fun j hj => ?_) (fun j hj => ?_)
      ·have Wu : j = 0 ∨ j = 1 ∨ j = 2 ∨ j = 3 ∨ j = 4 := by simp [Wp] at hj; omega
       rcases Wu with rfl | rfl | rfl | rfl | rfl
       ·exact .d _ _ (.int _ _)
       ·exact .d _ _ (.str _ (by omega))
       ·exact .d _ _ (.int _ _)
       ·exact .d _ _ (.int _ _)
       ·exact .d _ _ (.int _ _)
      ·have Wu : j = 0 ∨ j = 1 ∨ j = 2 ∨ j = 3 ∨ j = 4 := by simp [Wp] at hj; omega
       rcases Wu with rfl | rfl | rfl | rfl | rfl <;> rfl
     ·exact .d _ _ (.int _ _)
noncomputable def Gl (p : oV) : Bool := (MG (SizeOf.sizeOf p.funcs) p 0).1
theorem vR (p : oV) (B : List (List V)) (T : List (Nat × Nat)) : aD Tryz.prog av 16 [l7 p] ⟨B, T⟩ (aB (.d (.bool (Gl p))) ⟨B, T⟩) := by
 refine Lp (SizeOf.sizeOf p.funcs) p (fun f hf x hx => uA _ x (Dp.uB _ x ?_)) B T
 have h1 := List.sizeOf_lt_of_mem hf
 have h2 := List.sizeOf_lt_of_mem hx
 have h3 : SizeOf.sizeOf f.body < SizeOf.sizeOf f := by cases f; simp only [cR.mk.sizeOf_spec]; omega
 omega
noncomputable def Oh (bs : List UInt8) (p : oV) : FuncId → List V → Option V := fun g args =>
 match Nat.beq g 128 with
 | true => match args with
  | [.d (.sl rows), .d (.int .i64 i)] => match od rows (Cg bs) with
   | true => some (.bZ [.agg (Wp (eU bs i).1), .d (.int .i64 ((eU bs i).2 : Nat))])
   | false => none
  | _ => none
 | false => match Nat.beq g 16 with
  | true => match args with
   | [.agg [.d a, .d b]] => match NO a (.sl (p.structs.map fJ)) && NO b (.sl (p.funcs.map fK)) with
    | true => some (.d (.bool (Gl p)))
    | false => none
   | _ => none
  | false => none
theorem Gm {bs : List UInt8} (h0 : bs ≠ []) (hl : bs.length ≤ 400000) (p : oV) : ∀ g args v, Oh bs p g args = some v → aD Tryz.prog av g args ⟨[], []⟩ (fun v' _ => v' = v) := by
 intro g args v h
 unfold Oh at h
 split at h
 ·rename_i hg
  obtain rfl := Nat.eq_of_beq_eq_true hg
  split at h
  case h_2 => cases h
  split at h
  case h_2 => cases h
  rename_i he
  obtain rfl := lZ _ _ he
  obtain rfl := Option.some.inj h
  exact (Lr h0 hl _ _).mono fun _ _ h => h.1
 ·split at h
  case h_2 => cases h
  rename_i hg
  obtain rfl := Nat.eq_of_beq_eq_true hg
  split at h
  case h_2 => cases h
  split at h
  case h_2 => cases h
  rename_i he
  rw [Bool.and_eq_true] at he
  obtain rfl := zN _ _ he.1
  obtain rfl := zN _ _ he.2
  obtain rfl := Option.some.inj h
  exact (vR p [] []).mono fun _ _ h => h.1
theorem EU : zP Tryz.prog av (Oh SN (AT 4 (.mk 0 [] []))) (lookW UL) 100000 21 [.d (.sl (Cg SN))] = some (.bZ [l7 (AT 4 (.mk 0 [] [])), .d (.int .i64 0)]) := by kernel_rfl
theorem EV : zP Tryz.prog av (Oh SO (AT 2 (.mk 0 [] []))) (lookW UL) 100000 21 [.d (.sl (Cg SO))] = some (.bZ [l7 (AT 2 (.mk 0 [] [])), .d (.int .i64 0)]) := by kernel_rfl
theorem IK : aD Tryz.prog av 21 [.d (.sl (Cg SN))] ⟨[], []⟩ fun v' _ => v' = .bZ [l7 (AT 4 (.mk 0 [] [])), .d (.int .i64 0)] := yg Lq (Gm (by simp [SN]) (by simp [SN]) _) EU
theorem IL : aD Tryz.prog av 21 [.d (.sl (Cg SO))] ⟨[], []⟩ fun v' _ => v' = .bZ [l7 (AT 2 (.mk 0 [] [])), .d (.int .i64 0)] := yg Lq (Gm (by simp [SO]) (by simp [SO]) _) EV
end Go.Proofs.YtnfnbjjnjjdjdaaGreatDoor
namespace Go.Proofs.YtnfnbjjnjjdjdaaGreatDoor
open Go.RowKit Go.Av
abbrev Wd := Nat × List UInt8 × Nat
def okD (l : List UInt8) : Bool :=
 decide (jT (l.takeWhile bT) ≤ BX) && !(decide ((l.takeWhile bT).length < l.length) && cY (l.getD (l.takeWhile bT).length 0)) && !(decide (1 < (l.takeWhile bT).length) && decide (l.getD 0 0 = 48))
def wl (l : List UInt8) : Option Wd :=
 if l = [] then some (0, [], 0)
 else if cY (l.getD 0 0) = true then some (if j7 (l.takeWhile og) = true then 4 else 1, l.takeWhile og, 0)
 else if bT (l.getD 0 0) = true then (if okD l = true then some (2, l.takeWhile bT, jT (l.takeWhile bT)) else none)
 else match EH l with
  | some s => some (3, s, 0)
  | none => none
def strip (x : bC) : Wd := (x.kind, x.text, x.int)
set_option linter.unusedSimpArgs false
def vS : Nat → List UInt8 → List Wd
 | 0, _ => [(9, [], 0)]
 | f + 1, l => match wl (eL false l) with
  | none => [(9, [], 0)]
  | some x => if x.1 = 0 then [(0, [], 0)] else x :: vS f ((eL false l).drop x.2.1.length)
def Gn : List UInt8 → Bool
 | [] => true
 | c :: _ => !og c
inductive Ls : az → Prop
 | UM (k : Int) : 1 ≤ k → k ≤ 6 → Ls (.mk k [] [])
 | JE (n : List UInt8) : ak n = true → Ls (.mk 7 n [])
 | UN (t : az) : Ls t → Ls (.mk 8 [] [t])
theorem mQ : ∀ (t : az) (d p : Int), (eV ak t d p).1 = true → Ls t
 | .mk k n es, d, p, h => by
  unfold eV at h
  by_cases hp : bt d p = false
  ·rw [if_pos hp] at h; cases h
  rw [if_neg hp] at h
  by_cases h1 : 1 ≤ k ∧ k ≤ 6
  ·rw [if_pos h1] at h
   simp only [Bool.and_eq_true, decide_eq_true_eq] at h
   obtain rfl := List.eq_nil_of_length_eq_zero h.2
   obtain rfl := h.1
   exact .UM k h1.1 h1.2
  rw [if_neg h1] at h
  by_cases h7 : k = 7
  ·subst h7
   rw [if_pos rfl] at h
   simp only [Bool.and_eq_true, decide_eq_true_eq] at h
   obtain rfl := List.eq_nil_of_length_eq_zero h.2
   exact .JE n h.1
  rw [if_neg h7] at h
  match es, h with
  | [e], h =>
   dsimp only at h
   by_cases h8 : k = 8 ∧ n = []
   ·rw [if_pos h8] at h
    have ih := mQ e _ _ h
    obtain ⟨rfl, rfl⟩ := h8
    exact .UN e ih
   ·rw [if_neg h8] at h; cases h
  | [], h => cases h
  | _ :: _ :: _, h => cases h
mutual
def sN : aj → Prop
 | .mk _ _ i _ _ ks => (0 ≤ i ∧ i ≤ 18446744073709551615) ∧ ng ks
def ng : List aj → Prop
 | [] => True
 | x :: l => sN x ∧ ng l
end
inductive jE : Int → aj → Prop
 | JE (d : Int) (t : List UInt8) : d ≤ 60 → ak t = true → jE d (.mk 1 t 0 bO [] [])
 | num (d i : Int) : d ≤ 60 → 0 ≤ i → i ≤ 18446744073709551615 → jE d (.mk 2 [] i bO [] [])
 | UO (d i : Int) : d ≤ 60 → 0 ≤ i → i ≤ 1 → jE d (.mk 3 [] i bO [] [])
 | Rz (d k : Int) (y : aj) : d ≤ 60 → k = 4 ∨ k = 5 → jE (d + 1) y → jE d (.mk k [] 0 bO [] [y])
 | bin (d : Int) (t : List UInt8) (y z : aj) : d ≤ 60 → 0 < jO t → jE (d + 1) y → jE (d + 1) z → jE d (.mk 6 t 0 bO [] [y, z])
 | SQ (d : Int) (t : List UInt8) (ks : List aj) : d ≤ 60 → ak t = true → (∀ x ∈ ks, jE (d + 1) x) → jE d (.mk 7 t 0 bO [] ks)
 | SR (d k : Int) (y : aj) : d ≤ 60 → 2 ≤ k → k ≤ 6 → jE (d + 1) y → jE d (.mk 8 [] 0 (.mk k [] []) [] [y])
 | SS (d : Int) (t : List UInt8) (y : aj) : d ≤ 60 → ak t = true → jE (d + 1) y → jE d (.mk 9 t 0 bO [] [y])
 | idx (d : Int) (y z : aj) : d ≤ 60 → jE (d + 1) y → jE (d + 1) z → jE d (.mk 10 [] 0 bO [] [y, z])
 | cut (d : Int) (y z u : aj) : d ≤ 60 → jE (d + 1) y → jE (d + 1) z → jE (d + 1) u → jE d (.mk 11 [] 0 bO [] [y, z, u])
 | len (d : Int) (y : aj) : d ≤ 60 → jE (d + 1) y → jE d (.mk 12 [] 0 bO [] [y])
 | app (d : Int) (y z : aj) : d ≤ 60 → jE (d + 1) y → jE (d + 1) z → jE d (.mk 13 [] 0 bO [] [y, z])
 | str (d : Int) (n : List UInt8) (ns : List (List UInt8)) (ks : List aj) : d ≤ 60 → ak n = true → ns.length = ks.length → (∀ m ∈ ns, ak m = true) → (∀ x ∈ ks, jE (d + 1) x) → jE d (.mk 14 [] 0 (.mk 7 n []) ns ks)
 | SU (d : Int) (t : az) (ks : List aj) : d ≤ 60 → Ls t → (∀ x ∈ ks, jE (d + 1) x) → jE d (.mk 15 [] 0 (.mk 8 [] [t]) [] ks)
theorem tK {l : List (List UInt8)} (h : gk l.length l = true) : ∀ n ∈ l, ak n = true := by
 have hd : ∀ (j : Nat) (l : List (List UInt8)), gk j l = true → ∀ i < j, ak (l.getD i []) = true := by
  intro j
  induction j with
  | zero => exact fun _ _ i hi => absurd hi (Nat.not_lt_zero _)
  | succ j ih =>
   intro l h i hi
   unfold gk at h
   simp only [Bool.and_eq_true] at h
   rcases Nat.lt_or_ge i j with h1 | h1
   ·exact ih l h.1.1 i h1
   ·obtain rfl : i = j := by omega
    exact h.1.2
 intro n hn
 obtain ⟨i, hi, rfl⟩ := List.mem_iff_getElem.1 hn
 have := hd l.length l h i hi
 simpa [List.getD, hi] using this
theorem l8 {t : az} (h : fm t = true) : t = bO := by
 obtain ⟨k, n, es⟩ := t
 unfold fm at h
 simp only [Bool.and_eq_true] at h
 obtain ⟨⟨h1, h2⟩, h3⟩ := h
 obtain rfl : k = 0 := of_decide_eq_true h1
 obtain rfl : n = [] := of_decide_eq_true h2
 obtain rfl := List.eq_nil_of_length_eq_zero (show es.length = 0 from of_decide_eq_true h3)
 rfl
theorem Lt {x : aj} {d p : Int} (h : (dh x d p).1 = true) : (iP x d p).1 = true ∧ (¬ (x.kind = 1 ∨ x.kind = 7 ∨ x.kind = 9 ∨ x.kind = 6) → x.text = []) ∧ (¬ (x.kind = 2 ∨ x.kind = 3) → x.int = 0) ∧
 (¬ (x.kind = 8 ∨ x.kind = 14 ∨ x.kind = 15) → x.type = bO) ∧ (¬ x.kind = 14 → x.names = []) := by
 unfold dh at h
 simp only [Bool.and_eq_true] at h
 obtain ⟨⟨⟨⟨h1, h2⟩, h3⟩, h4⟩, h5⟩ := h
 refine ⟨h1, fun hk => ?_, fun hk => ?_, fun hk => ?_, fun hk => ?_⟩
 ·rw [if_neg hk] at h2
  simpa using h2
 ·rw [if_neg hk] at h3
  simpa using h3
 ·rw [if_neg hk] at h4
  exact l8 (by simpa using h4)
 ·rw [if_neg hk] at h5
  simpa using h5
theorem Oi {k : Int} {t : List UInt8} {i : Int} {ty : az} {ns : List (List UInt8)} {ks : List aj} {d p : Int} (hd : d ≤ 60) (hm : ¬ (nc k < (ks.length : Int) ∨ eW k = -2 ∨ (0 ≤ eW k ∧ (ks.length : Int) ≠ eW k)))
 (hb : (dh (.mk k t i ty ns ks) d p).1 = true) (hi : 0 ≤ i ∧ i ≤ 18446744073709551615) (wU : ∀ x ∈ ks, jE (d + 1) x) : jE d (.mk k t i ty ns ks) := by
 obtain ⟨b1, b2, b3, b4, b5⟩ := Lt hb
 change ¬ (k = 1 ∨ k = 7 ∨ k = 9 ∨ k = 6) → t = [] at b2
 change ¬ (k = 2 ∨ k = 3) → i = 0 at b3
 change ¬ (k = 8 ∨ k = 14 ∨ k = 15) → ty = bO at b4
 change ¬ k = 14 → ns = [] at b5
 have c1 : (if k = 8 then (if 2 ≤ ty.kind ∧ ty.kind ≤ 6 then eV ak ty (d + 1) p else (false, p))
  else if k = 14 then (if ty.kind = 7 then (if (eV ak ty (d + 1) p).1 = true then (decide (ns.length = ks.length) && gk ns.length ns, (eV ak ty (d + 1) p).2) else (false, (eV ak ty (d + 1) p).2)) else (false, p))
  else if k = 15 then (if ty.kind = 8 then eV ak ty (d + 1) p else (false, p))
  else (if k = 1 ∨ k = 7 ∨ k = 9 then ak t else if k = 6 then decide (0 < jO t) else if k = 3 then decide (i ≤ 1) else true, p)).1 = true := b1
 clear b1
 have hlen : 0 ≤ eW k → (ks.length : Int) = eW k := fun h => by
  by_cases e : (ks.length : Int) = eW k
  ·exact e
  ·exact absurd (.inr (.inr ⟨h, e⟩)) hm
 have bV : ¬ eW k = -2 := fun e => hm (.inr (.inl e))
 unfold eW at hlen bV
 by_cases k8 : k = 8
 ·subst k8
  rw [if_pos rfl] at c1
  obtain rfl := b2 (by omega)
  obtain rfl := b3 (by omega)
  obtain rfl := b5 (by omega)
  have hl := hlen (by decide)
  by_cases hq : 2 ≤ ty.kind ∧ ty.kind ≤ 6
  ·rw [if_pos hq] at c1
   have := mQ ty _ _ c1
   match ks, hl with
   | [y], _ =>
    cases this with
    | UM k' _ _ => exact .SR d k' y hd hq.1 hq.2 (wU y (by simp))
    | JE _ _ => exact absurd hq.2 (by simp [az.kind])
    | UN _ _ => exact absurd hq.2 (by simp [az.kind])
   | [], h => exact absurd h (by decide)
   | _ :: _ :: _, h => simp at h; omega
  ·rw [if_neg hq] at c1; cases c1
 rw [if_neg k8] at c1
 by_cases Ym : k = 14
 ·subst Ym
  rw [if_pos rfl] at c1
  obtain rfl := b2 (by omega)
  obtain rfl := b3 (by omega)
  by_cases hq : ty.kind = 7
  ·rw [if_pos hq] at c1
   by_cases ht : (eV ak ty (d + 1) p).1 = true
   ·rw [if_pos ht] at c1
    simp only [Bool.and_eq_true, decide_eq_true_eq] at c1
    have := mQ ty _ _ ht
    cases this with
    | UM k' h1 h2 => have : k' = 7 := hq; omega
    | JE n hn => exact .str d n ns ks hd hn c1.1 (tK c1.2) wU
    | UN _ _ => exact absurd hq (by simp [az.kind])
   ·rw [if_neg ht] at c1; cases c1
  ·rw [if_neg hq] at c1; cases c1
 rw [if_neg Ym] at c1
 obtain rfl := b5 Ym
 by_cases k15 : k = 15
 ·subst k15
  rw [if_pos rfl] at c1
  obtain rfl := b2 (by omega)
  obtain rfl := b3 (by omega)
  by_cases hq : ty.kind = 8
  ·rw [if_pos hq] at c1
   have := mQ ty _ _ c1
   cases this with
   | UM k' h1 h2 => have : k' = 8 := hq; omega
   | JE n hn => exact absurd hq (by simp [az.kind])
   | UN t ht => exact .SU d t ks hd ht wU
  ·rw [if_neg hq] at c1; cases c1
 rw [if_neg k15] at c1
 obtain rfl := b4 (by omega)
 dsimp only at c1
 by_cases k1 : k = 1
 ·subst k1
  obtain rfl := b3 (by omega)
  obtain rfl := List.eq_nil_of_length_eq_zero (Int.ofNat_inj.1 (hlen (by decide)))
  exact .JE d t hd c1
 by_cases k7 : k = 7
 ·subst k7
  obtain rfl := b3 (by omega)
  exact .SQ d t ks hd c1 wU
 by_cases k9 : k = 9
 ·subst k9
  obtain rfl := b3 (by omega)
  have hl := hlen (by decide)
  match ks, hl with
  | [y], _ => exact .SS d t y hd c1 (wU y (by simp))
  | [], h => exact absurd h (by decide)
  | _ :: _ :: _, h => simp at h; omega
 by_cases k6 : k = 6
 ·subst k6
  obtain rfl := b3 (by omega)
  have hl := hlen (by decide)
  match ks, hl with
  | [y, z], _ => exact .bin d t y z hd (of_decide_eq_true c1) (wU y (by simp)) (wU z (by simp))
  | [], h => exact absurd h (by decide)
  | [_], h => simp at h
  | _ :: _ :: _ :: _, h => simp at h; omega
 obtain rfl := b2 (by omega)
 by_cases k2 : k = 2
 ·subst k2
  obtain rfl := List.eq_nil_of_length_eq_zero (Int.ofNat_inj.1 (hlen (by decide)))
  exact .num d i hd hi.1 hi.2
 by_cases k3 : k = 3
 ·subst k3
  obtain rfl := List.eq_nil_of_length_eq_zero (Int.ofNat_inj.1 (hlen (by decide)))
  exact .UO d i hd hi.1 (of_decide_eq_true c1)
 obtain rfl := b3 (by omega)
 by_cases k45 : k = 4 ∨ k = 5
 ·have hl : (ks.length : Int) = 1 := by
   have := hlen
   rcases k45 with rfl | rfl <;> exact this (by decide)
  match ks, hl with
  | [y], _ => exact .Rz d k y hd k45 (wU y (by simp))
  | [], h => exact absurd h (by decide)
  | _ :: _ :: _, h => simp at h; omega
 by_cases k12 : k = 12
 ·subst k12
  have hl := hlen (by decide)
  match ks, hl with
  | [y], _ => exact .len d y hd (wU y (by simp))
  | [], h => exact absurd h (by decide)
  | _ :: _ :: _, h => simp at h; omega
 by_cases k10 : k = 10
 ·subst k10
  have hl := hlen (by decide)
  match ks, hl with
  | [y, z], _ => exact .idx d y z hd (wU y (by simp)) (wU z (by simp))
  | [], h => exact absurd h (by decide)
  | [_], h => simp at h
  | _ :: _ :: _ :: _, h => simp at h; omega
 by_cases k13 : k = 13
 ·subst k13
  have hl := hlen (by decide)
  match ks, hl with
  | [y, z], _ => exact .app d y z hd (wU y (by simp)) (wU z (by simp))
  | [], h => exact absurd h (by decide)
  | [_], h => simp at h
  | _ :: _ :: _ :: _, h => simp at h; omega
 by_cases k11 : k = 11
 ·subst k11
  have hl := hlen (by decide)
  match ks, hl with
  | [y, z, u], _ => exact .cut d y z u hd (wU y (by simp)) (wU z (by simp)) (wU u (by simp))
  | [], h => exact absurd h (by decide)
  | [_], h => simp at h
  | [_, _], h => simp at h
  | _ :: _ :: _ :: _ :: _, h => simp at h; omega
 ·exfalso
  apply bV
  rw [if_neg (by omega), if_neg (by omega), if_neg (by omega), if_neg (by omega), if_neg (by omega)]
mutual
theorem Oj : ∀ (x : aj) (d p : Int), (pT x d p).1 = true → sN x → jE d x
 | .mk k t i ty ns ks, d, p, h, hn => by
  unfold pT at h
  unfold sN at hn
  by_cases hp : bt d p = false
  ·rw [if_pos hp] at h; cases h
  have PX : bt d p = true := by simpa using hp
  rw [if_neg hp] at h
  by_cases h1 : nc k < (ks.length : Int) ∨ eW k = -2 ∨ (0 ≤ eW k ∧ (ks.length : Int) ≠ eW k)
  ·rw [if_pos h1] at h; cases h
  rw [if_neg h1] at h
  by_cases h2 : (dh (.mk k t i ty ns ks) d (p + 1)).1 = false
  ·rw [if_pos h2] at h; cases h
  rw [if_neg h2] at h
  unfold bt at PX
  rw [Bool.and_eq_true, decide_eq_true_iff, decide_eq_true_iff] at PX
  exact Oi PX.2 h1 (by simpa using h2) hn.1 (vT ks _ _ h hn.2)
theorem vT : ∀ (l : List aj) (d p : Int), (eX l d p).1 = true → ng l → ∀ x ∈ l, jE d x
 | [], _, _, _, _, x, hx => absurd hx List.not_mem_nil
 | y :: l, d, p, h, hn, x, hx => by
  unfold eX at h
  unfold ng at hn
  by_cases h1 : (pT y d p).1 = false
  ·rw [if_pos h1] at h; cases h
  rw [if_neg h1] at h
  rcases List.mem_cons.1 hx with e | hx
  ·rw [e]
   exact Oj y d p (by simpa using h1) hn.1
  ·exact vT l _ _ h hn.2 x hx
end
set_option linter.unusedVariables false
def Lx (s : List UInt8) (t : List Wd) : Prop := ∀ (f : Nat) (r : List UInt8), Gn r = true → vS (f + t.length) (s ++ r) = t ++ vS f r
def Qb (s : List UInt8) (t : List Wd) : Prop := ∀ (f : Nat) (r : List UInt8), vS (f + t.length) (s ++ r) = t ++ vS f r
theorem Qb.app {s1 s2 : List UInt8} {t1 t2 : List Wd} (h1 : Qb s1 t1) (h2 : Qb s2 t2) : Qb (s1 ++ s2) (t1 ++ t2) := fun f r => by
 rw [List.append_assoc, List.length_append, Nat.add_comm t1.length, ← Nat.add_assoc, h1, h2, List.append_assoc]
theorem Qb.then {s1 s2 : List UInt8} {t1 t2 : List Wd} (h1 : Qb s1 t1) (h2 : Lx s2 t2) : Lx (s1 ++ s2) (t1 ++ t2) := fun f r hr => by
 rw [List.append_assoc, List.length_append, Nat.add_comm t1.length, ← Nat.add_assoc, h1, h2 f r hr, List.append_assoc]
theorem Lx.then {s1 s2 : List UInt8} {t1 t2 : List Wd} (h1 : Lx s1 t1) (hs : ∀ r, Gn r = true → Gn (s2 ++ r) = true) (h2 : Lx s2 t2) : Lx (s1 ++ s2) (t1 ++ t2) := fun f r hr => by
 rw [List.append_assoc, List.length_append, Nat.add_comm t1.length, ← Nat.add_assoc, h1 _ _ (hs r hr), h2 f r hr, List.append_assoc]
theorem Lx.shut {s1 s2 : List UInt8} {t1 t2 : List Wd} (h1 : Lx s1 t1) (hs : ∀ r, Gn (s2 ++ r) = true) (h2 : Qb s2 t2) : Qb (s1 ++ s2) (t1 ++ t2) := fun f r => by
 rw [List.append_assoc, List.length_append, Nat.add_comm t1.length, ← Nat.add_assoc, h1 _ _ (hs r), h2 f r, List.append_assoc]
def oo {α β : Type} (p : α × Ps) (f : α → Ps → β × Ps) : β × Ps := f p.1 p.2
theorem Dn.zero {a b : Ps} (h : Dn a b) (hb : b.e = 0) : a.e = 0 := by
 by_cases ha : a.e = 0
 ·exact ha
 ·rw [h.e ha] at hb; exact hb
theorem Dn.bad {a b : Ps} (h : Dn a b) (ha : a.e = 51) : b.e = 51 := by
 rw [h.e (by omega), ha]
structure IM (c : Wd) (tl : List Wd) (s t : Ps) : Prop where
 se : s.e = 0
 te : t.e = 0
 h : t.h = s.h
 ws : ∃ init : List Wd, s.ws.map strip = init ++ [(0, [], 0)] ∧ t.ws.map strip = init ++ c :: tl ∧ ∀ x ∈ init, x.1 ≠ 0 ∧ x.1 ≠ 9
section
variable {c : Wd} {tl : List Wd} {s t : Ps}
def Lu (c : Wd) (tl : List Wd) {α : Type} (p q : α × Ps) : Prop := p.2.e = 0 → (q.1 = p.1 ∧ IM c tl p.2 q.2) ∨ q.2.e = 51
theorem Lu.pure {α : Type} {s t : Ps} (h : IM c tl s t) (x : α) : Lu c tl (x, s) (x, t) := fun _ => .inl ⟨rfl, h⟩
theorem Lu.dead {α : Type} {p q : α × Ps} (h : ¬ p.2.e = 0) : Lu c tl p q := fun h0 => absurd h0 h
theorem Lu.oo {α β : Type} {p q : α × Ps} {f g : α → Ps → β × Ps} (h : Lu c tl p q) (hf : ∀ x s, Dn s (f x s).2) (hg : ∀ x s, Dn s (g x s).2) (hk : IM c tl p.2 q.2 → Lu c tl (f p.1 p.2) (g p.1 q.2)) : Lu c tl (oo p f) (oo q g) := by
 intro h0
 rcases h ((hf p.1 p.2).zero h0) with ⟨e, hs⟩ | h51
 ·have := hk hs h0
  unfold Proofs.YtnfnbjjnjjdjdaaGreatDoor.oo
  rw [e]
  exact this
 ·exact .inr ((hg q.1 q.2).bad h51)
theorem sO {w : bC} {r : List bC} {o : Int} {h : Bool} (hr : ¬ (r.headD .zero).kind = 9) : dX ⟨w :: r, 0, o, h⟩ = ⟨r, 0, o, h⟩ := by
 unfold dX
 rw [if_pos rfl]
 exact if_neg hr
theorem IM.split (hs : IM c tl s t) (hc : c.1 ≠ 9) : (s.w.kind = 0 ∧ strip t.w = c) ∨ (s.w.kind ≠ 0 ∧ strip t.w = strip s.w ∧ ∀ o o' : Int, IM c tl (dX ⟨s.ws, 0, o, s.h⟩) (dX ⟨t.ws, 0, o', t.h⟩)) := by
 obtain ⟨se, te, hh, init, h1, h2, h3⟩ := hs
 cases init with
 | nil =>
  obtain ⟨w, r, e1, e2, e3⟩ := List.map_eq_cons_iff.1 h1
  obtain ⟨w', r', f1, f2, f3⟩ := List.map_eq_cons_iff.1 h2
  refine .inl ⟨?_, ?_⟩
  ·unfold Ps.w
   rw [e1]
   exact congrArg Prod.fst e2
  ·unfold Ps.w
   rw [f1]
   exact f2
 | cons x init =>
  obtain ⟨w, r, e1, e2, e3⟩ := List.map_eq_cons_iff.1 h1
  obtain ⟨w', r', f1, f2, f3⟩ := List.map_eq_cons_iff.1 h2
  have hx := h3 x List.mem_cons_self
  refine .inr ⟨?_, ?_, fun o o' => ?_⟩
  ·unfold Ps.w
   rw [e1]
   intro h0
   exact hx.1 (by rw [← e2]; exact h0)
  ·unfold Ps.w
   rw [e1, f1]
   exact f2.trans e2.symm
  ·have hr : ¬ (r.headD .zero).kind = 9 := by
    cases init with
    | nil =>
     obtain ⟨y, r2, g1, g2, _⟩ := List.map_eq_cons_iff.1 e3
     rw [g1]
     intro h9
     have : (strip y).1 = 9 := h9
     rw [g2] at this
     exact absurd this (by decide)
    | cons y l =>
     obtain ⟨y', r2, g1, g2, _⟩ := List.map_eq_cons_iff.1 e3
     rw [g1]
     intro h9
     have : (strip y').1 = 9 := h9
     rw [g2] at this
     exact (h3 y (by simp)).2 this
   have PC : ¬ (r'.headD .zero).kind = 9 := by
    cases init with
    | nil =>
     obtain ⟨y, r2, g1, g2, _⟩ := List.map_eq_cons_iff.1 f3
     rw [g1]
     intro h9
     have : (strip y).1 = 9 := h9
     rw [g2] at this
     exact hc this
    | cons y l =>
     obtain ⟨y', r2, g1, g2, _⟩ := List.map_eq_cons_iff.1 f3
     rw [g1]
     intro h9
     have : (strip y').1 = 9 := h9
     rw [g2] at this
     exact (h3 y (by simp)).2 this
   rw [e1, f1, sO hr, sO PC]
   exact ⟨rfl, rfl, hh, init, e3, f3, fun y hy => h3 y (List.mem_cons_of_mem _ hy)⟩
theorem IM.at (hs : IM c tl s t) (hc : c.1 ≠ 9) (hk : s.w.kind ≠ 0) : t.w.kind = s.w.kind ∧ t.w.text = s.w.text ∧ t.w.int = s.w.int := by
 rcases hs.split hc with ⟨h, _⟩ | ⟨_, h, _⟩
 ·exact absurd h hk
 ·have h1 := congrArg Prod.fst h
  have h2 := congrArg (fun x : Wd => x.2.1) h
  have h3 := congrArg (fun x : Wd => x.2.2) h
  exact ⟨h1, h2, h3⟩
theorem IM.next (hs : IM c tl s t) (hc : c.1 ≠ 9) (hk : s.w.kind ≠ 0) : IM c tl (dX s) (dX t) := by
 rcases hs.split hc with ⟨h, _⟩ | ⟨_, _, h⟩
 ·exact absurd h hk
 ·have := h s.o t.o
  obtain ⟨a, e, o, b⟩ := s
  obtain ⟨a', e', o', b'⟩ := t
  obtain rfl : e = 0 := hs.se
  obtain rfl : e' = 0 := hs.te
  exact this
theorem IM.is (hs : IM c tl s t) (hc : c.1 ≠ 9) (hk : s.w.kind ≠ 0) (T : List UInt8) : AR t T = AR s T := by
 obtain ⟨h1, h2, _⟩ := hs.at hc hk
 unfold AR
 rw [h1, h2, hs.se, hs.te]
theorem IN {s : Ps} (he : s.e = 0) (T : List UInt8) : (∃ o, iR s T = ⟨s.ws, 0, o, s.h⟩) ∨ (iR s T).e = 51 := by
 obtain ⟨a, e, o, b⟩ := s
 obtain rfl : e = 0 := he
 unfold iR rq
 split
 ·split
  ·exact .inr rfl
  ·exact .inl ⟨_, rfl⟩
 ·split
  ·exact .inl ⟨_, rfl⟩
  ·exact .inl ⟨_, rfl⟩
theorem Lv {s : Ps} (h : ¬ s.e = 0) : dX s = s := if_neg h
theorem Gp (s : Ps) (T : List UInt8) : tH s T = if AR s T = true then dX (iR s T) else rq s 51 := by
 unfold tH jA
 cases AR s T <;> rfl
end
structure Cl (c : Wd) : Prop where
 k : c.1 ≠ 9
 t : c.2.1 = [41] ∨ c.2.1 = [125] ∨ c.2.1 = []
theorem Cl.ne {c : Wd} (h : Cl c) {T : List UInt8} (hT : T ≠ [41] ∧ T ≠ [125] ∧ T ≠ []) : T ≠ c.2.1 := by
 rcases h.t with e | e | e <;> rw [e]
 ·exact hT.1
 ·exact hT.2.1
 ·exact hT.2.2
section
variable {c : Wd} {tl : List Wd} {s t : Ps}
theorem Lu.no {α β : Type} {p : α × Ps} {f : α → Ps → β × Ps} {q : β × Ps} (h : ¬ p.2.e = 0) (hf : ∀ x s, Dn s (f x s).2) : Lu c tl (Proofs.YtnfnbjjnjjdjdaaGreatDoor.oo p f) q := Lu.dead fun h0 => h ((hf p.1 p.2).zero h0)
variable {n : Nat} {E : EP}
end
section
variable {c : Wd} {tl : List Wd} {s t : Ps} {n : Nat} {E : EP}
theorem RA (E : EP) (m : Nat) (x : aj) (s : Ps) : zY E (m + 1) x s = if ¬ s.e = 0 then (x, s) else oo (jA s [46]) fun b s1 => if b = true then oo (yp s1) fun t s2 => zY E m (.mk 9 t 0 bO [] [x]) s2
 else oo (jA s1 [91]) fun b s2 => if b = true then oo (E s2) fun y s3 => oo (jA s3 [58]) fun b s4 => if b = true then oo (E s4) fun z s5 => oo ((), tH s5 [93]) fun _ s6 => zY E m (.mk 11 [] 0 bO [] [x, y, z]) s6
  else oo ((), tH s4 [93]) fun _ s5 => zY E m (.mk 10 [] 0 bO [] [x, y]) s5 else (x, s2) := by
 conv => lhs; unfold zY
 split
 ·rfl
 unfold Proofs.YtnfnbjjnjjdjdaaGreatDoor.oo
 rcases hg : jA s [46] with ⟨_ | _, s1⟩
 ·obtain rfl := K2 hg
  simp only [Bool.false_eq_true, if_false]
  rcases UE : jA s1 [91] with ⟨_ | _, s2⟩
  ·obtain rfl := K2 UE
   rfl
  ·dsimp only
   rcases E s2 with ⟨y, s3⟩
   dsimp only
   rcases jA s3 [58] with ⟨_ | _, s4⟩ <;> rfl
 ·rfl
end
def RB (s : Ps) : Prop := ∃ init : List Wd, s.ws.map strip = init ++ [(9, [], 0)] ∧ ∀ x ∈ init, x.1 ≠ 0 ∧ x.1 ≠ 9
def Nn {α : Type} (p : α × Ps) : Prop := p.2.e = 0 → RB p.2
theorem Nn.pure {α : Type} {s : Ps} (h : RB s) (x : α) : Nn (x, s) := fun _ => h
theorem Nn.oo {α β : Type} {p : α × Ps} {f : α → Ps → β × Ps} (h : Nn p) (hf : ∀ x s, Dn s (f x s).2) (hk : ∀ x s, RB s → Nn (f x s)) : Nn (oo p f) := fun h0 => hk _ _ (h ((hf _ _).zero h0)) h0
variable {E : EP}
structure At (s : Ps) (l : List Wd) : Prop where
 e : s.e = 0
 ws : s.ws.map strip = l
theorem At.w {s : Ps} {x : Wd} {l : List Wd} (h : At s (x :: l)) : strip s.w = x := by
 obtain ⟨w, r, e1, e2, _⟩ := List.map_eq_cons_iff.1 h.ws
 unfold Ps.w
 rw [e1]
 exact e2
theorem At.kind {s : Ps} {x : Wd} {l : List Wd} (h : At s (x :: l)) : s.w.kind = x.1 ∧ s.w.text = x.2.1 := ⟨congrArg Prod.fst h.w, congrArg (fun x : Wd => x.2.1) h.w⟩
theorem At.next {s : Ps} {x y : Wd} {l : List Wd} (h : At s (x :: y :: l)) (hy : y.1 ≠ 9) : At (dX s) (y :: l) := by
 obtain ⟨w, r, e1, e2, e3⟩ := List.map_eq_cons_iff.1 h.ws
 obtain ⟨w2, r2, g1, g2, g3⟩ := List.map_eq_cons_iff.1 e3
 obtain ⟨a, e, o, b⟩ := s
 obtain rfl : e = 0 := h.e
 obtain rfl : a = w :: r := e1
 rw [sO (by rw [g1]; intro h9; exact hy (by rw [← g2]; exact h9))]
 exact ⟨rfl, e3⟩
theorem At.take {s : Ps} {x y : Wd} {l : List Wd} (h : At s (x :: y :: l)) (hy : y.1 ≠ 9) (T : List UInt8) : At (dX (iR s T)) (y :: l) ∨ (dX (iR s T)).e = 51 := by
 rcases IN h.e T with ⟨o, h1⟩ | h1
 ·rw [h1]
  exact .inl (At.next (s := ⟨s.ws, 0, o, s.h⟩) ⟨rfl, h.ws⟩ hy)
 ·exact .inr (by rw [Lv (by omega)]; exact h1)
theorem At.is {s : Ps} {x : Wd} {l : List Wd} (h : At s (x :: l)) (T : List UInt8) : AR s T = ((decide (x.1 = 3) || decide (x.1 = 4)) && decide (x.2.1 = T)) := by
 unfold AR
 rw [h.e, h.kind.1, h.kind.2]
 simp
theorem Lw (s : Ps) : (dX s).h = s.h := by
 unfold dX
 split
 ·split <;> rfl
 ·rfl
theorem Cl.acJ {c : Wd} (hc : Cl c) : jO c.2.1 = 0 := by
 rcases hc.t with e | e | e <;> rw [e] <;> decide
def Gq (T : List UInt8) (o : Int) : Option Int := if Us T = true then (if 100 < IntKind.i64.wrap (o + 1) then none else some (IntKind.i64.wrap (o + 1))) else if Ut T = true then some (IntKind.i64.wrap (o - 1)) else some o
theorem Ly {s : Ps} (he : s.e = 0) {T : List UInt8} {o : Int} (ho : Gq T s.o = some o) : iR s T = ⟨s.ws, 0, o, s.h⟩ := by
 obtain ⟨a, e, q, b⟩ := s
 obtain rfl : e = 0 := he
 unfold Gq at ho
 unfold iR
 split
 ·rename_i h
  rw [if_pos h] at ho
  split
  ·rename_i h2
   rw [if_pos h2] at ho
   cases ho
  ·rename_i h2
   rw [if_neg h2] at ho
   cases ho
   rfl
 ·rename_i h
  rw [if_neg h] at ho
  split
  ·rename_i h2
   rw [if_pos h2] at ho
   cases ho
   rfl
  ·rename_i h2
   rw [if_neg h2] at ho
   cases ho
   rfl
structure JF (s : Ps) (l : List Wd) (o : Int) : Prop where
 at' : At s l
 h : s.h = false
 o : s.o = o
section
variable {s : Ps} {x y : Wd} {l : List Wd} {o : Int}
theorem JF.next (h : JF s (x :: y :: l) o) (hy : y.1 ≠ 9) : JF (dX s) (y :: l) o := by
 refine ⟨h.at'.next hy, by rw [Lw, h.h], ?_⟩
 rw [← h.o]
 unfold dX
 split
 ·split <;> rfl
 ·rfl
theorem JF.yes (h : JF s (x :: y :: l) o) (hy : y.1 ≠ 9) {T : List UInt8} (hT : ((decide (x.1 = 3) || decide (x.1 = 4)) && decide (x.2.1 = T)) = true) {o' : Int} (ho : Gq T o = some o') : ∃ s', jA s T = (true, s') ∧ tH s T = s' ∧ JF s' (y :: l) o' := by
 have hi : AR s T = true := by rw [h.at'.is]; exact hT
 have hb := Ly h.at'.e (T := T) (by rw [h.o]; exact ho)
 refine ⟨dX (iR s T), ?_, ?_, ?_⟩
 ·unfold jA
  rw [if_pos hi]
 ·rw [Gp, if_pos hi]
 ·rw [hb]
  exact JF.next (s := ⟨s.ws, 0, o', s.h⟩) ⟨⟨rfl, h.at'.ws⟩, h.h, rfl⟩ hy
theorem JF.no (h : JF s (x :: l) o) {T : List UInt8} (hT : ((decide (x.1 = 3) || decide (x.1 = 4)) && decide (x.2.1 = T)) = false) : jA s T = (false, s) := by
 unfold jA
 rw [h.at'.is, hT]
 rfl
theorem JF.name {t : List UInt8} {i : Nat} (h : JF s ((1, t, i) :: y :: l) o) (hy : y.1 ≠ 9) : ∃ s', yp s = (t, s') ∧ JF s' (y :: l) o := by
 refine ⟨dX s, ?_, h.next hy⟩
 unfold yp
 rw [if_pos ⟨h.at'.e, h.at'.kind.1⟩, h.at'.kind.2]
end
def IP (c : Wd) (T : List UInt8) : Bool := (decide (c.1 = 3) || decide (c.1 = 4)) && decide (c.2.1 = T)
structure Bf (s : Ps) (l : List Wd) (o : Int) (h : Bool) : Prop where
 at' : At s l
 o : s.o = o
 h : s.h = h
section
variable {s : Ps} {x y : Wd} {l : List Wd} {o : Int} {h : Bool}
theorem Bf.mu (b : Bf s l o h) : mu s = l.length := by
 rw [uz b.at'.e, ← b.at'.ws, List.length_map]
theorem Bf.next (b : Bf s (x :: y :: l) o h) (hy : y.1 ≠ 9) : Bf (dX s) (y :: l) o h := by
 refine ⟨b.at'.next hy, ?_, by rw [Lw, b.h]⟩
 rw [← b.o]
 unfold dX
 split
 ·split <;> rfl
 ·rfl
theorem Bf.is (b : Bf s (x :: l) o h) (T : List UInt8) : AR s T = IP x T := b.at'.is T
theorem Bf.yes (b : Bf s (x :: y :: l) o h) (hy : y.1 ≠ 9) {T : List UInt8} (hT : IP x T = true) {o' : Int} (ho : Gq T o = some o') : ∃ s', jA s T = (true, s') ∧ tH s T = s' ∧ Bf s' (y :: l) o' h := by
 have hi : AR s T = true := by rw [b.is]; exact hT
 have hb := Ly b.at'.e (T := T) (by rw [b.o]; exact ho)
 refine ⟨dX (iR s T), ?_, ?_, ?_⟩
 ·unfold jA
  rw [if_pos hi]
 ·rw [Gp, if_pos hi]
 ·rw [hb]
  exact Bf.next (s := ⟨s.ws, 0, o', s.h⟩) ⟨⟨rfl, b.at'.ws⟩, rfl, b.h⟩ hy
theorem Bf.no (b : Bf s (x :: l) o h) {T : List UInt8} (hT : IP x T = false) : jA s T = (false, s) := by
 unfold jA
 rw [b.is, hT]
 rfl
theorem Bf.name {t : List UInt8} {i : Nat} (b : Bf s ((1, t, i) :: y :: l) o h) (hy : y.1 ≠ 9) : ∃ s', yp s = (t, s') ∧ Bf s' (y :: l) o h := by
 refine ⟨dX s, ?_, b.next hy⟩
 unfold yp
 rw [if_pos ⟨b.at'.e, b.at'.kind.1⟩, b.at'.kind.2]
end
structure Yn (k : Nat) (h : Bool) (c : Wd) : Prop where
 n9 : c.1 ≠ 9
 dot : IP c [46] = false
 bra : IP c [91] = false
 par : IP c [40] = false
 cur : h = false → IP c [123] = false
 rk : c.1 = 3 → jO c.2.1 < 6 - (k : Int)
theorem Yn.to {k j : Nat} {h : Bool} {c : Wd} (f : Yn k h c) (hj : j ≤ k) : Yn j h c := ⟨f.n9, f.dot, f.bra, f.par, f.cur, fun h3 => by have := f.rk h3; omega⟩
section
variable {E : EP} {n : Nat}
end
def UP (x : Wd) : Bool := IP x [116, 114, 117, 101] || IP x [102, 97, 108, 115, 101] || IP x [108, 101, 110] || IP x [97, 112, 112, 101, 110, 100] || (decide (x.1 = 4) && decide (1 < P4 x.2.1))
section
variable {s : Ps} {x : Wd} {l tl : List Wd} {o : Int} {h : Bool} {E : EP} {n : Nat} {c : Wd}
theorem Bf.key (b : Bf s (x :: l) o h) : Uw s = UP x := by
 unfold Uw UP
 rw [b.is, b.is, b.is, b.is, b.at'.kind.1, b.at'.kind.2]
end
section
variable {E : EP} {n : Nat} {s : Ps} {c : Wd} {tl : List Wd} {o : Int} {h : Bool}
theorem Bf.oa (b : Bf s (c :: tl) o h) (h1 : IP c [46] = false) (h2 : IP c [91] = false) (m : Nat) (y : aj) : zY E m y s = (y, s) := by
 cases m with
 | zero => rfl
 | succ m =>
  rw [RA, if_neg (by rw [b.at'.e]; simp)]
  unfold oo
  rw [b.no h1]
  dsimp only
  rw [if_neg (by decide), b.no h2]
  rfl
end
inductive uC : Int → aF → Prop
 | var (d : Int) (n : List UInt8) (t : az) : d ≤ 60 → ak n = true → Ls t → uC d (.mk 1 [n] t [] [] [] [] [])
 | set (d : Int) (ls es : List aj) : d ≤ 60 → ls ≠ [] → es ≠ [] → (∀ x ∈ ls, dP x = true) → (∀ x ∈ ls, jE (d + 1) x) → (∀ x ∈ es, jE (d + 1) x) → uC d (.mk 2 [] bO ls es [] [] [])
 | iff (d : Int) (x : aj) (b e : List aF) : d ≤ 60 → jE (d + 1) x → iQ x = true → (∀ y ∈ b, uC (d + 1) y) → (∀ y ∈ e, uC (d + 1) y) → uC d (.mk 3 [] bO [] [x] b e [])
 | Wv (d : Int) (x : aj) (b : List aF) : d ≤ 60 → jE (d + 1) x → iQ x = true → (∀ y ∈ b, uC (d + 1) y) → uC d (.mk 4 [] bO [] [x] b [] [])
 | Ww (d : Int) (x : aj) (e : List aF) (cs : List cQ) : d ≤ 60 → jE (d + 1) x → iQ x = true → (∀ y ∈ e, uC (d + 1) y) → (∀ c ∈ cs, 0 ≤ c.int ∧ c.int ≤ 18446744073709551615) → (∀ c ∈ cs, ∀ y ∈ c.body, uC (d + 2) y) → uC d (.mk 5 [] bO [] [x] [] e cs)
 | ret (d : Int) (es : List aj) : d ≤ 60 → es ≠ [] → (∀ x ∈ es, jE (d + 1) x) → uC d (.mk 6 [] bO [] es [] [] [])
section
variable {E : EP} {n : Nat}
end
section
variable {E : EP} {S : SP} {n : Nat}
theorem Bf.num {s : Ps} {t : List UInt8} {i : Nat} {y : Wd} {l : List Wd} {o : Int} {h : Bool} (b : Bf s ((2, t, i) :: y :: l) o h) (hy : y.1 ≠ 9) : ∃ s', Uu s = ((i : Int), s') ∧ Bf s' (y :: l) o h := by
 refine ⟨dX s, ?_, b.next hy⟩
 unfold Uu
 rw [if_pos ⟨b.at'.e, b.at'.kind.1⟩, show s.w.int = i from congrArg (fun x : Wd => x.2.2) b.at'.w]
end
def RC (p : bI) : Prop := ak p.name = true ∧ Ls p.type
def Yo (s : cM) : Prop := ak s.name = true ∧ ∀ f ∈ s.fields, RC f
def Yp (f : cR) : Prop := ak f.name = true ∧ (∀ p ∈ f.params, RC p) ∧ f.results ≠ [] ∧ (∀ t ∈ f.results, Ls t) ∧ ∀ s ∈ f.body, uC 0 s
def Yq (p : oV) : Prop := (∀ s ∈ p.structs, Yo s) ∧ ∀ f ∈ p.funcs, Yp f
mutual
def qt : aF → Prop
 | .mk _ _ _ ls es b e cs => ng ls ∧ ng es ∧ iC b ∧ iC e ∧ rD cs
def iC : List aF → Prop
 | [] => True
 | x :: l => qt x ∧ iC l
def rD : List cQ → Prop
 | [] => True
 | .mk i b :: l => (0 ≤ i ∧ i ≤ 18446744073709551615) ∧ iC b ∧ rD l
end
def yA (p : oV) : Prop := ∀ f ∈ p.funcs, iC f.body
theorem vU (x : aF) (l : List aF) : iC (x :: l) = (qt x ∧ iC l) := by rw [iC]
theorem vV (i : Int) (b : List aF) (l : List cQ) : rD (.mk i b :: l) = ((0 ≤ i ∧ i ≤ 18446744073709551615) ∧ iC b ∧ rD l) := by rw [rD]
theorem l9 : ∀ {l : List aF}, iC l → ∀ x ∈ l, qt x
 | y :: l, h, x, hx => by
  rw [vU] at h
  rcases List.mem_cons.1 hx with e | hx
  ·rw [e]; exact h.1
  ·exact l9 h.2 x hx
theorem sP : ∀ {l : List cQ}, rD l → ∀ c ∈ l, (0 ≤ c.int ∧ c.int ≤ 18446744073709551615) ∧ iC c.body
 | .mk i b :: l, h, c, hc => by
  rw [vV] at h
  rcases List.mem_cons.1 hc with e | hc
  ·rw [e]; exact ⟨h.1, h.2.1⟩
  ·exact sP h.2.2 c hc
theorem Cr {l : List aj} {d p : Int} (h : (fo l d p).1 = true) (hn : ng l) : ∀ x ∈ l, jE d x := vT l d p (aW (f := fun p => eX l d p) h).1 hn
theorem IQ {d p : Int} (h : (cG d p).1 = true) : d ≤ 60 := by
 have h' : bt d p = true := h
 unfold bt at h'
 rw [Bool.and_eq_true, decide_eq_true_iff, decide_eq_true_iff] at h'
 exact h'.2
def Yr : List (List UInt8) → Bool
 | [x] => ak x
 | _ => false
def Ys : List aj → Bool
 | [x] => decide (x.kind = 7)
 | _ => false
def RD : List aj → Bool
 | [x] => iQ x
 | _ => false
theorem Lz (k : Int) (ns : List (List UInt8)) (ty : az) (ls es : List aj) (b e : List aF) (cs : List cQ) : iz (.mk k ns ty ls es b e cs) = (if k = 1 then decide (es.length = 0) && Yr ns && decide (ls = []) && decide (b.length = 0) && decide (e.length = 0) && decide (cs.length = 0)
 else if k = 2 then decide (0 < ls.length) && (decide (es.length = ls.length) || Ys es) && ls.all dP && (decide (ns = []) && fm ty) && decide (b.length = 0) && decide (e.length = 0) && decide (cs.length = 0)
 else if k = 3 then (decide (ns = []) && fm ty) && decide (ls = []) && RD es && decide (cs.length = 0)
 else if k = 4 then (decide (ns = []) && fm ty) && decide (ls = []) && RD es && decide (e.length = 0) && decide (cs.length = 0)
 else if k = 5 then (decide (ns = []) && fm ty) && decide (ls = []) && RD es && decide (b.length = 0)
 else if k = 6 then (decide (ns = []) && fm ty) && decide (ls = []) && decide (0 < es.length) && decide (b.length = 0) && decide (e.length = 0) && decide (cs.length = 0)
 else false) := rfl
theorem uD : ∀ (n : Nat) (x : aF) (d p : Int), (iN n x d p).1 = true → qt x → uC d x
 | 0, _, _, _, h, _ => by cases h
 | n + 1, .mk k ns ty ls es b e cs, d, p, h, hn => by
  obtain ⟨hp, h⟩ := aW (f := cG d) h
  obtain ⟨hz, h⟩ := aW h
  obtain ⟨ht, h⟩ := aW h
  obtain ⟨hc, h⟩ := aW h
  obtain ⟨hl, h⟩ := aW h
  obtain ⟨hx, h⟩ := aW h
  obtain ⟨hb, he⟩ := aW h
  have hd := IQ hp
  unfold qt at hn
  obtain ⟨n1, n2, n3, n4, n5⟩ := hn
  have gl := Cr hl n1
  have gx := Cr hx n2
  have gb : ∀ y ∈ b, uC (d + 1) y := fun y hy => by
   obtain ⟨q, hq⟩ := iA (f := fun x => iN n x (d + 1)) _ _ hb y hy
   exact uD n y _ q hq (l9 n3 y hy)
  have ge : ∀ y ∈ e, uC (d + 1) y := fun y hy => by
   obtain ⟨q, hq⟩ := iA (f := fun x => iN n x (d + 1)) _ _ he y hy
   exact uD n y _ q hq (l9 n4 y hy)
  have gc : ∀ c ∈ cs, ∀ y ∈ c.body, uC (d + 2) y := fun c zb y hy => by
   obtain ⟨q, hq⟩ := Cb _ _ _ hc c zb y hy
   exact uD n y _ q hq (l9 (sP n5 c zb).2 y hy)
  have hi : ∀ c ∈ cs, 0 ≤ c.int ∧ c.int ≤ 18446744073709551615 := fun c zb => (sP n5 c zb).1
  have V2 : (iz (.mk k ns ty ls es b e cs) && decide (cs.length ≤ 40)) = true := hz
  rw [Bool.and_eq_true] at V2
  have r8 := V2.1
  rw [Lz] at r8
  by_cases k1 : k = 1
  ·subst k1
   rw [if_pos rfl] at r8
   simp only [Bool.and_eq_true, decide_eq_true_eq] at r8
   obtain ⟨⟨⟨⟨⟨h1, h2⟩, h3⟩, h4⟩, h5⟩, h6⟩ := r8
   obtain rfl := List.eq_nil_of_length_eq_zero h1
   obtain rfl := h3
   obtain rfl := List.eq_nil_of_length_eq_zero h4
   obtain rfl := List.eq_nil_of_length_eq_zero h5
   obtain rfl := List.eq_nil_of_length_eq_zero h6
   have gw : Ls ty := by
    rw [if_pos (show (aF.mk 1 ns ty [] [] [] [] []).kind = 1 from rfl)] at ht
    exact mQ ty _ _ ht
   match ns, h2 with
   | [m], h2 => exact .var d m ty hd h2 gw
   | [], h2 => cases h2
   | _ :: _ :: _, h2 => cases h2
  rw [if_neg k1] at r8
  by_cases k2 : k = 2
  ·subst k2
   rw [if_pos rfl] at r8
   simp only [Bool.and_eq_true, decide_eq_true_eq, List.all_eq_true] at r8
   obtain ⟨⟨⟨⟨⟨⟨h1, h2⟩, h3⟩, h4, h5⟩, h6⟩, h7⟩, h8⟩ := r8
   obtain rfl := h4
   obtain rfl := l8 h5
   obtain rfl := List.eq_nil_of_length_eq_zero h6
   obtain rfl := List.eq_nil_of_length_eq_zero h7
   obtain rfl := List.eq_nil_of_length_eq_zero h8
   have ux : ls ≠ [] := by rintro rfl; exact absurd h1 (by decide)
   have Ec : es ≠ [] := by
    rintro rfl
    rw [Bool.or_eq_true, decide_eq_true_eq] at h2
    rcases h2 with h2 | h2
    ·have h2 : 0 = ls.length := h2
     omega
    ·cases h2
   exact .set d ls es hd ux Ec h3 gl gx
  rw [if_neg k2] at r8
  by_cases k3 : k = 3
  ·subst k3
   rw [if_pos rfl] at r8
   simp only [Bool.and_eq_true, decide_eq_true_eq] at r8
   obtain ⟨⟨⟨⟨h1, h2⟩, h3⟩, h4⟩, h5⟩ := r8
   obtain rfl := h1
   obtain rfl := l8 h2
   obtain rfl := h3
   obtain rfl := List.eq_nil_of_length_eq_zero h5
   match es, h4, gx with
   | [x], h4, gx => exact .iff d x b e hd (gx x List.mem_cons_self) h4 gb ge
   | [], h4, _ => cases h4
   | _ :: _ :: _, h4, _ => cases h4
  rw [if_neg k3] at r8
  by_cases k4 : k = 4
  ·subst k4
   rw [if_pos rfl] at r8
   simp only [Bool.and_eq_true, decide_eq_true_eq] at r8
   obtain ⟨⟨⟨⟨⟨h1, h2⟩, h3⟩, h4⟩, h6⟩, h5⟩ := r8
   obtain rfl := h1
   obtain rfl := l8 h2
   obtain rfl := h3
   obtain rfl := List.eq_nil_of_length_eq_zero h5
   obtain rfl := List.eq_nil_of_length_eq_zero h6
   match es, h4, gx with
   | [x], h4, gx => exact .Wv d x b hd (gx x List.mem_cons_self) h4 gb
   | [], h4, _ => cases h4
   | _ :: _ :: _, h4, _ => cases h4
  rw [if_neg k4] at r8
  by_cases k5 : k = 5
  ·subst k5
   rw [if_pos rfl] at r8
   simp only [Bool.and_eq_true, decide_eq_true_eq] at r8
   obtain ⟨⟨⟨⟨h1, h2⟩, h3⟩, h4⟩, h5⟩ := r8
   obtain rfl := h1
   obtain rfl := l8 h2
   obtain rfl := h3
   obtain rfl := List.eq_nil_of_length_eq_zero h5
   match es, h4, gx with
   | [x], h4, gx => exact .Ww d x e cs hd (gx x List.mem_cons_self) h4 ge hi gc
   | [], h4, _ => cases h4
   | _ :: _ :: _, h4, _ => cases h4
  rw [if_neg k5] at r8
  by_cases k6 : k = 6
  ·subst k6
   rw [if_pos rfl] at r8
   simp only [Bool.and_eq_true, decide_eq_true_eq] at r8
   obtain ⟨⟨⟨⟨⟨⟨h1, h2⟩, h3⟩, h4⟩, h5⟩, h6⟩, h7⟩ := r8
   obtain rfl := h1
   obtain rfl := l8 h2
   obtain rfl := h3
   obtain rfl := List.eq_nil_of_length_eq_zero h5
   obtain rfl := List.eq_nil_of_length_eq_zero h6
   obtain rfl := List.eq_nil_of_length_eq_zero h7
   exact .ret d es hd (by rintro rfl; exact absurd h4 (by decide)) gx
  rw [if_neg k6] at r8
  cases r8
theorem EW {jz : Nat} {l : List bI} {p : Int} (h : (ER jz l p).1 = true) : ∀ x ∈ l, RC x := by
 obtain ⟨h1, h2⟩ := aW (f := dB (fun x : bI => aY (cG 0) (fun p => eV ak x.type 0 p)) l) h
 have h2 : (decide (l.length ≤ jz) && gk l.length (l.map bI.name)) = true := h2
 rw [Bool.and_eq_true] at h2
 have hn := tK (l := l.map bI.name) (by rw [List.length_map]; exact h2.2)
 intro x hx
 obtain ⟨q, hq⟩ := iA (f := fun x : bI => aY (cG 0) (fun p => eV ak x.type 0 p)) _ _ h1 x hx
 obtain ⟨_, hq⟩ := aW (f := cG 0) hq
 exact ⟨hn _ (List.mem_map_of_mem hx), mQ x.type 0 _ hq⟩
theorem Gr {n : Nat} {x : oV} {p : Int} (h : (MG n x p).1 = true) (hn : yA x) : Yq x := by
 obtain ⟨h1, h2⟩ := aW (f := dB Io x.structs) h
 refine ⟨fun s hs => ?_, fun f hf => ?_⟩
 ·obtain ⟨q, hq⟩ := iA (f := Io) _ _ h1 s hs
  obtain ⟨_, hq⟩ := aW (f := cG 0) hq
  obtain ⟨h3, hq⟩ := aW (f := cN (ak s.name)) hq
  exact ⟨h3, EW hq⟩
 ·obtain ⟨q, hq⟩ := iA (f := JC n) _ _ h2 f hf
  obtain ⟨_, hq⟩ := aW (f := cG 0) hq
  obtain ⟨h3, hq⟩ := aW (f := cN (ak f.name)) hq
  obtain ⟨h4, hq⟩ := aW (f := ER 20 f.params) hq
  obtain ⟨h5, hq⟩ := aW hq
  obtain ⟨h6, h7⟩ := aW hq
  have h5 : (decide (1 ≤ f.results.length) && decide (f.results.length ≤ 20)) = true := h5
  rw [Bool.and_eq_true, decide_eq_true_eq, decide_eq_true_eq] at h5
  refine ⟨h3, EW h4, ?_, fun t ht => ?_, fun s hs => ?_⟩
  ·intro e
   rw [e] at h5
   exact absurd h5.1 (by decide)
  ·obtain ⟨q, hq⟩ := iA (f := fun t p => eV ak t 0 p) _ _ h6 t ht
   exact mQ t 0 _ hq
  ·obtain ⟨q, hq⟩ := iA (f := fun s => iN n s 0) _ _ h7 s hs
   exact uD n s 0 q hq (l9 (hn f hf) s hs)
end Go.Proofs.YtnfnbjjnjjdjdaaGreatDoor
namespace Go.Proofs.YtnfnbjjnjjdjdaaGreatDoor
open Go.RowKit Go.Av Go.Ab
set_option linter.unusedSimpArgs false
set_option maxRecDepth 100000
set_option linter.defProp false
def c99 := by
 have c := aN Tryz.f99 (by conv => lhs; cbv)
 dsimp only [KK, fj, eR, eS, List.map_cons, List.map_nil, List.toList_toArray] at c
 exact c
theorem b99 : bK Tryz.prog 99 Tryz.f99 17 := ⟨Tryz.func99, by kernel_rfl⟩
def vW (a b : Int) : Int := if a < 0 ∨ b < 0 ∨ 60000 < a + b then -1 else a + b
theorem Ok (t : az) (B : List (List V)) (T : List (Nat × Nat)) : aD Tryz.prog av 99 [aT t] ⟨B, T⟩ (aB (.d (.bool (fm t))) ⟨B, T⟩) := by
 obtain ⟨N, hn⟩ : ∃ N, B.length = N := ⟨_, rfl⟩
 unfold aT fm
 have MH : decide ((t.elem.length : Int) = 0) = decide (t.elem.length = 0) := by
  rw [decide_eq_decide]; omega
 cases e1 : decide (t.kind = 0) <;> cases e2 : decide (t.name = [])
 all_goals
  refine b99.go 60 rfl fun bh => ?_
  simp only [eI] at bh
  simp only [W, seval, c99, hn, e1, e2, MH]
  refine af.ret Tryz.func99 rfl (Left.box ?_)
  first | exact ⟨rfl, rfl⟩ | (refine ⟨?_, rfl⟩; simp_all)
end Go.Proofs.YtnfnbjjnjjdjdaaGreatDoor
namespace Go.Proofs.YtnfnbjjnjjdjdaaGreatDoor
open Go.RowKit Go.Av
set_option linter.unusedVariables false
def fD {α : Type} (nm : α → List UInt8) : List α → List UInt8 → Option α
 | [], _ => none
 | x :: l, n => if nm x = n then some x else fD nm l n
def iD (k : Int) : Int := if k = 2 then 255 else if k = 3 then 2147483647 else if k = 4 then 9223372036854775807 else if k = 5 then 4294967295 else if k = 6 then 18446744073709551615 else 0
def jV (k : Int) : Bool := decide (2 ≤ k) && decide (k ≤ 6)
theorem LA (k : Int) : jV k = decide (0 < iD k) := by
 unfold jV iD
 repeat' split
 all_goals (rename_i h; first | (subst h; decide) | skip)
 rw [Bool.eq_iff_iff]
 simp
 omega
def bg : az := .mk 1 [] []
def bS : az := .mk 4 [] []
def RE : az := .mk 6 [] []
structure bG where
 su : List cM
 fu : List cR
 vs : List bI
def bP (su : List cM) : az → Bool
 | .mk k n es => if k = 8 then (match es with
  | e :: _ => bP su e
  | [] => false) else decide (k ≠ 7) || (fD cM.name su n).isSome
def gV (su : List cM) (fu : List cR) (s : List UInt8) : Bool := (fD cM.name su s).isNone && (fD cR.name fu s).isNone && !(s == [95])
def gN : aj → Bool
 | .mk k _ _ _ _ ks => decide (k = 2) || decide (k = 5) && (match ks with
  | y :: _ => decide (y.kind = 2)
  | [] => false)
def setType : aj → az → aj
 | .mk k t i _ ns ks, ty => .mk k t i ty ns ks
def aP : aj → List aj → aj
 | .mk k t i ty ns _, ks => .mk k t i ty ns ks
def kD (su : List cM) (t : az) (n : List UInt8) : Option az :=
 if t.kind = 7 then (match fD cM.name su t.name with
  | some s => (fD bI.name s.fields n).map bI.type
  | none => none) else none
def gm (t : az) : Option az := if t.kind = 8 then t.elem.head? else none
def nY (x : aj) (want : az) : Option (aj × az) :=
 if x.kind = 5 then (match x.kids with
  | y :: ks => if (want.kind = 3 ∨ want.kind = 4) ∧ y.int ≤ iD want.kind + 1 then some (aP x (setType y want :: ks), want) else none
  | [] => none)
 else if iD want.kind = 0 ∨ iD want.kind < x.int then none else some (setType x want, want)
def aV (r : Option (aj × az)) (t : az) : Option aj :=
 match r with
 | some (y, u) => if tG u t = true then some y else none
 | none => none
def rE (fa fb : az → Option (aj × az)) (la : Bool) (w : az) : Option (aj × aj × az) :=
 if la = true then (match fb w with
  | some (b, t) => (aV (fa t) t).map fun a => (a, b, t)
  | none => none)
 else (match fa w with
  | some (a, t) => (aV (fb t) t).map fun b => (a, b, t)
  | none => none)
def kE (t : List UInt8) : Bool := t == [38, 38] || t == [124, 124]
def shift (t : List UInt8) : Bool := t == [60, 60] || t == [62, 62]
def alike (t : List UInt8) : Bool := t == [61, 61] || t == [33, 61]
def order (t : List UInt8) : Bool := t == [60] || t == [60, 61] || t == [62] || t == [62, 61]
def pG (fa fb : az → Option (aj × az)) (la : Bool) (tx : List UInt8) (want : az) : Option (aj × aj × az) :=
 if kE tx = true then (match aV (fa bg) bg, aV (fb bg) bg with
  | some a, some b => some (a, b, bg)
  | _, _ => none)
 else if shift tx = true then (match fa want with
  | some (a, t) => if jV t.kind = true then (aV (fb RE) RE).map fun b => (a, b, t) else none
  | none => none)
 else if alike tx = true then (match rE fa fb la bO with
  | some (a, b, t) => if jV t.kind = true ∨ t.kind = 1 then some (a, b, bg) else none
  | none => none)
 else if order tx = true then (match rE fa fb la bO with
  | some (a, b, t) => if jV t.kind = true then some (a, b, bg) else none
  | none => none)
 else (match rE fa fb la want with
  | some (a, b, t) => if jV t.kind = true then some (a, b, t) else none
  | none => none)
def vX (f : Option cR) (al : List az → Option (List aj)) : Option (List aj × List az) :=
 match f with
 | some f => (al (f.params.map bI.type)).map fun ks => (ks, f.results)
 | none => none
mutual
def aC (E : bG) : aj → az → Option (aj × az)
 | .mk k tx i ty ns ks, want =>
  if k = 3 then some (.mk k tx i ty ns ks, bg)
  else if k = 1 then (fD bI.name E.vs tx).map fun p => (.mk k tx i ty ns ks, p.type)
  else if k = 6 then (match ks with
   | [a, b] => (pG (aC E a) (aC E b) (gN a) tx want).map fun r => (.mk k tx i ty ns [r.1, r.2.1], r.2.2)
   | _ => none)
  else if k = 7 then (match vX (fD cR.name E.fu tx) (bA E ks) with
   | some (l, [t]) => some (.mk k tx i ty ns l, t)
   | _ => none)
  else if k = 9 then (match ks with
   | [a] => (match aC E a bO with
    | some (a, t) => (kD E.su t tx).map fun f => (.mk k tx i ty ns [a], f)
    | none => none)
   | _ => none)
  else if k = 12 then (match ks with
   | [a] => (match aC E a bO with
    | some (a, t) => (gm t).map fun _ => (.mk k tx i ty ns [a], bS)
    | none => none)
   | _ => none)
  else if k = 10 then (match ks with
   | [a, b] => (match aC E a bO with
    | some (a, t) => (gm t).bind fun e => (aV (aC E b bS) bS).map fun b => (.mk k tx i ty ns [a, b], e)
    | none => none)
   | _ => none)
  else if k = 11 then (match ks with
   | [a, b, c] => (match aC E a bO with
    | some (a, t) => (gm t).bind fun _ => (aV (aC E b bS) bS).bind fun b => (aV (aC E c bS) bS).map fun c => (.mk k tx i ty ns [a, b, c], t)
    | none => none)
   | _ => none)
  else if k = 13 then (match ks with
   | [a, b] => (match aC E a want with
    | some (a, t) => (gm t).bind fun e => (aV (aC E b e) e).map fun b => (.mk k tx i ty ns [a, b], t)
    | none => none)
   | _ => none)
  else if k = 14 then (if bP E.su ty = true then ((ns.mapM (kD E.su ty)).bind (bA E ks)).map fun l => (.mk k tx i ty ns l, ty) else none)
  else if k = 15 then (if bP E.su ty = true then ((gm ty).bind fun e => bA E ks (List.replicate ks.length e)).map fun l => (.mk k tx i ty ns l, ty) else none)
  else if gN (.mk k tx i ty ns ks) = true then nY (.mk k tx i ty ns ks) want
  else if k = 4 then (match ks with
   | [a] => (aV (aC E a bg) bg).map fun a => (.mk k tx i ty ns [a], bg)
   | _ => none)
  else if k = 5 then (match ks with
   | [a] => (match aC E a want with
    | some (a, t) => if jV t.kind = true then some (.mk k tx i ty ns [a], t) else none
    | none => none)
   | _ => none)
  else (match ks with
   | [a] => if gN a = true then (aV (aC E a ty) ty).map fun a => (.mk k tx i ty ns [a], ty)
    else (match aC E a bO with
     | some (a, t) => if jV t.kind = true then some (.mk k tx i ty ns [a], ty) else none
     | none => none)
   | _ => none)
def bA (E : bG) : List aj → List az → Option (List aj)
 | [], [] => some []
 | x :: l, t :: ts => (match aV (aC E x t) t with
  | some y => (bA E l ts).map fun l => y :: l
  | none => none)
 | _, _ => none
end
def mb (E : bG) (x : aj) : Option (aj × List az) := (vX (fD cR.name E.fu x.text) (bA E x.kids)).map fun r => (aP x r.1, r.2)
def fQ (E : bG) (l : List aj) (ts : List az) : Option (List aj) :=
 match l with
 | [x] => if 1 < ts.length ∧ x.kind = 7 then (match mb E x with
  | some (y, rs) => if gq rs ts = true then some [y] else none
  | none => none)
  else bA E l ts
 | l => bA E l ts
def nh (E : bG) : List aj → Option (List az)
 | [] => some []
 | x :: l => match aC E x bO with
  | some (_, t) => (nh E l).map fun ts => t :: ts
  | none => none
mutual
def iE (su : List cM) (fu : List cR) (res : List az) : aF → List bI → Option (aF × List bI)
 | .mk k ns ty ls es b e cs, vs =>
  if k = 1 then (match ns with
   | n :: _ => if (fD bI.name vs n).isNone = true ∧ gV su fu n = true ∧ bP su ty = true then some (.mk k ns ty ls es b e cs, vs ++ [⟨n, ty⟩]) else none
   | [] => none)
  else if k = 2 then (match nh ⟨su, fu, vs⟩ ls with
   | some ts => (fQ ⟨su, fu, vs⟩ es ts).map fun es => (.mk k ns ty ls es b e cs, vs)
   | none => none)
  else if k = 6 then (fQ ⟨su, fu, vs⟩ es res).map fun es => (.mk k ns ty ls es b e cs, vs)
  else (match es with
   | [x] => if k = 5 then (match aC ⟨su, fu, vs⟩ x bO with
    | some (x, t) => if jV t.kind = true then (match gO su fu res (iD t.kind) cs vs with
     | some cs => (cB su fu res e vs).map fun e => (.mk k ns ty ls [x] b e cs, vs)
     | none => none) else none
    | none => none)
    else (match aV (aC ⟨su, fu, vs⟩ x bg) bg with
     | some x => (match cB su fu res b vs with
      | some b => (cB su fu res e vs).map fun e => (.mk k ns ty ls [x] b e cs, vs)
      | none => none)
     | none => none)
   | _ => none)
def cB (su : List cM) (fu : List cR) (res : List az) : List aF → List bI → Option (List aF)
 | [], _ => some []
 | s :: l, vs => (match iE su fu res s vs with
  | some (s, vs) => (cB su fu res l vs).map fun l => s :: l
  | none => none)
def gO (su : List cM) (fu : List cR) (res : List az) (top : Int) : List cQ → List bI → Option (List cQ)
 | [], _ => some []
 | .mk i b :: l, vs => if top < i then none else (match cB su fu res b vs with
  | some b => (gO su fu res top l vs).map fun l => .mk i b :: l
  | none => none)
end
mutual
def vY : aF → Bool
 | .mk k _ _ _ _ b e cs => decide (k = 6) || (dY e && (decide (k = 5) || decide (k = 3) && dY b) && ni cs)
def dY : List aF → Bool
 | [] => false
 | s :: l => (match l with
  | [] => vY s
  | _ :: _ => dY l)
def ni : List cQ → Bool
 | [] => true
 | .mk _ b :: l => dY b && ni l
end
end Go.Proofs.YtnfnbjjnjjdjdaaGreatDoor
namespace Go.Proofs.YtnfnbjjnjjdjdaaGreatDoor
open Go.RowKit Go.Av Go.Ab
set_option linter.unusedSimpArgs false
set_option maxRecDepth 100000
set_option linter.defProp false
def Yt := by
 have c := aN Tryz.f13 (by conv => lhs; cbv)
 dsimp only [KK, fj, eR, eS, List.map_cons, List.map_nil, List.toList_toArray] at c
 exact c
theorem Ol {I : Inv} {z : Nat × Nat} {fn : FuncId} {R : V → Mem → Prop} {k : List Item} {env : List V} {S : Mem} {P : Program} {f : Func} {v : V} {a : Nat} {t : TypeId} (hf : P.funcs[fn]? = some f) (hr : f.results.toList = [.cell a t]) (h1 : fM P S t (env.getD a .undef) = some v) (hR : R v S) : af P I z fn (.code .ret :: k) env S R :=
 af.ret hf (by rw [hr]; exact h1) hR
theorem ct {I : Inv} {z : Nat × Nat} {fn : FuncId} {R : V → Mem → Prop} {k : List Item} {env : List V} {S : Mem} {P : Program} {f : Func} {v u : V} {a b : Nat} {t : TypeId} (hf : P.funcs[fn]? = some f) (hr : f.results.toList = [.cell a t, .tmp b]) (h1 : fM P S t (env.getD a .undef) = some v) (h2 : env.getD b .undef = u) (hR : R (.bZ [v, u]) S) : af P I z fn (.code .ret :: k) env S R :=
 af.ret hf (by rw [hr]; simp only [Bb, tn, h1, h2]) hR
def jt (t : az) : List V := [.d (.int .i64 t.kind), .d (.str t.name), .d (.sl (t.elem.map ej))]
def vZ {α : Type} (nm : α → List UInt8) : List α → List UInt8 → Int → Int
 | [], _, _ => -1
 | x :: l, n, i => if nm x = n then i else vZ nm l n (i + 1)
theorem Gs {α : Type} (nm : α → List UInt8) : ∀ (l : List α) (n : List UInt8) (i : Int), 0 ≤ i → (vZ nm l n i = -1 ∧ fD nm l n = none) ∨ ∃ (j : Nat) (x : α), vZ nm l n i = i + j ∧ l[j]? = some x ∧ fD nm l n = some x
 | [], _, _, _ => .inl ⟨rfl, rfl⟩
 | x :: l, n, i, hi => by
  by_cases h : nm x = n
  ·exact .inr ⟨0, x, by simp [vZ, h], rfl, by simp [fD, h]⟩
  ·rcases Gs nm l n (i + 1) (by omega) with ⟨h1, h2⟩ | ⟨j, y, h1, h2, h3⟩
   ·exact .inl ⟨by simp [vZ, h, h1], by simp [fD, h, h2]⟩
   ·exact .inr ⟨j + 1, y, by simp [vZ, h, h1]; omega, by simpa using h2, by simp [fD, h, h3]⟩
def RF (su : List cM) (fu : List cR) (vv : V) (res : List az) : List V := [.d (.sl (su.map fJ)), .d (.sl (fu.map fK)), vv, .d (.sl (res.map ej))]
inductive TW : az → Prop
 | leaf (k : Int) (n : List UInt8) (es : List az) : k ≠ 8 → TW (.mk k n es)
 | sl (n : List UInt8) (t : az) : TW t → TW (.mk 8 n [t])
theorem TW.yB {t : az} (h : Ls t) : TW t := by
 induction h with
 | UM k h1 h2 => exact .leaf k _ _ (by omega)
 | JE n h => exact .leaf 7 _ _ (by omega)
 | UN t h ih => exact .sl _ t ih
structure nx (l : List cM) (m : List cR) : Prop where
 su : l.length ≤ 60000
 fu : m.length ≤ 60000
 fl : ∀ s ∈ l, s.fields.length ≤ 60000 ∧ ∀ f ∈ s.fields, TW f.type
 pa : ∀ f ∈ m, f.params.length ≤ 60000 ∧ f.results.length ≤ 60000 ∧ (∀ p ∈ f.params, TW p.type) ∧ ∀ t ∈ f.results, TW t
theorem yC (su : List cM) (n : List UInt8) (t : az) : bP su (.mk 8 n [t]) = bP su t := by
 conv => lhs; unfold bP
 exact if_pos rfl
theorem tL (su : List cM) (k : Int) (n : List UInt8) (es : List az) (hk : k ≠ 8) : bP su (.mk k n es) = (decide (k ≠ 7) || (fD cM.name su n).isSome) := by
 unfold bP
 rw [if_neg hk]
def EX (r : Option az) (v : V) : Prop :=
 match r with
 | some t => v = .bZ [aT t, .d (.bool true)]
 | none => v = .bZ [aT bO, .d (.bool false)]
theorem Om (i n cap : Nat) : mE (.bx i n cap) = none := rfl
theorem On (e a b : Nat) (g : Bool) (z : List V) (i n cap : Nat) : sn ⟨.slice e, a, b, g, z⟩ (.bx i n cap) = some (.d (.int .i64 (n : Int))) := rfl
theorem Oo (P : Program) (e a b : Nat) (g : Bool) (z : List V) (i n cap : Nat) (k : Int) : zh P ⟨.slice e, a, b, g, z⟩ (.bx i n cap) k = match bB P e with
 | some te => if 0 ≤ k ∧ k < (n : Int) then some (.ptr i (k.toNat * te.size)) else none
 | none => none := rfl
set_option linter.defProp false in
def ie := And.intro Om (And.intro On Oo)
def iF (B : List (List V)) (c : Nat) (vv : V) (vs : List bI) : Prop :=
 (vs = [] ∧ vv = .sl [] .full) ∨ ∃ (i cap : Nat) (J : List V), vv = .bx i vs.length cap ∧ i ≠ c ∧ B[i]? = some ((vs.map gI).flatten.map .d ++ J) ∧ J.length = (cap - vs.length) * 4 ∧ vs.length ≤ cap ∧ vs.length ≤ 9223372036854775806
theorem iF.more {B J : List (List V)} {c : Nat} {vv : V} {vs : List bI} (h : iF B c vv vs) : iF (B ++ J) c vv vs := by
 rcases h with h | ⟨i, cap, K, h1, h2, h3, h4⟩
 ·exact .inl h
 ·exact .inr ⟨i, cap, K, h1, h2, by rw [ai (List.getElem?_eq_some_iff.1 h3).1]; exact h3, h4⟩
theorem qu (vs : List bI) : (vs.map gI).flatten.length = vs.length * 4 := by
 induction vs with
 | nil => rfl
 | cons p l ih => rw [List.map_cons, List.flatten_cons, List.length_append, ih, List.length_cons]; simp [gI]; omega
def kG (f : Nat → Nat → List V → Prop) (n : Nat) (B : List (List V)) (lo hi : Nat) (v : V) : Prop :=
 (n = 0 ∧ v = .d (.sl []) ∧ lo ≤ hi) ∨ (n ≠ 0 ∧ ∃ j cap Y, v = .bx j n cap ∧ lo ≤ j ∧ j < hi ∧ B[j]? = some Y ∧ f (j + 1) hi Y)
theorem kG.le {f : Nat → Nat → List V → Prop} {n : Nat} {B : List (List V)} {lo hi : Nat} {v : V} (h : kG f n B lo hi v) : lo ≤ hi := by
 rcases h with ⟨_, _, h⟩ | ⟨_, j, cap, Y, _, h1, h2, _⟩ <;> omega
theorem kG.frame {f g : Nat → Nat → List V → Prop} {n : Nat} {B B' : List (List V)} {lo hi : Nat} {v : V} (h : kG f n B lo hi v) (hb : ∀ i, lo ≤ i → i < hi → B'[i]? = B[i]?) (hf : ∀ a Y, lo ≤ a → f a hi Y → g a hi Y) : kG g n B' lo hi v := by
 rcases h with h | ⟨hn, j, cap, Y, rfl, h1, h2, h3, h4⟩
 ·exact .inl h
 ·exact .inr ⟨hn, j, cap, Y, rfl, h1, h2, by rw [hb j h1 h2]; exact h3, hf _ _ (by omega) h4⟩
def bL {α : Type} (sz : Nat) (f : α → Nat → Nat → List V → Prop) : List α → Nat → Nat → List V → Prop
 | [], lo, hi, _ => lo ≤ hi
 | x :: l, lo, hi, X => ∃ r X' m, X = r ++ X' ∧ r.length = sz ∧ lo ≤ m ∧ m ≤ hi ∧ f x lo m r ∧ bL sz f l m hi X'
theorem bL.le {α : Type} {sz : Nat} {f : α → Nat → Nat → List V → Prop} : ∀ {l : List α} {lo hi : Nat} {X : List V}, bL sz f l lo hi X → lo ≤ hi
 | [], _, _, _, h => h
 | x :: l, lo, hi, X, ⟨r, X', m, _, _, h1, h2, _⟩ => by omega
theorem bL.congr {α : Type} {sz : Nat} {f g : α → Nat → Nat → List V → Prop} : ∀ {l : List α} {lo hi : Nat} {X : List V}, bL sz f l lo hi X → (∀ x ∈ l, ∀ a b r, lo ≤ a → b ≤ hi → f x a b r → g x a b r) → bL sz g l lo hi X
 | [], _, _, _, h, _ => h
 | x :: l, lo, hi, X, ⟨r, X', m, h1, h2, h3, h4, h5, h6⟩, hg => ⟨r, X', m, h1, h2, h3, h4, hg x (by simp) _ _ _ (Nat.le_refl _) h4 h5, h6.congr fun y hy a b r' ha hb hf => hg y (by simp [hy]) a b r' (by omega) hb hf⟩
theorem bL.at {α : Type} {sz : Nat} {f : α → Nat → Nat → List V → Prop} : ∀ {l : List α} {lo hi : Nat} {X : List V}, bL sz f l lo hi X → ∀ (k : Nat) (x : α), l[k]? = some x →
 ∃ A r C MI jD, X = A ++ r ++ C ∧ A.length = k * sz ∧ r.length = sz ∧ lo ≤ MI ∧ MI ≤ jD ∧ jD ≤ hi ∧ f x MI jD r ∧
  ∀ (g : α → Nat → Nat → List V → Prop) (y : α) (r' : List V), r'.length = sz → g y MI jD r' → (∀ z ∈ l, ∀ a b q, lo ≤ a → b ≤ hi → (b ≤ MI ∨ jD ≤ a) → f z a b q → g z a b q) → bL sz g (l.set k y) lo hi (A ++ r' ++ C)
 | [], _, _, _, _, k, x, hk => by simp at hk
 | z :: l, lo, hi, X, ⟨r, X', m, h1, h2, h3, h4, h5, h6⟩, 0, x, hk => by
  obtain rfl : z = x := by simpa using hk
  refine ⟨[], r, X', lo, m, by simpa using h1, by simp, h2, Nat.le_refl _, h3, h4, h5, fun g y r' hr hy hg => ⟨r', X', m, by simp, hr, h3, h4, hy, h6.congr fun u hu a b q ha hb hf => hg u (by simp [hu]) a b q (by omega) hb (.inr ha) hf⟩⟩
 | z :: l, lo, hi, X, ⟨r, X', m, h1, h2, h3, h4, h5, h6⟩, k + 1, x, hk => by
  obtain ⟨A, q, C, MI, jD, e1, e2, e3, e4, e5, e6, e7, e8⟩ := bL.at h6 k x (by simpa using hk)
  refine ⟨r ++ A, q, C, MI, jD, by rw [h1, e1]; simp, by rw [List.length_append, h2, e2, Nat.add_mul]; omega, e3, by omega, e5, e6, e7, fun g y r' hr hy hg => ?_⟩
  refine ⟨r, A ++ r' ++ C, m, by simp, h2, h3, h4, hg z (by simp) _ _ _ (Nat.le_refl _) h4 (.inl e4) h5, e8 g y r' hr hy fun u hu a b p ha hb hc hf => hg u (by simp [hu]) a b p (by omega) hb hc hf⟩
theorem bL.len {α : Type} {sz : Nat} {f : α → Nat → Nat → List V → Prop} : ∀ {l : List α} {lo hi : Nat} {X : List V}, bL sz f l lo hi X → l.length * sz ≤ X.length
 | [], _, _, _, _ => by simp
 | x :: l, lo, hi, X, ⟨r, X', m, h1, h2, h3, h4, h5, h6⟩ => by
  have := bL.len h6
  rw [h1, List.length_append, List.length_cons, Nat.add_mul]; omega
def aR (x : aj) (kv : V) : List V := [.d (.int .i64 x.kind), .d (.str x.text), .d (.int .u64 x.int), .d (.int .i64 x.type.kind), .d (.str x.type.name), .d (.sl (x.type.elem.map ej)), .d (.sl (gu x.names)), kv]
theorem sQ {A C : List V} {x y : aj} {kv : V} : ∀ v ∈ A ++ aR y kv ++ C, v ∈ A ++ aR x kv ++ C ∨ fit 0 0 v = true := by
 intro v hv
 simp only [List.mem_append, aR, List.mem_cons, List.not_mem_nil, or_false] at hv ⊢
 rcases hv with (hv | hv) | hv
 ·exact .inl (.inl (.inl hv))
 ·rcases hv with rfl | rfl | rfl | rfl | rfl | rfl | rfl | rfl
  all_goals first
   | exact .inr rfl
   | exact .inl (.inl (.inr (by simp)))
 ·exact .inl (.inr hv)
mutual
def iG (B : List (List V)) : aj → Nat → Nat → List V → Prop
 | .mk k t i ty ns ks => fun lo hi r => ∃ kv, r = aR (.mk k t i ty ns ks) kv ∧ kG (jB B ks) ks.length B lo hi kv
def jB (B : List (List V)) : List aj → Nat → Nat → List V → Prop
 | [] => fun lo hi _ => lo ≤ hi
 | x :: l => fun lo hi X => ∃ r X' m, X = r ++ X' ∧ r.length = 8 ∧ lo ≤ m ∧ m ≤ hi ∧ iG B x lo m r ∧ jB B l m hi X'
end
theorem jg (B : List (List V)) : ∀ (l : List aj) (lo hi : Nat) (X : List V), jB B l lo hi X = bL 8 (iG B) l lo hi X
 | [], _, _, _ => by unfold jB bL; rfl
 | x :: l, lo, hi, X => by
  unfold jB bL
  simp only [jg B l]
def fN (B : List (List V)) (l : List aj) (lo hi : Nat) (v : V) : Prop := kG (jB B l) l.length B lo hi v
theorem iH {B : List (List V)} {x : aj} {lo hi : Nat} {r : List V} : iG B x lo hi r ↔ ∃ kv, r = aR x kv ∧ fN B x.kids lo hi kv := by
 cases x
 unfold iG fN
 rfl
mutual
theorem iG.frame {B B' : List (List V)} : ∀ (x : aj) {lo hi : Nat} {r : List V}, iG B x lo hi r → (∀ i, lo ≤ i → i < hi → B'[i]? = B[i]?) → iG B' x lo hi r
 | .mk k t i ty ns ks, lo, hi, r, h, hb => by
  unfold iG at h ⊢
  obtain ⟨kv, h1, h2⟩ := h
  exact ⟨kv, h1, h2.frame hb fun a Y ha hf => jB.frame ks hf fun i h3 h4 => hb i (by omega) h4⟩
theorem jB.frame {B B' : List (List V)} : ∀ (l : List aj) {lo hi : Nat} {X : List V}, jB B l lo hi X → (∀ i, lo ≤ i → i < hi → B'[i]? = B[i]?) → jB B' l lo hi X
 | [], lo, hi, X, h, hb => by
  unfold jB at h ⊢
  exact h
 | x :: l, lo, hi, X, h, hb => by
  unfold jB at h ⊢
  obtain ⟨r, X', m, h1, h2, h3, h4, h5, h6⟩ := h
  exact ⟨r, X', m, h1, h2, h3, h4, iG.frame x h5 fun i h7 h8 => hb i h7 (by omega), jB.frame l h6 fun i h7 h8 => hb i (by omega) h8⟩
end
theorem fN.frame {B B' : List (List V)} {l : List aj} {lo hi : Nat} {v : V} (h : fN B l lo hi v) (hb : ∀ i, lo ≤ i → i < hi → B'[i]? = B[i]?) : fN B' l lo hi v :=
 kG.frame h hb fun a Y ha hf => jB.frame l hf fun i h3 h4 => hb i (by omega) h4
def Out (j lo hi i : Nat) : Prop := i ≠ j ∧ (i < lo ∨ hi ≤ i)
def cm (j lo hi n : Nat) (B B' : List (List V)) : Prop := B.length ≤ B'.length ∧ (∀ i, i < n → Out j lo hi i → B'[i]? = B[i]?) ∧ ∀ i, i < n → ∀ Y, B'[i]? = some Y → ∀ v ∈ Y, (∃ X, B[i]? = some X ∧ v ∈ X) ∨ fit 0 0 v = true
theorem cm.mem {j lo hi n : Nat} {B B1 B2 : List (List V)} (h : cm j lo hi n B B1) (hl : B.length ≤ B2.length) (he : ∀ i, i < n → B2[i]? = B1[i]?) : cm j lo hi n B B2 :=
 ⟨hl, fun i hn ho => (he i hn).trans (h.2.1 i hn ho), fun i hn Y hY v hv => h.2.2 i hn Y (by rw [← he i hn]; exact hY) v hv⟩
theorem cm.refl (j lo hi n : Nat) (B : List (List V)) : cm j lo hi n B B := ⟨Nat.le_refl _, fun _ _ _ => rfl, fun _ _ Y hY _ hv => .inl ⟨Y, hY, hv⟩⟩
theorem cm.trans {j lo hi n : Nat} {B B1 B2 : List (List V)} (h : cm j lo hi n B B1) (h1 : cm j lo hi n B1 B2) : cm j lo hi n B B2 :=
 ⟨Nat.le_trans h.1 h1.1, fun i hn hi => (h1.2.1 i hn hi).trans (h.2.1 i hn hi), fun i hn Y hY v hv => (h1.2.2 i hn Y hY v hv).elim (fun ⟨X, hX, hm⟩ => h.2.2 i hn X hX v hm) .inr⟩
theorem cm.less {j lo hi n m : Nat} {B B1 : List (List V)} (h : cm j lo hi n B B1) (hm : m ≤ n) : cm j lo hi m B B1 := ⟨h.1, fun i hi => h.2.1 i (by omega), fun i hi => h.2.2 i (by omega)⟩
theorem cm.sub {j lo hi n j1 eC dM : Nat} {B B1 : List (List V)} (h : cm j1 eC dM n B B1) (h1 : lo ≤ j1) (h2 : j1 < hi) (h3 : lo ≤ eC) (h4 : dM ≤ hi) : cm j lo hi n B B1 :=
 ⟨h.1, fun i hn ho => h.2.1 i hn ⟨by have := ho.2; omega, by have := ho.2; omega⟩, h.2.2⟩
theorem cm.step {j lo hi : Nat} {B M B1 : List (List V)} (h0 : cm j lo hi B.length B M) (h : cm j lo hi M.length M B1) : cm j lo hi B.length B B1 := h0.trans (h.less h0.1)
theorem cm.app {j lo hi : Nat} {B M J : List (List V)} (h0 : cm j lo hi B.length B M) : cm j lo hi B.length B (M ++ J) := h0.mem (by have := h0.1; rw [List.length_append]; omega) fun i hi => ai (Nat.lt_of_lt_of_le hi h0.1)
theorem cm.jh {j lo hi : Nat} {B M : List (List V)} {k : Nat} {x : List V} (h0 : cm j lo hi B.length B M) (hk : B.length ≤ k) : cm j lo hi B.length B (M.set k x) := h0.mem (by rw [List.length_set]; exact h0.1) fun i hi => List.getElem?_set_ne (by omega)
theorem cm.new {j lo hi : Nat} {B J : List (List V)} : cm j lo hi B.length B (B ++ J) := (cm.refl _ _ _ _ B).app
theorem cm.cut {j lo hi : Nat} {B M : List (List V)} (h : cm j lo hi B.length B M) : cm j lo hi B.length B (M.take B.length) := h.mem (by have := h.1; rw [List.length_take]; omega) fun i hi => by rw [List.getElem?_take, if_pos hi]
theorem v7 {j lo hi : Nat} {B M : List (List V)} {T K : List (Nat × Nat)} {R : V → Mem → Prop} {v : V} (he : cm j lo hi B.length B M) (h : R (wk B.length T.length v) ⟨M.take B.length, T⟩) : Go.Ab.Left ⟨B, T⟩ R v ⟨M, T ++ K⟩ := by
 have hl : (M.take B.length).length = B.length := by have := he.1; rw [List.length_take]; omega
 have := Go.Ab.Left.Xp (J := M.drop B.length) (U := T) (K := K) hl rfl (fun i vs hi v hv => ?_) h
 ·rwa [List.take_append_drop] at this
 ·have au : i < B.length := by have := (List.getElem?_eq_some_iff.1 hi).1; omega
  rw [List.getElem?_take, if_pos au] at hi
  exact (he.2.2 i au vs hi v hv).imp id fun h => lV (Nat.zero_le _) (Nat.zero_le _) v h
theorem an {j lo hi : Nat} {B M : List (List V)} {T : List (Nat × Nat)} {R : V → Mem → Prop} {v : V} (he : cm j lo hi B.length B M) (h : R (wk B.length T.length v) ⟨M.take B.length, T⟩) : Go.Ab.Left ⟨B, T⟩ R v ⟨M, T⟩ := by
 have := v7 (K := []) he h
 rwa [List.append_nil] at this
def xF (s f w : Nat) (res : List az) : List V := [.mp s, .mp f, .mp w, .d (.sl (res.map ej))]
def ny (l : List cM) : List V := [.nI (l.map cM.name) (l.map xC)]
def nA (l : List cR) : List V := [.nI (l.map cR.name) (l.map xD)]
def pU (l : List bI) : List V := [.nI (l.map bI.name) (l.map fun p => aT p.type)]
structure rF (B : List (List V)) (c s f w : Nat) (E : bG) (res : List az) : Prop where
 c : B[c]? = some (xF s f w res)
 s : B[s]? = some (ny E.su)
 f : B[f]? = some (nA E.fu)
 w : B[w]? = some (pU E.vs)
theorem rF.dZ {B B' : List (List V)} {c s f w : Nat} {E : bG} {res : List az} (h : rF B c s f w E res) (hc : B'[c]? = B[c]?) (hs : B'[s]? = B[s]?) (hf : B'[f]? = B[f]?) (hw : B'[w]? = B[w]?) : rF B' c s f w E res :=
 ⟨by rw [hc]; exact h.c, by rw [hs]; exact h.s, by rw [hf]; exact h.f, by rw [hw]; exact h.w⟩
structure bU (B : List (List V)) (n c s f w : Nat) (E : bG) (res : List az) (j lo hi : Nat) (A C : List V) (kv : V) (x : aj) : Prop where
 k : rF B c s f w E res
 row : B[j]? = some (A ++ aR x kv ++ C)
 own : fN B x.kids lo hi kv
 jo : j < lo ∨ hi ≤ j
 oc : Out j lo hi c
 os : Out j lo hi s
 of : Out j lo hi f
 ow : Out j lo hi w
 nb : c < n ∧ s < n ∧ f < n ∧ w < n ∧ j < n ∧ hi ≤ n
 nl : n ≤ B.length
theorem bU.mem {B B' : List (List V)} {n c s f w : Nat} {E : bG} {res : List az} {j lo hi : Nat} {A C : List V} {kv : V} {x : aj} (h : bU B n c s f w E res j lo hi A C kv x) (hl : B.length ≤ B'.length) (he : ∀ i, i < n → B'[i]? = B[i]?) : bU B' n c s f w E res j lo hi A C kv x := by
 obtain ⟨n1, n2, n3, n4, n5, n6⟩ := h.nb
 exact ⟨h.k.dZ (he _ n1) (he _ n2) (he _ n3) (he _ n4), by rw [he _ n5]; exact h.row, h.own.frame fun i _ hi => he i (by omega), h.jo, h.oc, h.os, h.of, h.ow, h.nb, by have := h.nl; omega⟩
theorem bU.more {B J : List (List V)} {n c s f w : Nat} {E : bG} {res : List az} {j lo hi : Nat} {A C : List V} {kv : V} {x : aj} (h : bU B n c s f w E res j lo hi A C kv x) : bU (B ++ J) n c s f w E res j lo hi A C kv x :=
 h.mem (by simp) fun i hi => ai (Nat.lt_of_lt_of_le hi h.nl)
theorem bU.MJ {B B' : List (List V)} {n c s f w : Nat} {E : bG} {res : List az} {j lo hi : Nat} {A C : List V} {kv : V} {x y : aj} (h : bU B n c s f w E res j lo hi A C kv x) (he : cm j lo hi n B B') (hr : B'[j]? = some (A ++ aR y kv ++ C)) (ho : fN B' y.kids lo hi kv) : bU B' n c s f w E res j lo hi A C kv y := by
 obtain ⟨n1, n2, n3, n4, n5, n6⟩ := h.nb
 exact ⟨h.k.dZ (he.2.1 _ n1 h.oc) (he.2.1 _ n2 h.os) (he.2.1 _ n3 h.of) (he.2.1 _ n4 h.ow), hr, ho, h.jo, h.oc, h.os, h.of, h.ow, h.nb, by have := h.nl; have := he.1; omega⟩
theorem aO (x : aj) (l : List aj) : (aP x l).kids = l := by cases x; rfl
theorem ji (x : aj) (l : List aj) (kv : V) : aR (aP x l) kv = aR x kv := by cases x; rfl
theorem bU.pV {B : List (List V)} {n c s f w : Nat} {E : bG} {res : List az} {j lo hi : Nat} {A C : List V} {kv : V} {x : aj} (h : bU B n c s f w E res j lo hi A C kv x) {k : Nat} {y : aj} (hk : x.kids[k]? = some y) :
 ∃ (j1 cap eC dM : Nat) (A1 C1 : List V) (mc : V), kv = .bx j1 x.kids.length cap ∧ A1.length = k * 8 ∧ (j1 < n ∧ Out j1 eC dM j) ∧ bU B n c s f w E res j1 eC dM A1 C1 mc y ∧
  (∀ B1 m, cm j1 eC dM m B B1 → cm j lo hi m B B1) ∧
  ∀ B1 z, cm j1 eC dM n B B1 → B1[j1]? = some (A1 ++ aR z mc ++ C1) → fN B1 z.kids eC dM mc → bU B1 n c s f w E res j lo hi A C kv (aP x (x.kids.set k z)) := by
 have au := (List.getElem?_eq_some_iff.1 hk).1
 rcases h.own with ⟨h0, _⟩ | ⟨hn, j1, cap, Y, h1, h2, h3, h4, h5⟩
 ·omega
 rw [jg] at h5
 obtain ⟨A1, r, C1, eC, dM, e1, e2, e3, e4, e5, e6, e7, e8⟩ := h5.at k y hk
 obtain ⟨mc, rfl, hv⟩ := iH.1 e7
 obtain ⟨n1, n2, n3, n4, n5, n6⟩ := h.nb
 have sub : ∀ i, Out j lo hi i → Out j1 eC dM i := fun i hi => ⟨by have := hi.2; omega, by have := hi.2; omega⟩
 have hE : ∀ B1 m, cm j1 eC dM m B B1 → cm j lo hi m B B1 := fun B1 m he => he.sub h2 h3 (by omega) e6
 have SV := h.jo
 have tM : Out j1 eC dM j := ⟨by omega, by omega⟩
 refine ⟨j1, cap, eC, dM, A1, C1, mc, h1, e2, ⟨by omega, tM⟩, ⟨h.k, by rw [h4, e1], hv, by omega, sub _ h.oc, sub _ h.os, sub _ h.of, sub _ h.ow, ⟨n1, n2, n3, n4, by omega, by omega⟩, h.nl⟩, hE, fun B1 z he hr ho => ?_⟩
 refine h.MJ (hE _ _ he) ?_ ?_
 ·rw [ji, he.2.1 j n5 tM]; exact h.row
 ·rw [aO]
  refine .inr ⟨by rw [List.length_set]; exact hn, j1, cap, _, by rw [List.length_set]; exact h1, h2, h3, hr, ?_⟩
  rw [jg]
  refine e8 (iG B1) z _ rfl (iH.2 ⟨_, rfl, ho⟩) fun u _ a b q ha hb hc hf => iG.frame u hf fun i h7 h8 => he.2.1 i (by omega) ⟨by omega, by omega⟩
end Go.Proofs.YtnfnbjjnjjdjdaaGreatDoor
