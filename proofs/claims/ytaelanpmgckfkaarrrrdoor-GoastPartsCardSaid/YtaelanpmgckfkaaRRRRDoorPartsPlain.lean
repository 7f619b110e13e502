/- GoastParts, plain. -/
import Derived.Test.YtaelanpmgckfkaaRRRRDoorCount
namespace Go.Proofs.YtaelanpmgckfkaaRRRRDoor
open Go.RowKit Go.Av

mutual
theorem sameT_self : ∀ t : TyT, sameT t t = true
  | .mk k n es => by
    unfold sameT
    rw [show (TyT.mk k n es).kind = k from rfl, show (TyT.mk k n es).name = n from rfl, show (TyT.mk k n es).elem = es from rfl, sameTs_self es, decide_eq_true rfl, beq_self_eq_true]
    rfl
theorem sameTs_self : ∀ l : List TyT, sameTs l l = true
  | [] => by unfold sameTs; rfl
  | t :: l => by unfold sameTs; simp only; rw [sameT_self t, sameTs_self l]; rfl
end
theorem eqSs_self : ∀ l : List (List UInt8), eqSs l l = true
  | [] => rfl
  | t :: l => by unfold eqSs; simp only; rw [beq_self_eq_true, eqSs_self l]; rfl
mutual
theorem sameE_self : ∀ x : ExT, sameE x x = true
  | .mk k t i ty ns ks => by
    unfold sameE
    rw [show (ExT.mk k t i ty ns ks).kind = k from rfl, show (ExT.mk k t i ty ns ks).text = t from rfl, show (ExT.mk k t i ty ns ks).int = i from rfl, show (ExT.mk k t i ty ns ks).type = ty from rfl, show (ExT.mk k t i ty ns ks).names = ns from rfl, show (ExT.mk k t i ty ns ks).kids = ks from rfl,
      sameEs_self ks, sameT_self ty, eqSs_self ns, decide_eq_true rfl, decide_eq_true rfl, beq_self_eq_true]
    rfl
theorem sameEs_self : ∀ l : List ExT, sameEs l l = true
  | [] => by unfold sameEs; rfl
  | t :: l => by unfold sameEs; simp only; rw [sameE_self t, sameEs_self l]; rfl
end

theorem partOk_mono {d p d' p' : Int} (h : partOk d p = true) (hd : d' ≤ d) (hp : p' ≤ p) : partOk d' p' = true := by
  unfold partOk at h ⊢
  rw [Bool.and_eq_true, decide_eq_true_iff, decide_eq_true_iff] at h ⊢
  omega
theorem tyS_mono (idn : List UInt8 → Bool) : ∀ (t : TyT) (d p d' p' : Int), (tyS idn t d p).1 = true → d' ≤ d → p' ≤ p → (tyS idn t d' p').1 = true
  | .mk k n es, d, p, d', p', h, hd, hp => by
    by_cases hk : partOk d p = false
    · exfalso
      unfold tyS at h
      rw [if_pos hk] at h
      cases h
    · have hk' : ¬ partOk d' p' = false := by rw [partOk_mono (by simpa using hk) hd hp]; decide
      rw [tyS_go idn k n es d p hk] at h
      rw [tyS_go idn k n es d' p' hk']
      by_cases h1 : 1 ≤ k ∧ k ≤ 6
      · rw [if_pos h1] at h ⊢
        exact h
      · rw [if_neg h1] at h ⊢
        by_cases h7 : k = 7
        · rw [if_pos h7] at h ⊢
          exact h
        · rw [if_neg h7] at h ⊢
          match es with
          | [] => cases h
          | e :: f :: l => cases h
          | [e] =>
            by_cases h8 : k = 8 ∧ n = []
            · have he : tyRest idn k n d p [e] = tyS idn e (d + 1) (p + 1) := if_pos h8
              have he' : tyRest idn k n d' p' [e] = tyS idn e (d' + 1) (p' + 1) := if_pos h8
              rw [he] at h
              rw [he']
              exact tyS_mono idn e _ _ _ _ h (by omega) (by omega)
            · have he : tyRest idn k n d p [e] = (false, p + 1) := if_neg h8
              rw [he] at h
              cases h
theorem bareT_mono (x : ExT) (d p d' p' : Int) (h : (bareT x d p).1 = true) (hd : d' ≤ d) (hp : p' ≤ p) : (bareT x d' p').1 = true := by
  have hty := fun hh => tyS_mono identS x.type (d + 1) p (d' + 1) p' hh (by omega) hp
  unfold bareT at h ⊢
  by_cases h8 : x.kind = 8
  · rw [if_pos h8] at h ⊢
    by_cases hq : 2 ≤ x.type.kind ∧ x.type.kind ≤ 6
    · rw [if_pos hq] at h ⊢
      exact hty h
    · rw [if_neg hq] at h
      cases h
  · rw [if_neg h8] at h ⊢
    by_cases h14 : x.kind = 14
    · rw [if_pos h14] at h ⊢
      by_cases hq : x.type.kind = 7
      · rw [if_pos hq] at h ⊢
        by_cases hr : (tyS identS x.type (d + 1) p).1 = true
        · rw [if_pos hr] at h
          rw [if_pos (hty hr)]
          exact h
        · rw [if_neg hr] at h
          cases h
      · rw [if_neg hq] at h
        cases h
    · rw [if_neg h14] at h ⊢
      by_cases h15 : x.kind = 15
      · rw [if_pos h15] at h ⊢
        by_cases hq : x.type.kind = 8
        · rw [if_pos hq] at h ⊢
          exact hty h
        · rw [if_neg hq] at h
          cases h
      · rw [if_neg h15] at h ⊢
        exact h
theorem bareS_mono (x : ExT) (d p d' p' : Int) (h : (bareS x d p).1 = true) (hd : d' ≤ d) (hp : p' ≤ p) : (bareS x d' p').1 = true := by
  unfold bareS at h ⊢
  simp only [Bool.and_eq_true] at h ⊢
  exact ⟨⟨⟨⟨bareT_mono x d p d' p' h.1.1.1.1 hd hp, h.1.1.1.2⟩, h.1.1.2⟩, h.1.2⟩, h.2⟩
mutual
theorem exS_mono : ∀ (x : ExT) (d p d' p' : Int), (exS x d p).1 = true → d' ≤ d → p' ≤ p → (exS x d' p').1 = true
  | .mk k t i ty ns ks, d, p, d', p', h, hd, hp => by
    unfold exS at h ⊢
    by_cases hk : partOk d p = false
    · rw [if_pos hk] at h; cases h
    · have hk' : ¬ partOk d' p' = false := by rw [partOk_mono (by simpa using hk) hd hp]; decide
      rw [if_neg hk] at h
      rw [if_neg hk']
      by_cases h1 : mostS k < (ks.length : Int) ∨ manyS k = -2 ∨ (0 ≤ manyS k ∧ (ks.length : Int) ≠ manyS k)
      · rw [if_pos h1] at h; cases h
      · rw [if_neg h1] at h ⊢
        by_cases h2 : (bareS (.mk k t i ty ns ks) d (p + 1)).1 = false
        · rw [if_pos h2] at h; cases h
        · have hb : (bareS (.mk k t i ty ns ks) d (p + 1)).1 = true := by simpa using h2
          have hb' := bareS_mono _ d (p + 1) d' (p' + 1) hb hd (by omega)
          rw [if_neg h2] at h
          rw [if_neg (by rw [hb']; decide)]
          have c1 := bareS_cnt _ _ _ hb
          have c2 := bareS_cnt _ _ _ hb'
          exact exsS_mono ks _ _ _ _ h (by omega) (by omega)
theorem exsS_mono : ∀ (l : List ExT) (d p d' p' : Int), (exsS l d p).1 = true → d' ≤ d → p' ≤ p → (exsS l d' p').1 = true
  | [], d, p, d', p', _, _, _ => by unfold exsS; rfl
  | x :: l, d, p, d', p', h, hd, hp => by
    unfold exsS at h ⊢
    by_cases h1 : (exS x d p).1 = false
    · rw [if_pos h1] at h; cases h
    · have hx : (exS x d p).1 = true := by simpa using h1
      have hx' := exS_mono x d p d' p' hx hd hp
      rw [if_neg h1] at h
      rw [if_neg (by rw [hx']; decide)]
      have c1 := exS_cnt x d p hx
      have c2 := exS_cnt x d' p' hx'
      exact exsS_mono l _ _ _ _ h hd (by omega)
end
theorem exsS_mem : ∀ (l : List ExT) (d p : Int), (exsS l d p).1 = true → 0 ≤ p → ∀ x ∈ l, ∃ q, 0 ≤ q ∧ (exS x d q).1 = true
  | [], d, p, _, _, x, hx => by cases hx
  | y :: l, d, p, h, hp, x, hx => by
    unfold exsS at h
    by_cases h1 : (exS y d p).1 = false
    · rw [if_pos h1] at h; cases h
    · have hy : (exS y d p).1 = true := by simpa using h1
      rw [if_neg h1] at h
      rcases List.mem_cons.1 hx with rfl | hx
      · exact ⟨p, hp, hy⟩
      · have := exS_ok y d p hy
        exact exsS_mem l d _ h (by omega) x hx
theorem exsS_snoc : ∀ (l : List ExT) (y : ExT) (d p : Int), (exsS l d p).1 = true → (exsS (l ++ [y]) d p).1 = (exS y d (exsS l d p).2).1
  | [], y, d, p, _ => by
    show (exsS [y] d p).1 = _
    unfold exsS
    by_cases h : (exS y d p).1 = false
    · rw [if_pos h]
      exact h.symm
    · rw [if_neg h]
      have h' : (exS y d p).1 = true := by simpa using h
      exact h'.symm
  | x :: l, y, d, p, h => by
    show (exsS (x :: (l ++ [y])) d p).1 = _
    unfold exsS at h ⊢
    by_cases h1 : (exS x d p).1 = false
    · rw [if_pos h1] at h; cases h
    · rw [if_neg h1] at h ⊢
      rw [if_neg h1]
      exact exsS_snoc l y d _ h
/-- What is known of an expression that may be. -/
theorem exS_open {k : Int} {t : List UInt8} {i : Int} {ty : TyT} {ns : List (List UInt8)} {ks : List ExT} {d p : Int} (h : (exS (.mk k t i ty ns ks) d p).1 = true) :
    partOk d p = true ∧ ¬ (mostS k < (ks.length : Int) ∨ manyS k = -2 ∨ (0 ≤ manyS k ∧ (ks.length : Int) ≠ manyS k)) ∧ (bareS (.mk k t i ty ns ks) d (p + 1)).1 = true ∧ (exsS ks (d + 1) (bareS (.mk k t i ty ns ks) d (p + 1)).2).1 = true := by
  unfold exS at h
  by_cases hk : partOk d p = false
  · rw [if_pos hk] at h; cases h
  · rw [if_neg hk] at h
    by_cases h1 : mostS k < (ks.length : Int) ∨ manyS k = -2 ∨ (0 ≤ manyS k ∧ (ks.length : Int) ≠ manyS k)
    · rw [if_pos h1] at h; cases h
    · rw [if_neg h1] at h
      by_cases h2 : (bareS (.mk k t i ty ns ks) d (p + 1)).1 = false
      · rw [if_pos h2] at h; cases h
      · rw [if_neg h2] at h
        exact ⟨by simpa using hk, h1, by simpa using h2, h⟩
theorem kids_may (x : ExT) (h : (exS x 0 0).1 = true) : ∀ y ∈ x.kids, (exS y 0 0).1 = true := by
  obtain ⟨k, t, i, ty, ns, ks⟩ := x
  intro y hy
  obtain ⟨_, _, h3, h4⟩ := exS_open h
  have hb := bareS_ok (.mk k t i ty ns ks) 0 (0 + 1) (by omega) h3
  obtain ⟨q, hq, hyq⟩ := exsS_mem ks _ _ h4 (by omega) y hy
  exact exS_mono y _ q 0 0 hyq (by omega) hq
def truT : ExT := .mk 3 [] 0 (.mk 0 [] []) [] []
def moreT (x : ExT) : ExT := .mk x.kind x.text x.int x.type x.names (x.kids ++ [truT])
theorem more_unlike (x : ExT) : sameE x (moreT x) = false := by
  obtain ⟨k, t, i, ty, ns, ks⟩ := x
  unfold sameE
  have : sameEs ks (moreT (.mk k t i ty ns ks)).kids = false := sameEs_len ks (ks ++ [truT]) (by rw [List.length_append]; simp)
  rw [this, Bool.and_false]
def openT (x : ExT) : Bool := (decide (x.kind = 7) && decide (((x.kids.length + 1 : Nat) : Int) ≤ 40)) || (decide (x.kind = 15) && decide (((x.kids.length + 1 : Nat) : Int) ≤ 30000))
theorem tru_may (p : Int) (hp : p ≤ 3000) : (exS truT 1 p).1 = true := by
  have h : (exS truT 1 3000).1 = true := by kernel_rfl
  exact exS_mono truT 1 3000 1 p h (by omega) hp
theorem more_may (x : ExT) (h : (exS x 0 0).1 = true) (hc : ecS x ≤ 2500) : (exS (moreT x) 0 0).1 = openT x := by
  have hcnt := exS_cnt x 0 0 h
  obtain ⟨k, t, i, ty, ns, ks⟩ := x
  obtain ⟨h1, h2, h3, h4⟩ := exS_open h
  have hlen : ((ks ++ [truT]).length : Int) = (ks.length : Int) + 1 := by simp
  show (exS (.mk k t i ty ns (ks ++ [truT])) 0 0).1 = ((decide (k = 7) && decide (((ks.length + 1 : Nat) : Int) ≤ 40)) || (decide (k = 15) && decide (((ks.length + 1 : Nat) : Int) ≤ 30000)))
  have hex : (exS (.mk k t i ty ns ks) 0 0).2 = (exsS ks (0 + 1) (bareS (.mk k t i ty ns ks) 0 (0 + 1)).2).2 := by
    conv => lhs; unfold exS
    rw [if_neg (by rw [h1]; decide), if_neg h2, if_neg (by rw [h3]; decide)]
  have hsn := exsS_snoc ks truT (0 + 1) _ h4
  have htm : (exS truT (0 + 1) (0 + ecS (.mk k t i ty ns ks))).1 = true := tru_may _ (by omega)
  rw [← hex, hcnt, htm] at hsn
  have hmany : 0 ≤ manyS k ∨ manyS k = -1 := by
    by_cases hm : 0 ≤ manyS k
    · exact .inl hm
    · right
      unfold manyS at hm ⊢
      have h22 : ¬ manyS k = -2 := fun e => h2 (.inr (.inl e))
      unfold manyS at h22
      by_cases b1 : k = 1 ∨ k = 2 ∨ k = 3
      · rw [if_pos b1] at hm; omega
      · rw [if_neg b1] at hm h22 ⊢
        by_cases b2 : k = 4 ∨ k = 5 ∨ k = 8 ∨ k = 9 ∨ k = 12
        · rw [if_pos b2] at hm; omega
        · rw [if_neg b2] at hm h22 ⊢
          by_cases b3 : k = 6 ∨ k = 10 ∨ k = 13
          · rw [if_pos b3] at hm; omega
          · rw [if_neg b3] at hm h22 ⊢
            by_cases b4 : k = 11
            · rw [if_pos b4] at hm; omega
            · rw [if_neg b4] at hm h22 ⊢
              by_cases a5 : k = 7 ∨ k = 14 ∨ k = 15
              · rw [if_pos a5]
              · rw [if_neg a5] at h22
                exact absurd rfl h22
  have hk3 : manyS k = -1 → k = 7 ∨ k = 14 ∨ k = 15 := by
    intro e
    unfold manyS at e
    by_cases a5 : k = 7 ∨ k = 14 ∨ k = 15
    · exact a5
    · rw [if_neg a5] at e
      repeat' split at e
      all_goals omega
  have hno : 0 ≤ manyS k → ¬ (k = 7 ∨ k = 15) := by
    rintro hm (rfl | rfl)
    · exact absurd hm (by decide)
    · exact absurd hm (by decide)
  rcases hmany with hm | hm
  · have h5 : (ks.length : Int) = manyS k := by
      by_cases e : (ks.length : Int) = manyS k
      · exact e
      · exact absurd (.inr (.inr ⟨hm, e⟩)) h2
    have hn := hno hm
    have e7 : decide (k = 7) = false := decide_eq_false (fun e => hn (.inl e))
    have e15 : decide (k = 15) = false := decide_eq_false (fun e => hn (.inr e))
    rw [e7, e15]
    unfold exS
    rw [if_neg (by rw [h1]; decide), if_pos (.inr (.inr ⟨hm, by rw [hlen]; omega⟩))]
    rfl
  · have hbig : mostS k < ((ks ++ [truT]).length : Int) → (exS (.mk k t i ty ns (ks ++ [truT])) 0 0).1 = false := by
      intro hb
      unfold exS
      rw [if_neg (by rw [h1]; decide), if_pos (.inl hb)]
    have hsmall : ¬ mostS k < ((ks ++ [truT]).length : Int) → bareS (.mk k t i ty ns (ks ++ [truT])) 0 (0 + 1) = bareS (.mk k t i ty ns ks) 0 (0 + 1) → (exS (.mk k t i ty ns (ks ++ [truT])) 0 0).1 = true := by
      intro hb hbe
      unfold exS
      rw [if_neg (by rw [h1]; decide), if_neg (by rw [hm]; rintro (e | e | e); exact hb e; exact absurd e (by decide); exact absurd e.1 (by decide)), hbe, if_neg (by rw [h3]; decide)]
      exact hsn
    rcases hk3 hm with rfl | rfl | rfl
    · by_cases hb : mostS 7 < ((ks ++ [truT]).length : Int)
      · rw [hbig hb]
        have : mostS 7 = 40 := rfl
        rw [decide_eq_false (show ¬ ((ks.length + 1 : Nat) : Int) ≤ 40 by omega)]
        rfl
      · rw [hsmall hb rfl]
        have : mostS 7 = 40 := rfl
        rw [decide_eq_true (show ((ks.length + 1 : Nat) : Int) ≤ 40 by omega)]
        rfl
    · have hbn : (bareS (.mk 14 t i ty ns ks) 0 (0 + 1)).1 = true := h3
      have hnl : ns.length = ks.length := by
        unfold bareS at hbn
        simp only [Bool.and_eq_true] at hbn
        have hb1 := hbn.1.1.1.1
        have hb2 : (if ty.kind = 7 then (if (tyS identS ty (0 + 1) (0 + 1)).1 = true then (decide (ns.length = ks.length) && diffS ns.length ns, (tyS identS ty (0 + 1) (0 + 1)).2) else (false, (tyS identS ty (0 + 1) (0 + 1)).2)) else (false, (0 + 1 : Int))).1 = true := hb1
        by_cases hq : ty.kind = 7
        · rw [if_pos hq] at hb2
          by_cases hr : (tyS identS ty (0 + 1) (0 + 1)).1 = true
          · rw [if_pos hr] at hb2
            simp only [Bool.and_eq_true, decide_eq_true_eq] at hb2
            exact hb2.1
          · rw [if_neg hr] at hb2
            cases hb2
        · rw [if_neg hq] at hb2
          cases hb2
      have hbf : (bareS (.mk 14 t i ty ns (ks ++ [truT])) 0 (0 + 1)).1 = false := by
        have hb1 : (bareT (.mk 14 t i ty ns (ks ++ [truT])) 0 (0 + 1)).1 = false := by
          show (if ty.kind = 7 then (if (tyS identS ty (0 + 1) (0 + 1)).1 = true then (decide (ns.length = (ks ++ [truT]).length) && diffS ns.length ns, (tyS identS ty (0 + 1) (0 + 1)).2) else (false, (tyS identS ty (0 + 1) (0 + 1)).2)) else (false, (0 + 1 : Int))).1 = false
          rw [decide_eq_false (by rw [List.length_append, hnl]; simp)]
          by_cases hq : ty.kind = 7
          · rw [if_pos hq]
            by_cases hr : (tyS identS ty (0 + 1) (0 + 1)).1 = true
            · rw [if_pos hr]; rfl
            · rw [if_neg hr]
          · rw [if_neg hq]
        unfold bareS
        rw [hb1]
        rfl
      have hf : (exS (.mk 14 t i ty ns (ks ++ [truT])) 0 0).1 = false := by
        by_cases hb : mostS 14 < ((ks ++ [truT]).length : Int)
        · exact hbig hb
        · unfold exS
          rw [if_neg (by rw [h1]; decide), if_neg (by rintro (e | e | e); exact hb e; exact absurd e (by decide); exact absurd e.1 (by decide)), if_pos hbf]
      rw [hf]
      rfl
    · by_cases hb : mostS 15 < ((ks ++ [truT]).length : Int)
      · rw [hbig hb]
        have : mostS 15 = 30000 := rfl
        rw [decide_eq_false (show ¬ ((ks.length + 1 : Nat) : Int) ≤ 30000 by omega)]
        rfl
      · rw [hsmall hb rfl]
        have : mostS 15 = 30000 := rfl
        rw [decide_eq_true (show ((ks.length + 1 : Nat) : Int) ≤ 30000 by omega)]
        rfl
end Go.Proofs.YtaelanpmgckfkaaRRRRDoor
