/- How many parts types and expressions have: the document's count, plain and walked. -/
import Derived.Test.YtaelanpmgckfkaaRRRRDoorWorks24
import Derived.WalkKit
import Derived.StillTailTactics
import Derived.Deep.QuietTactic
namespace Go.Proofs.YtaelanpmgckfkaaRRRRDoor
open Go.RowKit Go.Av

set_option maxRecDepth 100000 in
set_option maxHeartbeats 400000 in
theorem none_at {B : Nat} {W0 : World} {t : TyT} {v : Value} (h : RdTy B W0 t v) (w : World) :
    Calls Tryd.prog 76 #[.agg (tyCells t v)] w fun e w' => e = .returned (.bool (zeroS t)) ∧ Below w.heap.size w w' := by
  cases h with
  | mk k n es o cap f hc hm hn hs hr =>
    clear hs hr
    by_cases hk : k = 0
    · subst hk
      by_cases hn0 : n = []
      · subst hn0
        by_cases hm0 : es.length = 0
        · have he : ((es.length : Int) == 0) = true := beq_iff_eq.2 (by omega)
          rw [show zeroS (.mk 0 [] es) = true by simp [zeroS, TyT.kind, TyT.name, TyT.elem, List.eq_nil_of_length_eq_zero hm0]]
          clear hm0
          simp only [tyCells, TyT.kind, TyT.name]
          go_enter Tryd.func76, Tryd.ntmps76
          go_wp2_with fail
          go_ret
          exact ⟨rfl, (Below.refl _ _).alloc (Nat.le_refl _) _⟩
        · have he : ((es.length : Int) == 0) = false := beq_eq_false_iff_ne.2 (by omega)
          rw [show zeroS (.mk 0 [] es) = false by unfold zeroS; rw [show (TyT.mk 0 [] es).elem.length = es.length from rfl, decide_eq_false hm0, Bool.and_false]]
          clear hm0
          simp only [tyCells, TyT.kind, TyT.name]
          go_enter Tryd.func76, Tryd.ntmps76
          go_wp2_with fail
          go_ret
          exact ⟨rfl, (Below.refl _ _).alloc (Nat.le_refl _) _⟩
      · have hn0' : (n == []) = false := by rw [nil_beq]; exact decide_eq_false hn0
        rw [show zeroS (.mk 0 n es) = false by unfold zeroS; rw [show (TyT.mk 0 n es).name = n from rfl, decide_eq_false hn0, Bool.and_false, Bool.false_and]]
        simp only [tyCells, TyT.kind, TyT.name]
        go_enter Tryd.func76, Tryd.ntmps76
        go_wp2_with fail
        go_ret
        exact ⟨rfl, (Below.refl _ _).alloc (Nat.le_refl _) _⟩
    · have hk' : (k == 0) = false := beq_eq_false_iff_ne.2 hk
      rw [show zeroS (.mk k n es) = false by unfold zeroS; rw [show (TyT.mk k n es).kind = k from rfl, decide_eq_false hk, Bool.false_and, Bool.false_and]]
      simp only [tyCells, TyT.kind, TyT.name]
      go_enter Tryd.func76, Tryd.ntmps76
      go_wp2_with fail
      go_ret
      exact ⟨rfl, (Below.refl _ _).alloc (Nat.le_refl _) _⟩

mutual
def tpS : TyT → Int → Int
  | .mk _ _ es, m => tpsS es 1 m
def tpsS : List TyT → Int → Int → Int
  | [], n, _ => n
  | e :: es, n, m => if n ≤ m then tpsS es (n + tpS e (m - n)) m else n
end
mutual
def tcS : TyT → Int
  | .mk _ _ es => 1 + tcsS es
def tcsS : List TyT → Int
  | [] => 0
  | e :: es => tcS e + tcsS es
end
mutual
theorem tpS_le : ∀ (t : TyT) (m : Int), 1 ≤ tpS t m ∧ tpS t m ≤ max (m + 1) 1
  | .mk k n es, m => by
    unfold tpS
    have := tpsS_le es 1 m
    omega
theorem tpsS_le : ∀ (l : List TyT) (n m : Int), n ≤ tpsS l n m ∧ tpsS l n m ≤ max (m + 1) n
  | [], n, m => by unfold tpsS; omega
  | e :: es, n, m => by
    unfold tpsS
    by_cases h : n ≤ m
    · rw [if_pos h]
      have h1 := tpS_le e (m - n)
      have h2 := tpsS_le es (n + tpS e (m - n)) m
      omega
    · rw [if_neg h]; omega
end
mutual
theorem tpS_eq : ∀ (t : TyT) (m : Int), tpS t m ≤ m → tpS t m = tcS t
  | .mk k n es, m, h => by
    unfold tpS at h ⊢
    unfold tcS
    exact tpsS_eq es 1 m h
theorem tpsS_eq : ∀ (l : List TyT) (n m : Int), tpsS l n m ≤ m → tpsS l n m = n + tcsS l
  | [], n, m, _ => by unfold tpsS tcsS; omega
  | e :: es, n, m, h => by
    unfold tpsS at h ⊢
    unfold tcsS
    by_cases hn : n ≤ m
    · rw [if_pos hn] at h ⊢
      have h2 := tpsS_le es (n + tpS e (m - n)) m
      have h3 := tpS_eq e (m - n) (by omega)
      have h4 := tpsS_eq es (n + tpS e (m - n)) m h
      omega
    · rw [if_neg hn] at h; omega
end
mutual
def kpS : ExT → Int → Int → Int
  | .mk _ _ _ ty _ ks, n, m => (if zeroS ty = true then n else n + tpS ty (m - n)) + epS ks 0 (m - (if zeroS ty = true then n else n + tpS ty (m - n)))
def epS : List ExT → Int → Int → Int
  | [], n, _ => n
  | x :: l, n, m => if n ≤ m then epS l (kpS x (n + 1) m) m else n
end
mutual
def ecS : ExT → Int
  | .mk _ _ _ ty _ ks => 1 + (if zeroS ty = true then 0 else tcS ty) + ecsS ks
def ecsS : List ExT → Int
  | [] => 0
  | x :: l => ecS x + ecsS l
end
mutual
theorem kpS_le : ∀ (x : ExT) (n m : Int), n ≤ m + 1 → n ≤ kpS x n m ∧ kpS x n m ≤ m + 2
  | .mk k t i ty ns ks, n, m, hn => by
    unfold kpS
    have h1 := tpS_le ty (m - n)
    by_cases hz : zeroS ty = true
    · rw [if_pos hz]
      have h2 := epS_le ks 0 (m - n)
      omega
    · rw [if_neg hz]
      have h2 := epS_le ks 0 (m - (n + tpS ty (m - n)))
      omega
theorem epS_le : ∀ (l : List ExT) (n m : Int), n ≤ epS l n m ∧ epS l n m ≤ max (m + 2) n
  | [], n, m => by unfold epS; omega
  | x :: l, n, m => by
    unfold epS
    by_cases h : n ≤ m
    · rw [if_pos h]
      have h1 := kpS_le x (n + 1) m (by omega)
      have h2 := epS_le l (kpS x (n + 1) m) m
      omega
    · rw [if_neg h]; omega
end
mutual
theorem kpS_eq : ∀ (x : ExT) (n m : Int), kpS x n m ≤ m → kpS x n m = n - 1 + ecS x
  | .mk k t i ty ns ks, n, m, h => by
    unfold kpS at h ⊢
    unfold ecS
    by_cases hz : zeroS ty = true
    · rw [if_pos hz] at h ⊢
      rw [if_pos hz]
      have := epS_eq ks 0 (m - n) (by omega)
      omega
    · rw [if_neg hz] at h ⊢
      rw [if_neg hz]
      have h2 := epS_le ks 0 (m - (n + tpS ty (m - n)))
      have h3 := epS_eq ks 0 (m - (n + tpS ty (m - n))) (by omega)
      have h4 := tpS_eq ty (m - n) (by omega)
      omega
theorem epS_eq : ∀ (l : List ExT) (n m : Int), epS l n m ≤ m → epS l n m = n + ecsS l
  | [], n, m, _ => by unfold epS ecsS; omega
  | x :: l, n, m, h => by
    unfold epS at h ⊢
    unfold ecsS
    by_cases hn : n ≤ m
    · rw [if_pos hn] at h ⊢
      have h2 := epS_le l (kpS x (n + 1) m) m
      have h3 := kpS_eq x (n + 1) m (by omega)
      have h4 := epS_eq l (kpS x (n + 1) m) m h
      omega
    · rw [if_neg hn] at h; omega
end
/-! What the checker counts. -/
theorem tyS_cnt (idn : List UInt8 → Bool) : ∀ (t : TyT) (d p : Int), (tyS idn t d p).1 = true → (tyS idn t d p).2 = p + tcS t ∧ zeroS t = false
  | .mk k n es, d, p, h => by
    have hz : k ≠ 0 → zeroS (.mk k n es) = false := fun hk => by
      unfold zeroS
      rw [show (TyT.mk k n es).kind = k from rfl, decide_eq_false hk]
      rfl
    by_cases hk : partOk d p = false
    · exfalso
      unfold tyS at h
      rw [if_pos hk] at h
      cases h
    · rw [tyS_go idn k n es d p hk] at h ⊢
      have hnil : es.length = 0 → tcS (.mk k n es) = 1 := fun e => by
        obtain rfl := List.eq_nil_of_length_eq_zero e
        unfold tcS tcsS
        rfl
      by_cases h1 : 1 ≤ k ∧ k ≤ 6
      · rw [if_pos h1] at h ⊢
        simp only [Bool.and_eq_true, decide_eq_true_eq] at h
        rw [hnil h.2]
        exact ⟨rfl, hz (by omega)⟩
      · rw [if_neg h1] at h ⊢
        by_cases h7 : k = 7
        · rw [if_pos h7] at h ⊢
          simp only [Bool.and_eq_true, decide_eq_true_eq] at h
          rw [hnil h.2]
          exact ⟨rfl, hz (by omega)⟩
        · rw [if_neg h7] at h ⊢
          match es with
          | [] => cases h
          | e :: f :: l => cases h
          | [e] =>
            by_cases h8 : k = 8 ∧ n = []
            · have he : tyRest idn k n d p [e] = tyS idn e (d + 1) (p + 1) := if_pos h8
              rw [he] at h ⊢
              have := (tyS_cnt idn e (d + 1) (p + 1) h).1
              have hc : tcS (.mk k n [e]) = 1 + (tcS e + 0) := by
                conv => lhs; unfold tcS tcsS tcsS
              exact ⟨by omega, hz (by omega)⟩
            · have he : tyRest idn k n d p [e] = (false, p + 1) := if_neg h8
              rw [he] at h
              cases h
theorem bareS_cnt (x : ExT) (d p : Int) (h : (bareS x d p).1 = true) : (bareS x d p).2 = p + (if zeroS x.type = true then 0 else tcS x.type) := by
  have hty := tyS_cnt identS x.type (d + 1) p
  have hp : (bareS x d p).2 = (bareT x d p).2 := rfl
  rw [hp]
  unfold bareS at h
  simp only [Bool.and_eq_true] at h
  obtain ⟨⟨⟨⟨ht, _⟩, _⟩, hz⟩, _⟩ := h
  revert ht
  unfold bareT
  intro ht
  by_cases h8 : x.kind = 8
  · rw [if_pos h8] at ht ⊢
    by_cases hq : 2 ≤ x.type.kind ∧ x.type.kind ≤ 6
    · rw [if_pos hq] at ht ⊢
      obtain ⟨e1, e2⟩ := hty ht
      rw [e1, e2]
      rfl
    · rw [if_neg hq] at ht
      cases ht
  · rw [if_neg h8] at ht ⊢
    by_cases h14 : x.kind = 14
    · rw [if_pos h14] at ht ⊢
      by_cases hq : x.type.kind = 7
      · rw [if_pos hq] at ht ⊢
        by_cases hr : (tyS identS x.type (d + 1) p).1 = true
        · obtain ⟨e1, e2⟩ := hty hr
          rw [if_pos hr, e1, e2]
          rfl
        · rw [if_neg hr] at ht
          cases ht
      · rw [if_neg hq] at ht
        cases ht
    · rw [if_neg h14] at ht ⊢
      by_cases h15 : x.kind = 15
      · rw [if_pos h15] at ht ⊢
        by_cases hq : x.type.kind = 8
        · rw [if_pos hq] at ht ⊢
          obtain ⟨e1, e2⟩ := hty ht
          rw [e1, e2]
          rfl
        · rw [if_neg hq] at ht
          cases ht
      · rw [if_neg h15]
        rw [if_neg (by rintro (h | h | h); exact h8 h; exact h14 h; exact h15 h)] at hz
        have hz2 : zeroS x.type = true := by simpa using hz
        rw [if_pos hz2]
        simp
mutual
theorem exS_cnt : ∀ (x : ExT) (d p : Int), (exS x d p).1 = true → (exS x d p).2 = p + ecS x
  | .mk k t i ty ns ks, d, p, h => by
    unfold exS at h ⊢
    unfold ecS
    by_cases hk : partOk d p = false
    · rw [if_pos hk] at h; cases h
    · rw [if_neg hk] at h ⊢
      by_cases h1 : mostS k < (ks.length : Int) ∨ manyS k = -2 ∨ (0 ≤ manyS k ∧ (ks.length : Int) ≠ manyS k)
      · rw [if_pos h1] at h; cases h
      · rw [if_neg h1] at h ⊢
        by_cases h2 : (bareS (.mk k t i ty ns ks) d (p + 1)).1 = false
        · rw [if_pos h2] at h; cases h
        · rw [if_neg h2] at h ⊢
          have hb : (bareS (.mk k t i ty ns ks) d (p + 1)).2 = (p + 1) + (if zeroS ty = true then 0 else tcS ty) := bareS_cnt (.mk k t i ty ns ks) d (p + 1) (by simpa using h2)
          have := exsS_cnt ks (d + 1) _ h
          omega
theorem exsS_cnt : ∀ (l : List ExT) (d p : Int), (exsS l d p).1 = true → (exsS l d p).2 = p + ecsS l
  | [], d, p, _ => by unfold exsS ecsS; simp
  | x :: l, d, p, h => by
    unfold exsS at h ⊢
    unfold ecsS
    by_cases h1 : (exS x d p).1 = false
    · rw [if_pos h1] at h; cases h
    · rw [if_neg h1] at h ⊢
      have hx := exS_cnt x d p (by simpa using h1)
      have := exsS_cnt l d _ h
      omega
end

theorem tpsS_step (es : List TyT) (j : Nat) (h : j < es.length) (n m : Int) : tpsS (es.drop j) n m = if n ≤ m then tpsS (es.drop (j + 1)) (n + tpS es[j] (m - n)) m else n := by
  rw [List.drop_eq_getElem_cons h]
  conv => lhs; unfold tpsS
def TpAt (B : Nat) (W0 : World) (t : TyT) (v : Value) : Prop := ∀ (m : Int) (w : World), Below B W0 w → B ≤ w.heap.size → -10 ≤ m ∧ m ≤ 100000 →
    Calls Tryd.prog 77 #[.agg (tyCells t v), .int .i64 m] w fun e w' => e = .returned (.int .i64 (tpS t m)) ∧ Below w.heap.size w w'
set_option maxRecDepth 100000 in
set_option maxHeartbeats 1000000 in
theorem typeParts_at (B : Nat) (W0 : World) (t : TyT) (v : Value) (h : RdTy B W0 t v) : TpAt B W0 t v := by
  induction h with
  | mk k n es o cap f hc hm hn hs hr ih =>
    intro m w hb hB hmm
    have HS := Lib.hid hs
    have IH := Lib.hid ih
    have hS : tpS (.mk k n es) m = tpsS es 1 m := by conv => lhs; unfold tpS
    have HSS := Lib.hid hS
    have hcv : tyCells (.mk k n es) (.slice o es.length cap) = #[.int .i64 k, .string ⟨n.toArray⟩, .slice o es.length cap] := rfl
    rw [hcv]
    have HW := Lib.hid (fun W hb => three_below w W 53 (.int .i64 k) (.string ⟨n.toArray⟩) (.slice o es.length cap) hb)
    obtain ⟨wx, hwx⟩ : ∃ wx, wx = w.alloc (Obj.cells #[.int .i64 k, .string ⟨n.toArray⟩, .slice o es.length cap] 53) := ⟨_, rfl⟩
    rw [← hwx] at HW
    have hbx : Below w.heap.size w wx := by rw [hwx]; exact (Below.refl _ _).alloc (Nat.le_refl _) _
    have HWX := Lib.hid hwx
    clear hs ih hS hcv hwx
    go_enter Tryd.func77, Tryd.ntmps77
    go_wp2_with fail
    rw [← HWX.out]
    go_loopw [5, 6] (fun q i wr => ∃ (j : Nat) (p : Int), q = .int .i64 p ∧ i = .int .i64 j ∧ j ≤ es.length ∧ Hid (tpsS es 1 m = tpsS (es.drop j) p m) ∧ (1 ≤ p ∧ p ≤ max (m + 1) 1) ∧ Below wx.heap.size wx wr) (fun _ i _ => (es.length - intOf i).toNat)
    case atStart => exact ⟨0, 1, rfl, rfl, Nat.zero_le _, Lib.hid rfl, by omega, Below.refl _ _⟩
    case round =>
      obtain ⟨j, p, rfl, rfl, hj, HQ, hp, hbr⟩ := hrel
      obtain ⟨c0, c1, c2⟩ := HW.out wr hbr
      have hbw := hbx.trans (hbr.mono hbx.size)
      by_cases hl : j < es.length
      · by_cases hpm : p ≤ m
        · obtain ⟨g1, p1, rfl, hg1, hcl⟩ := HS.out (by intro e; rw [e] at hl; simp at hl)
          obtain ⟨q0, q1, q2⟩ := hcl j hl
          have hbW : Below B W0 wr := hb.trans (hbw.mono hB)
          have key : ∀ a : Nat, W0.cell? ⟨g1, a, none⟩ = wr.cell? ⟨g1, a, none⟩ := fun a => (hbW.cell (p := ⟨g1, a, none⟩) hg1).symm
          rw [key] at q0 q1 q2
          have hst := tpsS_step es j hl p m
          rw [if_pos hpm] at hst
          have hix := IH.out j hl (m - p) wr hbW (Nat.le_trans hB hbw.size) (by omega)
          have hle := tpS_le es[j] (m - p)
          rw [tyCells_eq] at hix
          generalize es[j] = x at *
          generalize f j = v1 at *
          have HST := Lib.hid hst
          have HIX := Lib.hid hix
          have hjc : j < cap := by omega
          have HN : Hid (tpsS es 1 m = tpsS (es.drop (j + 1)) (p + tpS x (m - p)) m) := by unfold Hid; rw [HQ.out, HST.out]
          generalize tpS x (m - p) = y at *
          clear hcl key hst hix HS IH hr HST
          go_wp2_with fail
          refine HIX.out.mono ?_
          rintro e w2 ⟨rfl, hb2⟩
          have hb3 := hbr.trans (hb2.mono hbr.size)
          go_wp2_with fail
          go_roundw
          case rel => exact ⟨j + 1, p + y, by first | rfl | go_num, by go_num, by omega, HN, by omega, hb3⟩
          case measure => simp [intOf]; omega
        · have HF : Hid (tpsS es 1 m = p) := by
            unfold Hid
            rw [HQ.out, tpsS_step es j hl, if_neg hpm]
          go_wp2_with fail
          go_ret
          exact ⟨by rw [HSS.out, HF.out]; rfl, hbw⟩
      · obtain rfl : j = es.length := by omega
        have HF : Hid (tpsS es 1 m = p) := by
          unfold Hid
          rw [HQ.out, List.drop_length]
          unfold tpsS
          rfl
        go_wp2_with fail
        go_ret
        exact ⟨by rw [HSS.out, HF.out]; rfl, hbw⟩
end Go.Proofs.YtaelanpmgckfkaaRRRRDoor
