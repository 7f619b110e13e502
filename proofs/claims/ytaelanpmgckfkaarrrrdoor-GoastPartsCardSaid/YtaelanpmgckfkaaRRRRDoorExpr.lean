/- The checker: expr, exprs; goast.Expr. -/
import Derived.Test.YtaelanpmgckfkaaRRRRDoorBare
namespace Go.Proofs.YtaelanpmgckfkaaRRRRDoor
open Go.RowKit Go.Av

theorem tyS_ok (idn : List UInt8 → Bool) : ∀ (t : TyT) (d p : Int), (tyS idn t d p).1 = true → p + 1 ≤ (tyS idn t d p).2 ∧ (tyS idn t d p).2 ≤ 60000
  | .mk k n es, d, p, h => by
    by_cases hk : partOk d p = false
    · exfalso
      unfold tyS at h
      rw [if_pos hk] at h
      cases h
    · have hp : p + 1 ≤ 60000 := by
        have h2 : partOk d p = true := by simpa using hk
        unfold partOk at h2
        rw [Bool.and_eq_true, decide_eq_true_iff, decide_eq_true_iff] at h2
        exact h2.1
      rw [tyS_go idn k n es d p hk] at h ⊢
      by_cases h1 : 1 ≤ k ∧ k ≤ 6
      · rw [if_pos h1]
        exact ⟨Int.le_refl _, hp⟩
      · rw [if_neg h1] at h ⊢
        by_cases h7 : k = 7
        · rw [if_pos h7]
          exact ⟨Int.le_refl _, hp⟩
        · rw [if_neg h7] at h ⊢
          match es with
          | [] => cases h
          | e :: f :: l => cases h
          | [e] =>
            by_cases h8 : k = 8 ∧ n = []
            · have he : tyRest idn k n d p [e] = tyS idn e (d + 1) (p + 1) := if_pos h8
              rw [he] at h ⊢
              have := tyS_ok idn e (d + 1) (p + 1) h
              omega
            · have he : tyRest idn k n d p [e] = (false, p + 1) := if_neg h8
              rw [he] at h
              cases h
theorem bareS_ok (x : ExT) (d p : Int) (hp : p ≤ 60000) (h : (bareS x d p).1 = true) : p ≤ (bareS x d p).2 ∧ (bareS x d p).2 ≤ 60000 := by
  have ht : (bareT x d p).1 = true := by
    unfold bareS at h
    simp only [Bool.and_eq_true] at h
    exact h.1.1.1.1
  show p ≤ (bareT x d p).2 ∧ (bareT x d p).2 ≤ 60000
  revert ht
  unfold bareT
  intro ht
  have hty := tyS_ok identS x.type (d + 1) p
  by_cases h8 : x.kind = 8
  · rw [if_pos h8] at ht ⊢
    by_cases hq : 2 ≤ x.type.kind ∧ x.type.kind ≤ 6
    · rw [if_pos hq] at ht ⊢
      have := hty ht
      omega
    · rw [if_neg hq] at ht
      cases ht
  · rw [if_neg h8] at ht ⊢
    by_cases h14 : x.kind = 14
    · rw [if_pos h14] at ht ⊢
      by_cases hq : x.type.kind = 7
      · rw [if_pos hq] at ht ⊢
        by_cases hr : (tyS identS x.type (d + 1) p).1 = true
        · rw [if_pos hr]
          have := hty hr
          simp only
          omega
        · rw [if_neg hr] at ht
          cases ht
      · rw [if_neg hq] at ht
        cases ht
    · rw [if_neg h14] at ht ⊢
      by_cases h15 : x.kind = 15
      · rw [if_pos h15] at ht ⊢
        by_cases hq : x.type.kind = 8
        · rw [if_pos hq] at ht ⊢
          have := hty ht
          omega
        · rw [if_neg hq] at ht
          cases ht
      · rw [if_neg h15]
        simp only
        omega

def mostS (k : Int) : Int := if k = 15 then 30000 else 40
mutual
def exS : ExT → Int → Int → Bool × Int
  | .mk k t i ty ns ks, d, p =>
    if partOk d p = false then (false, p + 1)
    else if mostS k < (ks.length : Int) ∨ manyS k = -2 ∨ (0 ≤ manyS k ∧ (ks.length : Int) ≠ manyS k) then (false, p + 1)
    else if (bareS (.mk k t i ty ns ks) d (p + 1)).1 = false then (false, (bareS (.mk k t i ty ns ks) d (p + 1)).2)
    else exsS ks (d + 1) (bareS (.mk k t i ty ns ks) d (p + 1)).2
def exsS : List ExT → Int → Int → Bool × Int
  | [], _, p => (true, p)
  | x :: l, d, p => if (exS x d p).1 = false then (false, (exS x d p).2) else exsS l d (exS x d p).2
end
mutual
theorem exS_ok : ∀ (x : ExT) (d p : Int), (exS x d p).1 = true → p + 1 ≤ (exS x d p).2 ∧ (exS x d p).2 ≤ 60000
  | .mk k t i ty ns ks, d, p, h => by
    unfold exS at h ⊢
    by_cases hk : partOk d p = false
    · rw [if_pos hk] at h; cases h
    · have hp : p + 1 ≤ 60000 := by
        have h2 : partOk d p = true := by simpa using hk
        unfold partOk at h2
        rw [Bool.and_eq_true, decide_eq_true_iff, decide_eq_true_iff] at h2
        exact h2.1
      rw [if_neg hk] at h ⊢
      by_cases h1 : mostS k < (ks.length : Int) ∨ manyS k = -2 ∨ (0 ≤ manyS k ∧ (ks.length : Int) ≠ manyS k)
      · rw [if_pos h1] at h; cases h
      · rw [if_neg h1] at h ⊢
        by_cases h2 : (bareS (.mk k t i ty ns ks) d (p + 1)).1 = false
        · rw [if_pos h2] at h; cases h
        · rw [if_neg h2] at h ⊢
          have hb := bareS_ok (.mk k t i ty ns ks) d (p + 1) hp (by simpa using h2)
          have := exsS_ok ks (d + 1) _ hb.2 h
          omega
theorem exsS_ok : ∀ (l : List ExT) (d p : Int), p ≤ 60000 → (exsS l d p).1 = true → p ≤ (exsS l d p).2 ∧ (exsS l d p).2 ≤ 60000
  | [], d, p, hp, _ => ⟨Int.le_refl _, hp⟩
  | x :: l, d, p, hp, h => by
    unfold exsS at h ⊢
    by_cases h1 : (exS x d p).1 = false
    · rw [if_pos h1] at h; cases h
    · rw [if_neg h1] at h ⊢
      have hx := exS_ok x d p (by simpa using h1)
      have := exsS_ok l d _ hx.2 h
      omega
end
theorem exsS_step (ks : List ExT) (j : Nat) (h : j < ks.length) (d p : Int) : exsS (ks.drop j) d p = if (exS ks[j] d p).1 = false then (false, (exS ks[j] d p).2) else exsS (ks.drop (j + 1)) d (exS ks[j] d p).2 := by
  rw [List.drop_eq_getElem_cons h]
  conv => lhs; unfold exsS

/-- The three slices of an expression are slices. -/
theorem RdEx.slices {B : Nat} {W : World} {x : ExT} {a b c : Value} (h : RdEx B W x a b c) : (∃ o n m, a = .slice o n m) ∧ (∃ o n m, b = .slice o n m) ∧ ∃ o m, c = .slice o x.kids.length m := by
  cases h with
  | mk k t i ty ns ks tv nv o cap f1 f2 f3 hc hm ht hi hty hns hs hr =>
    obtain ⟨o1, c1, h1, _⟩ := hty.slice
    obtain ⟨o2, c2, h2, _⟩ := hns
    exact ⟨⟨_, _, _, h1⟩, ⟨_, _, _, h2⟩, ⟨_, _, rfl⟩⟩
/-- What a call of expr does. -/
def ExprAt (B : Nat) (W0 : World) (x : ExT) (tv nv kv : Value) : Prop := ∀ (g : Nat) (d p : Int) (w : World), 2 ≤ B → B ≤ g → Below B W0 w → Tabs w → Cnt w g p → 0 ≤ p ∧ p ≤ 60000 → 0 ≤ d ∧ d ≤ 61 →
    Calls Tryd.prog 61 #[.pointer (some ⟨g, 0, none⟩), .agg (exCells x tv nv kv), .int .i64 d] w fun e w' => e = .returned (.bool (exS x d p).1) ∧ Chk g (exS x d p).2 w w'

set_option maxRecDepth 100000 in
set_option maxHeartbeats 1000000 in
theorem exprs_at (B : Nat) (W0 : World) (ks : List ExT) (o : Option Addr) (cap : Nat) (f1 f2 f3 : Nat → Value) (hc : ks.length ≤ cap) (hm : cap ≤ 9223372036854775807)
    (hs : ks ≠ [] → ∃ g off, o = some ⟨g, off, none⟩ ∧ g < B ∧ ∀ j (h : j < ks.length), W0.cell? ⟨g, off + j * 8, none⟩ = some (.int .i64 (ks[j]).kind) ∧ W0.cell? ⟨g, off + j * 8 + 1, none⟩ = some (.string ⟨(ks[j]).text.toArray⟩) ∧
        W0.cell? ⟨g, off + j * 8 + 2, none⟩ = some (.int .u64 (ks[j]).int) ∧ W0.cell? ⟨g, off + j * 8 + 3, none⟩ = some (.int .i64 (ks[j]).type.kind) ∧ W0.cell? ⟨g, off + j * 8 + 4, none⟩ = some (.string ⟨(ks[j]).type.name.toArray⟩) ∧
        W0.cell? ⟨g, off + j * 8 + 5, none⟩ = some (f1 j) ∧ W0.cell? ⟨g, off + j * 8 + 6, none⟩ = some (f2 j) ∧ W0.cell? ⟨g, off + j * 8 + 7, none⟩ = some (f3 j))
    (hr : ∀ j (h : j < ks.length), RdEx B W0 ks[j] (f1 j) (f2 j) (f3 j)) (ih : ∀ j (h : j < ks.length), ExprAt B W0 ks[j] (f1 j) (f2 j) (f3 j)) (g : Nat) (d p most : Int) (w : World) (hB2 : 2 ≤ B) (hBg : B ≤ g) (hb : Below B W0 w) (ht : Tabs w) (hct : Cnt w g p) (hp : 0 ≤ p ∧ p ≤ 60000) (hd : 0 ≤ d ∧ d ≤ 61) :
    Calls Tryd.prog 81 #[.pointer (some ⟨g, 0, none⟩), .slice o ks.length cap, .int .i64 d, .int .i64 most] w fun e w' => e = .returned (.bool ((exsS ks d p).1 && decide ((ks.length : Int) ≤ most))) ∧ Chk g (exsS ks d p).2 w w' := by
  have HS := Lib.hid hs
  have IH := Lib.hid ih
  have HT := Lib.hid ht
  have hlt := hct.lt
  clear hs ih ht
  go_enter Tryd.func81, Tryd.ntmps81
  go_wp2_with fail
  go_loopw [16] (fun i wr => ∃ (j : Nat) (q : Int), i = .int .i64 j ∧ j ≤ ks.length ∧ Hid (exsS ks d p = exsS (ks.drop j) d q) ∧ (0 ≤ q ∧ q ≤ 60000) ∧ Chk g q w wr) (fun i _ => (ks.length - intOf i).toNat)
  case atStart => exact ⟨0, p, rfl, Nat.zero_le _, Lib.hid rfl, hp, .ofBelow hct (Below.refl _ _)⟩
  case round =>
    obtain ⟨j, q, rfl, hj, HQ, hq, hk⟩ := hrel
    by_cases hl : j < ks.length
    · obtain ⟨g1, o1, rfl, hg1, hcl⟩ := HS.out (by intro e; rw [e] at hl; simp at hl)
      obtain ⟨q0, q1, q2, q3, q4, q5, q6, q7⟩ := hcl j hl
      have hbW : Below B W0 wr := hb.trans (hk.below hBg hlt)
      have key : ∀ a : Nat, W0.cell? ⟨g1, a, none⟩ = wr.cell? ⟨g1, a, none⟩ := fun a => (hbW.cell (p := ⟨g1, a, none⟩) hg1).symm
      rw [key] at q0 q1 q2 q3 q4 q5 q6 q7
      have hst := exsS_step ks j hl d q
      have HX := Lib.hid (IH.out j hl)
      obtain ⟨⟨oa, na, ma, hva⟩, ⟨ob, nb, mb, hvb⟩, ⟨oc, mc, hvc⟩⟩ := (hr j hl).slices
      have hok := exS_ok ks[j] d q
      generalize ks[j] = x at *
      generalize f1 j = v1 at *
      generalize f2 j = v2 at *
      generalize f3 j = v3 at *
      subst hva hvb hvc
      have HST := Lib.hid hst
      have HOK := Lib.hid hok
      have hjc : j < cap := by omega
      clear hcl key hst hok HS IH hr
      go_wp2_with fail
      simp only [ExprAt, exCells] at HX
      have hW2 : ∀ o : Obj, Chk g q w (wr.alloc o) := fun o => hk.thenBelow ((Below.refl _ _).alloc (Nat.le_refl _) o)
      have hbW2 : ∀ o : Obj, Below B W0 (wr.alloc o) := fun o => hbW.trans ((Below.refl B wr).alloc (by have := hk.cnt.lt; omega) o)
      cases hx : (exS x d q).1
      · have HF : Hid (exsS ks d p = (false, (exS x d q).2)) := by
          unfold Hid
          rw [HQ.out, HST.out, if_pos hx]
        have HX2 := Lib.hid (HX.out g d q)
        rw [hx] at HX2
        refine (HX2.out _ hB2 hBg (hbW2 _) (HT.out.kept ((hW2 _).below hBg hlt) hB2) (hW2 _).cnt hq hd).mono ?_
        rintro e w2 ⟨rfl, hk2⟩
        go_wp2_with fail
        go_ret
        exact ⟨by rw [HF.out]; rfl, by rw [HF.out]; exact (hW2 _).trans hk2⟩
      · have HF : Hid (exsS ks d p = exsS (ks.drop (j + 1)) d (exS x d q).2) := by
          unfold Hid
          rw [HQ.out, HST.out, if_neg (by rw [hx]; decide)]
        have hq2 := HOK.out hx
        have HX2 := Lib.hid (HX.out g d q)
        rw [hx] at HX2
        refine (HX2.out _ hB2 hBg (hbW2 _) (HT.out.kept ((hW2 _).below hBg hlt) hB2) (hW2 _).cnt hq hd).mono ?_
        rintro e w2 ⟨rfl, hk2⟩
        go_wp2_with fail
        go_roundw
        case rel => exact ⟨j + 1, _, by go_num, by omega, HF, by omega, (hW2 _).trans hk2⟩
        case measure => simp [intOf]; omega
    · obtain rfl : j = ks.length := by omega
      have hr : exsS ks d p = (true, q) := by rw [HQ.out, List.drop_length]; rfl
      have HR := Lib.hid hr
      clear hr
      go_wp2_with fail
      go_ret
      exact ⟨by rw [HR.out]; rfl, by rw [HR.out]; exact hk⟩
set_option maxRecDepth 100000 in
set_option maxHeartbeats 2000000 in
theorem expr_at (B : Nat) (W0 : World) (x : ExT) (tv nv kv : Value) (h : RdEx B W0 x tv nv kv) : ExprAt B W0 x tv nv kv := by
  induction h with
  | mk k t i ty ns ks tv nv o cap f1 f2 f3 hc hm htl hi hty hns hs hr ih =>
    intro g d p w hB2 hBg hb ht hct hp hd
    have hrd : RdEx B W0 (.mk k t i ty ns ks) tv nv (.slice o ks.length cap) := .mk k t i ty ns ks tv nv o cap f1 f2 f3 hc hm htl hi hty hns hs hr
    have HEX := Lib.hid (fun W dd pp hbW htW hcW hpp hdd => exprs_at B W0 ks o cap f1 f2 f3 hc hm hs hr ih g dd pp (mostS k) W hB2 hBg hbW htW hcW hpp hdd)
    have HBA := Lib.hid (fun W hbW htW hcW hpp hdd => bare_at B W0 (.mk k t i ty ns ks) tv nv (.slice o ks.length cap) hrd g d (p + 1) W hB2 hBg hbW htW hcW hpp hdd)
    have HM := Lib.hid (fun W => many_at k W)
    have HP := Lib.hid (fun W hct => part_at g d p W hct hp)
    have HE := Lib.hid (fun W key => eight_at w W 56 (.int .i64 k) (.string ⟨t.toArray⟩) (.int .u64 i) (.int .i64 ty.kind) (.string ⟨ty.name.toArray⟩) tv nv (.slice o ks.length cap) key)
    have hlt := hct.lt
    have HT := Lib.hid ht
    obtain ⟨⟨oa, na, ma, hva⟩, ⟨ob, nb, mb, hvb⟩, _⟩ := hrd.slices
    have hS : exS (.mk k t i ty ns ks) d p = (if partOk d p = false then (false, p + 1)
        else if mostS k < (ks.length : Int) ∨ manyS k = -2 ∨ (0 ≤ manyS k ∧ (ks.length : Int) ≠ manyS k) then (false, p + 1)
        else if (bareS (.mk k t i ty ns ks) d (p + 1)).1 = false then (false, (bareS (.mk k t i ty ns ks) d (p + 1)).2)
        else exsS ks (d + 1) (bareS (.mk k t i ty ns ks) d (p + 1)).2) := by
      conv => lhs; unfold exS
    have hcv : exCells (.mk k t i ty ns ks) tv nv (.slice o ks.length cap) = #[.int .i64 k, .string ⟨t.toArray⟩, .int .u64 i, .int .i64 ty.kind, .string ⟨ty.name.toArray⟩, tv, nv, .slice o ks.length cap] := rfl
    rw [hcv] at HBA ⊢
    subst hva hvb
    have HBO := Lib.hid (bareS_ok (.mk k t i ty ns ks) d (p + 1))
    generalize bareS (.mk k t i ty ns ks) d (p + 1) = br at *
    generalize exS (.mk k t i ty ns ks) d p = er at *
    have hx : mostS k = if k = 15 then 30000 else 40 := rfl
    have hn15 : k = 15 → manyS k = -1 := by intro e; rw [e]; rfl
    generalize manyS k = n at *
    clear hs hr ih hrd hns hty ht hcv
    have h15 : (k == 15) = true ∧ mostS k = 30000 ∨ (k == 15) = false ∧ mostS k = 40 := by
      by_cases e : k = 15
      · exact .inl ⟨beq_iff_eq.2 e, by rw [hx, if_pos e]⟩
      · exact .inr ⟨beq_eq_false_iff_ne.2 e, by rw [hx, if_neg e]⟩
    clear hx hn15
    cases hpk : partOk d p
    · rw [hpk, if_pos rfl] at hS
      rw [hpk] at HP
      subst hS
      rcases h15 with ⟨hA, hB⟩ | ⟨hA, hB⟩
      all_goals
        clear hB
        go_enter Tryd.func61, Tryd.ntmps61
        go_wp2_with fail
        refine (HM.out _).mono ?_
        rintro e w1 ⟨rfl, rfl⟩
        go_wp2_with fail
        refine (HP.out _ (hct.alloc _)).mono ?_
        rintro e w1 ⟨rfl, hk1⟩
        obtain ⟨m0, m1, m2, m3, m4, m5, m6, m7⟩ := HE.out w1 (key_chk w w1 _ hlt hk1)
        have hkb := Chk.afterBelow ((Below.refl _ _).alloc (Nat.le_refl _) _) hk1
        go_wp2_with fail
        go_ret
        exact ⟨rfl, hkb⟩
    · rw [hpk, if_neg (by decide)] at hS
      have hpd : p + 1 ≤ 60000 ∧ d ≤ 60 := by
        unfold partOk at hpk
        rw [Bool.and_eq_true, decide_eq_true_iff, decide_eq_true_iff] at hpk
        exact hpk
      rw [hpk] at HP
      by_cases h1 : mostS k < (ks.length : Int)
      · rw [if_pos (.inl h1)] at hS
        subst hS
        rcases h15 with ⟨hA, hB⟩ | ⟨hA, hB⟩
        all_goals
          rw [hB] at h1
          clear hB
          go_enter Tryd.func61, Tryd.ntmps61
          go_wp2_with fail
          refine (HM.out _).mono ?_
          rintro e w1 ⟨rfl, rfl⟩
          go_wp2_with fail
          refine (HP.out _ (hct.alloc _)).mono ?_
          rintro e w1 ⟨rfl, hk1⟩
          obtain ⟨m0, m1, m2, m3, m4, m5, m6, m7⟩ := HE.out w1 (key_chk w w1 _ hlt hk1)
          have hkb := Chk.afterBelow ((Below.refl _ _).alloc (Nat.le_refl _) _) hk1
          go_wp2_with fail
          go_ret
          exact ⟨rfl, hkb⟩
      · by_cases h2 : n = -2
        · rw [if_pos (.inr (.inl h2))] at hS
          subst hS
          subst h2
          rcases h15 with ⟨hA, hB⟩ | ⟨hA, hB⟩
          all_goals
            rw [hB] at h1
            clear hB
            go_enter Tryd.func61, Tryd.ntmps61
            go_wp2_with fail
            refine (HM.out _).mono ?_
            rintro e w1 ⟨rfl, rfl⟩
            go_wp2_with fail
            refine (HP.out _ (hct.alloc _)).mono ?_
            rintro e w1 ⟨rfl, hk1⟩
            obtain ⟨m0, m1, m2, m3, m4, m5, m6, m7⟩ := HE.out w1 (key_chk w w1 _ hlt hk1)
            have hkb := Chk.afterBelow ((Below.refl _ _).alloc (Nat.le_refl _) _) hk1
            go_wp2_with fail
            go_ret
            exact ⟨rfl, hkb⟩
        · have h2' : (n == -2) = false := beq_eq_false_iff_ne.2 h2
          by_cases h3 : 0 ≤ n ∧ (ks.length : Int) ≠ n
          · rw [if_pos (.inr (.inr h3))] at hS
            subst hS
            obtain ⟨h3a, h3b⟩ := h3
            have h3b' : ¬ (ks.length : Int) = n := h3b
            clear h2 h3b
            rcases h15 with ⟨hA, hB⟩ | ⟨hA, hB⟩
            all_goals
              rw [hB] at h1
              clear hB
              go_enter Tryd.func61, Tryd.ntmps61
              go_wp2_with fail
              refine (HM.out _).mono ?_
              rintro e w1 ⟨rfl, rfl⟩
              go_wp2_with fail
              refine (HP.out _ (hct.alloc _)).mono ?_
              rintro e w1 ⟨rfl, hk1⟩
              obtain ⟨m0, m1, m2, m3, m4, m5, m6, m7⟩ := HE.out w1 (key_chk w w1 _ hlt hk1)
              have hkb := Chk.afterBelow ((Below.refl _ _).alloc (Nat.le_refl _) _) hk1
              go_wp2_with fail
              go_ret
              exact ⟨rfl, hkb⟩
          · rw [if_neg (by rintro (h | h | h); exact h1 h; exact h2 h; exact h3 h)] at hS
            have h3' : ¬ 0 ≤ n ∨ (0 ≤ n ∧ n = (ks.length : Int)) := by
              by_cases h : 0 ≤ n
              · right
                refine ⟨h, ?_⟩
                by_cases h' : (ks.length : Int) = n
                · exact h'.symm
                · exact absurd ⟨h, h'⟩ h3
              · exact .inl h
            clear h2 h3
            obtain ⟨bb, bp⟩ := br
            simp only at hS
            cases bb
            · rw [if_pos rfl] at hS
              subst hS
              rcases h3' with h3' | ⟨h3a, rfl⟩
              all_goals
                rcases h15 with ⟨hA, hB⟩ | ⟨hA, hB⟩
                all_goals
                  rw [hB] at h1
                  clear hB
                  go_enter Tryd.func61, Tryd.ntmps61
                  go_wp2_with fail
                  refine (HM.out _).mono ?_
                  rintro e w1 ⟨rfl, rfl⟩
                  go_wp2_with fail
                  refine (HP.out _ (hct.alloc _)).mono ?_
                  rintro e w1 ⟨rfl, hk1⟩
                  obtain ⟨m0, m1, m2, m3, m4, m5, m6, m7⟩ := HE.out w1 (key_chk w w1 _ hlt hk1)
                  have hkb := Chk.afterBelow ((Below.refl _ _).alloc (Nat.le_refl _) _) hk1
                  have hbx : Below B W0 w1 := hb.trans (hkb.below hBg hlt)
                  have htx : Tabs w1 := HT.out.kept (hkb.below hBg hlt) hB2
                  have hlx : w.heap.size < w1.heap.size := by have := hk1.grown.size; rw [World.size_alloc] at this; omega
                  go_wp2_with fail
                  refine (HBA.out w1 hbx htx hkb.cnt (by omega) (by omega)).mono ?_
                  rintro e w2 ⟨rfl, hk2⟩
                  have hkc := hkb.trans hk2
                  go_wp2_with fail
                  go_ret
                  exact ⟨rfl, hkc⟩
            · rw [if_neg (by decide)] at hS
              have hbp : 0 ≤ bp ∧ bp ≤ 60000 := by have := HBO.out hpd.1 rfl; simp only at this; omega
              have hle : decide ((ks.length : Int) ≤ mostS k) = true := decide_eq_true (by omega)
              rw [hle] at HEX
              simp only [Bool.and_true] at HEX
              have HEY := Lib.hid (fun W => HEX.out W (d + 1) bp)
              have HSS := Lib.hid hS
              clear HEX hle hS
              rcases h3' with h3' | ⟨h3a, rfl⟩
              all_goals
                rcases h15 with ⟨hA, hB⟩ | ⟨hA, hB⟩
                all_goals
                  rw [hB] at h1 HEY
                  clear hB
                  go_enter Tryd.func61, Tryd.ntmps61
                  go_wp2_with fail
                  refine (HM.out _).mono ?_
                  rintro e w1 ⟨rfl, rfl⟩
                  go_wp2_with fail
                  refine (HP.out _ (hct.alloc _)).mono ?_
                  rintro e w1 ⟨rfl, hk1⟩
                  obtain ⟨m0, m1, m2, m3, m4, m5, m6, m7⟩ := HE.out w1 (key_chk w w1 _ hlt hk1)
                  have hkb := Chk.afterBelow ((Below.refl _ _).alloc (Nat.le_refl _) _) hk1
                  have hbx : Below B W0 w1 := hb.trans (hkb.below hBg hlt)
                  have htx : Tabs w1 := HT.out.kept (hkb.below hBg hlt) hB2
                  have hlx : w.heap.size < w1.heap.size := by have := hk1.grown.size; rw [World.size_alloc] at this; omega
                  go_wp2_with fail
                  refine (HBA.out w1 hbx htx hkb.cnt (by omega) (by omega)).mono ?_
                  rintro e w2 ⟨rfl, hk2⟩
                  have hkc := hkb.trans hk2
                  have n7 : w2.cell? ⟨w.heap.size, 7, none⟩ = some (.slice o ks.length cap) := (hk2.cell hlx (by omega)).trans m7
                  have hbx2 : Below B W0 w2 := hb.trans (hkc.below hBg hlt)
                  have htx2 : Tabs w2 := HT.out.kept (hkc.below hBg hlt) hB2
                  go_wp2_with fail
                  refine (HEY.out w2 hbx2 htx2 hkc.cnt hbp (by omega)).mono ?_
                  rintro e w3 ⟨rfl, hk3⟩
                  go_wp2_with fail
                  go_ret
                  exact ⟨by rw [HSS.out]; rfl, by rw [HSS.out]; exact hkc.trans hk3⟩
end Go.Proofs.YtaelanpmgckfkaaRRRRDoor
