/- The parts of names: none begins another; what Back tells of Name. -/
import Derived.Test.YtaelanpmgckfkaaRRRRDoorBack
namespace Go.Proofs.YtaelanpmgckfkaaRRRRDoor
open Go.RowKit Go.Av

theorem pre_iff (l p : List UInt8) : hasPre l p = true ↔ p <+: l := List.isPrefixOf_iff_prefix

theorem hexI_hexB : ∀ x : Nat, x < 16 → hexI (hexB x) = (x : Int) := by decide
theorem hexB_hexI' : ∀ n : Nat, n < 256 → 0 ≤ hexI (UInt8.ofNat n) → hexB (hexI (UInt8.ofNat n)).toNat = UInt8.ofNat n := by decide +kernel
theorem hexB_hexI (a : UInt8) (h : 0 ≤ hexI a) : hexB (hexI a).toNat = a := by
  have e : UInt8.ofNat a.toNat = a := by simp
  have := hexB_hexI' a.toNat a.toNat_lt
  rw [e] at this
  exact this h
theorem pre2 (l : List UInt8) (a b : UInt8) : hasPre l [a, b] = true ↔ ∃ r, l = a :: b :: r := by
  rw [pre_iff]
  constructor
  · rintro ⟨r, rfl⟩; exact ⟨r, rfl⟩
  · rintro ⟨r, rfl⟩; exact ⟨r, rfl⟩
theorem u8_of {c : UInt8} {n : Nat} (h : c.toNat = n) : c = UInt8.ofNat n := by rw [← h]; simp

/-- Whose part stands there, is told. -/
theorem one_of_pre (l : List UInt8) (c : UInt8) (h : nameB c <+: l) : oneR l = (c, (nameB c).length) := by
  obtain ⟨r, rfl⟩ := h
  by_cases hp : plainB c = true
  · have e : nameB c = [c] := by unfold nameB; rw [if_pos hp]
    rw [e]
    unfold oneR
    simp [hp]
  · by_cases h95 : c.toNat = 95
    · have e : nameB c = [95, 95] := by unfold nameB; rw [if_neg hp, if_pos h95]
      have hc := u8_of h95
      rw [e, hc]
      show oneR (95 :: 95 :: r) = _
      unfold oneR
      rw [if_neg (by simp; decide), if_pos ((pre2 _ _ _).2 ⟨r, rfl⟩)]
      rfl
    · by_cases h46 : c.toNat = 46
      · have e : nameB c = [95, 111] := by unfold nameB; rw [if_neg hp, if_neg h95, if_pos h46]
        have hc := u8_of h46
        rw [e, hc]
        show oneR (95 :: 111 :: r) = _
        unfold oneR
        rw [if_neg (by simp; decide), if_neg (by rw [pre2]; rintro ⟨q, hq⟩; simp at hq), if_pos ((pre2 _ _ _).2 ⟨r, rfl⟩)]
        rfl
      · have e : nameB c = [95, 120, hexB (c.toNat / 16), hexB (c.toNat % 16)] := by unfold nameB; rw [if_neg hp, if_neg h95, if_neg h46]
        have hlt := c.toNat_lt
        rw [e]
        show oneR (95 :: 120 :: hexB (c.toNat / 16) :: hexB (c.toNat % 16) :: r) = _
        unfold oneR
        rw [if_neg (by simp; decide), if_neg (by rw [pre2]; rintro ⟨q, hq⟩; simp at hq), if_neg (by rw [pre2]; rintro ⟨q, hq⟩; simp at hq)]
        rw [if_neg (by rw [(pre2 _ _ _).2 ⟨hexB (c.toNat / 16) :: hexB (c.toNat % 16) :: r, rfl⟩]; simp)]
        simp only [List.getD_cons_succ, List.getD_cons_zero]
        rw [hexI_hexB _ (by omega), hexI_hexB _ (by omega)]
        unfold oneX
        rw [if_neg (by omega)]
        have hn : (((c.toNat / 16 : Nat) : Int)).toNat * 16 + (((c.toNat % 16 : Nat) : Int)).toNat = c.toNat := by
          rw [Int.toNat_natCast, Int.toNat_natCast]
          omega
        rw [hn]
        have ec : UInt8.ofNat c.toNat = c := by simp
        rw [ec, if_neg (by rintro (x | x | x); (· exact hp x); (· exact h95 x); exact h46 x)]
        rfl
/-- Back of Name. -/
theorem nameB_ne (c : UInt8) : 1 ≤ (nameB c).length := by
  unfold nameB
  repeat' split
  all_goals simp
theorem backB_flat (l : List UInt8) : backB (l.flatMap nameB) = some l := by
  induction l with
  | nil => rfl
  | cons c r ih =>
    have hpos := nameB_ne c
    rw [List.flatMap_cons]
    have hone := one_of_pre (nameB c ++ r.flatMap nameB) c (List.prefix_append _ _)
    have hne : nameB c ++ r.flatMap nameB ≠ [] := by
      intro e
      have := congrArg List.length e
      simp only [List.length_append, List.length_nil] at this
      omega
    rw [backB_some _ hne (by rw [hone]; show (nameB c).length ≠ 0; omega), hone]
    simp only [List.drop_left, ih]
    rfl
theorem backR_nameL (l : List UInt8) : backR (nameL l) = (l, true) := by
  apply backR_ok
  have e1 : (78 :: l.flatMap nameB).drop 1 = l.flatMap nameB := rfl
  unfold nameL backL
  rw [if_neg (by rintro (h | h); (· cases h); exact h rfl), e1]
  exact backB_flat l
theorem nameL_inj {l m : List UInt8} (h : nameL l = nameL m) : l = m := by
  have := congrArg backR h
  rw [backR_nameL, backR_nameL] at this
  exact congrArg Prod.fst this
end Go.Proofs.YtaelanpmgckfkaaRRRRDoor
