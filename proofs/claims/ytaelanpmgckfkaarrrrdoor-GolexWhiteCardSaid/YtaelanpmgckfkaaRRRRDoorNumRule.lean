/- The number rule, plain: when digits are a number of 64 bits, told by their length and text. -/
import Derived.Test.YtaelanpmgckfkaaRRRRDoorAll
namespace Go.Proofs.YtaelanpmgckfkaaRRRRDoor
open Go.RowKit Go.Av

theorem valD_acc (l : List UInt8) : ∀ n : Nat, l.foldl (fun n c => n * 10 + (c.toNat - 48)) n = n * 10 ^ l.length + valD l := by
  induction l with
  | nil => intro n; simp [valD]
  | cons c l ih =>
    intro n
    unfold valD
    rw [List.foldl_cons, List.foldl_cons, ih, ih, List.length_cons, Nat.pow_succ, Nat.add_mul, Nat.add_mul, Nat.mul_assoc, Nat.mul_comm 10]
    omega
theorem valD_cons (c : UInt8) (l : List UInt8) : valD (c :: l) = (c.toNat - 48) * 10 ^ l.length + valD l := by
  conv => lhs; unfold valD
  rw [List.foldl_cons, valD_acc]
  simp
theorem valD_lt : ∀ l : List UInt8, (∀ c ∈ l, digitB c = true) → valD l < 10 ^ l.length
  | [], _ => by simp [valD]
  | c :: l, h => by
    have ih := valD_lt l (fun d hd => h d (List.mem_cons_of_mem _ hd))
    have hc := of_decide_eq_true (h c (List.mem_cons_self ..))
    rw [valD_cons, List.length_cons, Nat.pow_succ]
    have : (c.toNat - 48) * 10 ^ l.length ≤ 9 * 10 ^ l.length := Nat.mul_le_mul_right _ (by omega)
    omega
theorem less_val : ∀ x y : List UInt8, x.length = y.length → (∀ c ∈ x, digitB c = true) → (∀ c ∈ y, digitB c = true) → (Op.bytesLess x y = true ↔ valD x < valD y)
  | [], [], _, _, _ => by simp [Op.bytesLess]
  | [], _ :: _, h, _, _ => by simp at h
  | _ :: _, [], h, _, _ => by simp at h
  | a :: x, b :: y, h, hx, hy => by
    have hl : x.length = y.length := by simpa using h
    have hx' : ∀ c ∈ x, digitB c = true := fun d hd => hx d (List.mem_cons_of_mem _ hd)
    have hy' : ∀ c ∈ y, digitB c = true := fun d hd => hy d (List.mem_cons_of_mem _ hd)
    have ih := less_val x y hl hx' hy'
    have ha := of_decide_eq_true (hx a (List.mem_cons_self ..))
    have hb := of_decide_eq_true (hy b (List.mem_cons_self ..))
    have h1 := valD_lt x hx'
    have h2 := valD_lt y hy'
    rw [valD_cons, valD_cons, hl]
    rw [hl] at h1
    generalize 10 ^ y.length = P at *
    simp only [Op.bytesLess, Bool.or_eq_true, Bool.and_eq_true, decide_eq_true_eq, beq_iff_eq, UInt8.lt_iff_toNat_lt]
    obtain ⟨p, hp⟩ : ∃ p, a.toNat = 48 + p := ⟨a.toNat - 48, by omega⟩
    obtain ⟨q, hq⟩ : ∃ q, b.toNat = 48 + q := ⟨b.toNat - 48, by omega⟩
    have hab : a = b ↔ p = q := by
      constructor
      · rintro rfl; omega
      · intro e; exact UInt8.toNat.inj (by omega)
    rw [hab, hp, hq, ih, Nat.add_sub_cancel_left, Nat.add_sub_cancel_left]
    have key : ∀ u v : Nat, u < v → u * P + P ≤ v * P := fun u v h => by
      have := Nat.mul_le_mul_right P (show u + 1 ≤ v from h)
      rw [Nat.add_mul] at this
      omega
    rcases Nat.lt_trichotomy p q with h | h | h
    · have := key p q h
      constructor
      · intro _; omega
      · intro _; left; omega
    · subst h
      constructor
      · rintro (h | ⟨_, h⟩)
        · omega
        · omega
      · intro h
        right
        exact ⟨rfl, by omega⟩
    · have := key q p h
      constructor
      · rintro (h' | ⟨h', _⟩) <;> omega
      · intro _; omega
theorem same_val : ∀ x y : List UInt8, x.length = y.length → (∀ c ∈ x, digitB c = true) → (∀ c ∈ y, digitB c = true) → valD x = valD y → x = y
  | [], [], _, _, _, _ => rfl
  | [], _ :: _, h, _, _, _ => by simp at h
  | _ :: _, [], h, _, _, _ => by simp at h
  | a :: x, b :: y, h, hx, hy, hv => by
    have hl : x.length = y.length := by simpa using h
    have hx' : ∀ c ∈ x, digitB c = true := fun d hd => hx d (List.mem_cons_of_mem _ hd)
    have hy' : ∀ c ∈ y, digitB c = true := fun d hd => hy d (List.mem_cons_of_mem _ hd)
    have ha := of_decide_eq_true (hx a (List.mem_cons_self ..))
    have hb := of_decide_eq_true (hy b (List.mem_cons_self ..))
    have h1 := valD_lt x hx'
    have h2 := valD_lt y hy'
    have ih := same_val x y hl hx' hy'
    rw [valD_cons, valD_cons, hl] at hv
    rw [hl] at h1
    generalize 10 ^ y.length = P at *
    obtain ⟨p, hp⟩ : ∃ p, a.toNat = 48 + p := ⟨a.toNat - 48, by omega⟩
    obtain ⟨q, hq⟩ : ∃ q, b.toNat = 48 + q := ⟨b.toNat - 48, by omega⟩
    rw [hp, hq, Nat.add_sub_cancel_left, Nat.add_sub_cancel_left] at hv
    have key : ∀ u v : Nat, u < v → u * P + P ≤ v * P := fun u v h => by
      have := Nat.mul_le_mul_right P (show u + 1 ≤ v from h)
      rw [Nat.add_mul] at this
      omega
    rcases Nat.lt_trichotomy p q with h | h | h
    · have := key p q h; omega
    · subst h
      rw [show a = b from UInt8.toNat.inj (by omega), ih (by omega)]
    · have := key q p h; omega

/-- The text of the greatest number of 64 bits. -/
def maxS : List UInt8 := [49, 56, 52, 52, 54, 55, 52, 52, 48, 55, 51, 55, 48, 57, 53, 53, 49, 54, 49, 53]
theorem maxS_val : valD maxS = maxU := by decide
theorem maxS_dig : ∀ c ∈ maxS, digitB c = true := by decide
def overS (ds : List UInt8) : Bool := !(Op.bytesLess ds maxS || ds == maxS)
theorem overS_val (ds : List UInt8) (hl : ds.length = 20) (hd : ∀ c ∈ ds, digitB c = true) : overS ds = !decide (valD ds ≤ maxU) := by
  unfold overS
  congr 1
  rw [Bool.eq_iff_iff, Bool.or_eq_true, beq_iff_eq, decide_eq_true_iff, less_val ds maxS hl hd maxS_dig, maxS_val]
  constructor
  · rintro (h | rfl)
    · omega
    · rw [maxS_val]; omega
  · intro h
    rcases Nat.lt_or_ge (valD ds) maxU with h' | h'
    · exact .inl h'
    · exact .inr (same_val ds maxS hl hd maxS_dig (by rw [maxS_val]; omega))

theorem digits_at (bs : List UInt8) (k : Nat) (hk : k ≤ bs.length) :
    (digitsAt bs k).length = runAt digitB bs k - k ∧ (∀ j : Nat, j < runAt digitB bs k - k → ∃ a, (digitsAt bs k)[j]? = some a ∧ digitB a = true ∧ bs[k + j]? = some a) ∧ (∀ c ∈ digitsAt bs k, digitB c = true) := by
  have hre := runAt_le digitB bs k hk
  have hpre := List.takeWhile_prefix digitB (l := bs.drop k)
  have hlen : ((bs.drop k).takeWhile digitB).length = runAt digitB bs k - k := by unfold runAt; omega
  have heq : digitsAt bs k = (bs.drop k).takeWhile digitB := by
    unfold digitsAt
    rw [← hlen]
    exact (List.prefix_iff_eq_take.1 hpre).symm
  have hall := List.all_eq_true.1 (List.all_takeWhile (p := digitB) (l := bs.drop k))
  refine ⟨by rw [heq, hlen], ?_, by rw [heq]; exact hall⟩
  intro j hj
  have hkj : k + j < bs.length := by omega
  have hget : bs[k + j]? = some bs[k + j] := List.getElem?_eq_getElem hkj
  have hel : (digitsAt bs k)[j]? = some bs[k + j] := by
    unfold digitsAt
    rw [List.getElem?_take, if_pos hj, List.getElem?_drop, hget]
  exact ⟨bs[k + j], hel, hall _ (by rw [← heq]; exact List.mem_of_getElem? hel), hget⟩

theorem runAt_not (p : UInt8 → Bool) (bs : List UInt8) (k : Nat) (h : runAt p bs k < bs.length) : p (bs.getD (runAt p bs k) 0) = false := by
  cases hp : p (bs.getD (runAt p bs k) 0)
  · rfl
  · exfalso
    have hget : bs[runAt p bs k]? = some (bs.getD (runAt p bs k) 0) := by rw [List.getD_eq_getElem?_getD, List.getElem?_eq_getElem h]; rfl
    have hd := drop_cons_of hget
    have hs : bs.drop k = (bs.drop k).takeWhile p ++ (bs.drop k).dropWhile p := (List.takeWhile_append_dropWhile).symm
    have h2 : bs.drop (runAt p bs k) = (bs.drop k).dropWhile p := by
      have : bs.drop (runAt p bs k) = (bs.drop k).drop ((bs.drop k).takeWhile p).length := by unfold runAt; rw [List.drop_drop]
      rw [this]
      conv => lhs; rw [hs]
      rw [List.drop_left' (by conv => rhs; rw [← hs])]
    rw [hd] at h2
    have := List.head?_dropWhile_not p (bs.drop k)
    rw [← h2] at this
    rw [List.getD_eq_getElem?_getD] at hp
    simp [hp] at this

/-- The rule as the document has it. -/
theorem number_rule (bs : List UInt8) (k : Nat) (hk : k < bs.length) (h0 : digitB (bs.getD k 0) = true) :
    numberOk bs k = !((decide (runAt digitB bs k < bs.length) && letterB (bs.getD (runAt digitB bs k) 0)) || (decide (bs.getD k 0 = 48) && decide (k + 1 < runAt digitB bs k)) || decide (20 < runAt digitB bs k - k) ||
      (decide (runAt digitB bs k - k = 20) && overS (digitsAt bs k))) := by
  obtain ⟨hl, hat, hall⟩ := digits_at bs k (by omega)
  have hgt := runAt_gt digitB bs k hk h0
  unfold numberOk
  cases hA : (decide (runAt digitB bs k < bs.length) && letterB (bs.getD (runAt digitB bs k) 0))
  · by_cases hB : bs.getD k 0 = 48 ∧ k + 1 < runAt digitB bs k
    · rw [decide_eq_true hB.1, decide_eq_true hB.2]
      simp
    · have hB1 : (decide (k + 1 < runAt digitB bs k) && decide (bs.getD k 0 = 48)) = false := by
        rw [Bool.and_eq_false_iff, decide_eq_false_iff_not, decide_eq_false_iff_not]
        by_cases h : k + 1 < runAt digitB bs k
        · exact .inr fun h' => hB ⟨h', h⟩
        · exact .inl h
      rw [hB1, Bool.and_comm (decide (bs.getD k 0 = 48)), hB1]
      have hmx : maxU < 10 ^ 20 := by decide
      have hmn : 10 ^ 19 < maxU := by decide
      have hv := valD_lt _ hall
      rw [hl] at hv
      rcases Nat.lt_trichotomy (runAt digitB bs k - k) 20 with h | h | h
      · have h1 : valD (digitsAt bs k) ≤ maxU := by
          have : 10 ^ (runAt digitB bs k - k) ≤ 10 ^ 19 := Nat.pow_le_pow_right (by omega) (by omega)
          omega
        rw [decide_eq_true h1, decide_eq_false (show ¬ 20 < runAt digitB bs k - k by omega), decide_eq_false (show ¬ runAt digitB bs k - k = 20 by omega)]
        rfl
      · rw [decide_eq_false (show ¬ 20 < runAt digitB bs k - k by omega), decide_eq_true h, overS_val _ (by omega) hall]
        simp
      · have h1 : ¬ valD (digitsAt bs k) ≤ maxU := by
          have hget : bs[k]? = some (bs.getD k 0) := by rw [List.getD_eq_getElem?_getD, List.getElem?_eq_getElem hk]; rfl
          obtain ⟨a, ha, had, hba⟩ := hat 0 (by omega)
          have ha2 : a = bs.getD k 0 := by
            rw [Nat.add_zero, hget] at hba
            exact (Option.some.inj hba).symm
          have hn48 : ¬ a = 48 := fun h' => hB ⟨by rw [← ha2]; exact h', by omega⟩
          obtain ⟨r, hr⟩ : ∃ r, digitsAt bs k = a :: r := by
            cases hds : digitsAt bs k with
            | nil => rw [hds] at ha; cases ha
            | cons x r =>
              rw [hds] at ha
              obtain rfl : x = a := by simpa using ha
              exact ⟨r, rfl⟩
          have hrl : r.length + 1 = runAt digitB bs k - k := by rw [← hl, hr]; rfl
          have hb := of_decide_eq_true had
          have h48 : ¬ a.toNat = 48 := fun h' => hn48 (UInt8.toNat.inj h')
          rw [hr, valD_cons]
          have h2 : 10 ^ 20 ≤ 10 ^ r.length := Nat.pow_le_pow_right (by omega) (by omega)
          have h3 : 1 * 10 ^ r.length ≤ (a.toNat - 48) * 10 ^ r.length := Nat.mul_le_mul_right _ (by omega)
          omega
        rw [decide_eq_false h1, decide_eq_true h]
        simp
  · simp
theorem number_le (bs : List UInt8) (k : Nat) (h : numberOk bs k = true) : valD (digitsAt bs k) ≤ maxU := by
  unfold numberOk at h
  rw [Bool.and_eq_true, Bool.and_eq_true, decide_eq_true_iff] at h
  exact h.1.1
end Go.Proofs.YtaelanpmgckfkaaRRRRDoor
