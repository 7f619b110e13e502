/- The decimal digits of a number, in plain Lean: unlike numbers have unlike digits, and no digit is a letter. -/
namespace Go.Av

/-- The digits of u, the last one first; at most f. -/
def decRev : Nat → Nat → List UInt8
  | 0, _ => []
  | f + 1, u => if u ≤ 9 then [UInt8.ofNat (48 + u)] else UInt8.ofNat (48 + u % 10) :: decRev f (u / 10)
/-- The digits of u (of at most 20). -/
def dec (u : Nat) : List UInt8 := (decRev 20 u).reverse
/-- What digits, the last one first, are worth. -/
def worth : List UInt8 → Nat
  | [] => 0
  | c :: r => (c.toNat - 48) + 10 * worth r

theorem digit_toNat {d : Nat} (h : d < 10) : (UInt8.ofNat (48 + d)).toNat = 48 + d := by
  simp; omega

theorem worth_decRev : ∀ (f u : Nat), u < 10 ^ f → worth (decRev f u) = u
  | 0, u, h => by simp at h; simp [decRev, worth, h]
  | f + 1, u, h => by
    unfold decRev
    split
    · rw [worth, worth, digit_toNat (by omega)]; omega
    · rw [worth, digit_toNat (by omega), worth_decRev f (u / 10) (by rw [Nat.pow_succ] at h; omega)]
      omega

theorem decRev_digit : ∀ (f u : Nat), ∀ c ∈ decRev f u, 48 ≤ c.toNat ∧ c.toNat ≤ 57
  | 0, u => by simp [decRev]
  | f + 1, u => by
    intro c hc
    unfold decRev at hc
    split at hc
    · simp only [List.mem_singleton] at hc
      rw [hc, digit_toNat (by omega)]; omega
    · simp only [List.mem_cons] at hc
      rcases hc with rfl | hc
      · rw [digit_toNat (by omega)]; omega
      · exact decRev_digit f _ c hc

theorem decRev_length : ∀ (f u : Nat), (decRev f u).length ≤ f
  | 0, u => by simp [decRev]
  | f + 1, u => by
    unfold decRev
    split
    · simp
    · have := decRev_length f (u / 10)
      simp; omega

theorem dec_inj {u v : Nat} (hu : u < 10 ^ 20) (hv : v < 10 ^ 20) (h : dec u = dec v) : u = v := by
  have := List.reverse_inj.1 h
  rw [← worth_decRev 20 u hu, this, worth_decRev 20 v hv]

theorem dec_digit (u : Nat) : ∀ c ∈ dec u, 48 ≤ c.toNat ∧ c.toNat ≤ 57 := by
  intro c hc
  exact decRev_digit 20 u c (List.mem_reverse.1 hc)
theorem dec_length (u : Nat) : (dec u).length ≤ 20 := by
  unfold dec
  rw [List.length_reverse]
  exact decRev_length 20 u

/-- A step of the loop that puts digits. -/
theorem decRev_step (f u : Nat) (h : 9 < u) : decRev (f + 1) u = UInt8.ofNat (48 + u % 10) :: decRev f (u / 10) := by
  rw [decRev, if_neg (by omega)]
theorem decRev_last (f u : Nat) (h : u ≤ 9) : decRev (f + 1) u = [UInt8.ofNat (48 + u)] := by
  rw [decRev, if_pos h]

/-- Two texts with a sign between that stands in neither's first part. -/
theorem split_at {a b c d : List UInt8} {x : UInt8} (ha : x ∉ a) (hc : x ∉ c) (h : a ++ x :: b = c ++ x :: d) : a = c ∧ b = d := by
  induction a generalizing c with
  | nil =>
    cases c with
    | nil => simpa using h
    | cons y c => simp at h hc; exact absurd h.1 hc.1
  | cons y a ih =>
    cases c with
    | nil => simp at h ha; exact absurd h.1.symm ha.1
    | cons z c =>
      simp at h ha hc
      obtain ⟨h1, h2⟩ := ih ha.2 hc.2 h.2
      exact ⟨by rw [h.1, h1], h2⟩

theorem dec_no {x : UInt8} (hx : 57 < x.toNat) (u : Nat) : x ∉ dec u := by
  intro h
  have := dec_digit u x h
  omega

end Go.Av
