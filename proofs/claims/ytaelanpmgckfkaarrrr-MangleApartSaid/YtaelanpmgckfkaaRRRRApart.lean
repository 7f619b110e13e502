/- The law MangleApart: the walk. -/
import Derived.Test.YtaelanpmgckfkaaRRRRName
namespace Go.Proofs.YtaelanpmgckfkaaRRRR
open Go.RowKit Go.Av

theorem below_next {w w1 w2 : World} (h : Below w.heap.size w w1) (h1 : Below w1.heap.size w1 w2) : Below w.heap.size w w2 := h.trans (h1.mono h.size)

theorem name_abc (w : World) : Calls Try.prog 7 #[.string ⟨#[97, 46, 98, 95, 99]⟩] w (Texts [78, 97, 95, 111, 98, 95, 95, 99] w) := by
  have h := mName ⟨#[97, 46, 98, 95, 99]⟩ w (by decide)
  rwa [show nameL (ByteArray.mk #[97, 46, 98, 95, 99]).data.toList = [78, 97, 95, 111, 98, 95, 95, 99] from by decide] at h
theorem name_dash (w : World) : Calls Try.prog 7 #[.string ⟨#[45]⟩] w (Texts [78, 95, 120, 50, 100] w) := by
  have h := mName ⟨#[45]⟩ w (by decide)
  rwa [show nameL (ByteArray.mk #[45]).data.toList = [78, 95, 120, 50, 100] from by decide] at h
theorem number_e7 (w : World) : Calls Try.prog 5 #[.string ⟨#[101]⟩, .int .i64 7] w (Texts [101, 55] w) := by
  have h := mNumber ⟨#[101]⟩ 7 w (by decide) (by decide)
  rwa [show (ByteArray.mk #[101]).data.toList ++ decI 7 = [101, 55] from by decide] at h
theorem pair_d1x20 (w : World) : Calls Try.prog 6 #[.string ⟨#[100]⟩, .int .i64 1, .string ⟨#[120]⟩, .int .i64 20] w (Texts [100, 49, 120, 50, 48] w) := by
  have h := mPair ⟨#[100]⟩ 1 ⟨#[120]⟩ 20 w (by decide) (by decide) (by decide) (by decide)
  rwa [show (ByteArray.mk #[100]).data.toList ++ decI 1 ++ (ByteArray.mk #[120]).data.toList ++ decI 20 = [100, 49, 120, 50, 48] from by decide] at h

set_option maxHeartbeats 400000 in
theorem works_true (w : World) : Calls Try.prog 4 #[] w fun e w' => e = .returned (.bool true) ∧ Below w.heap.size w w' := by
  go_enter Try.func4, Try.ntmps4
  go_wp2_with fail
  refine (name_abc _).mono ?_
  rintro e w1 ⟨rfl, hb1⟩
  go_wp2_with fail
  refine (number_e7 _).mono ?_
  rintro e w2 ⟨rfl, hb2⟩
  go_wp2_with fail
  refine (pair_d1x20 _).mono ?_
  rintro e w3 ⟨rfl, hb3⟩
  go_wp2_with fail
  refine (name_dash _).mono ?_
  rintro e w4 ⟨rfl, hb4⟩
  go_wp2_with fail
  go_ret
  exact ⟨rfl, below_next (below_next (below_next hb1 hb2) hb3) hb4⟩

theorem decI_inj {n m : Int} (hn : 0 ≤ n) (hm : 0 ≤ m) (hn' : n ≤ 9223372036854775807) (hm' : m ≤ 9223372036854775807) (h : decI n = decI m) : n = m := by
  unfold decI at h
  rw [if_neg (by omega), if_neg (by omega)] at h
  have := dec_inj (by omega) (by omega) h
  omega
theorem no_x (n : Int) : (120 : UInt8) ∉ decI n := by
  unfold decI
  split
  · simp
  · exact dec_no (by decide) _
theorem num_ne (f : List UInt8) {n m : Int} (hn : 0 ≤ n) (hm : 0 ≤ m) (hn' : n ≤ 9223372036854775807) (hm' : m ≤ 9223372036854775807) (h : n ≠ m) : (f ++ decI n == f ++ decI m) = false := by
  rw [beq_eq_false_iff_ne]
  intro e
  exact h (decI_inj hn hm hn' hm' (List.append_cancel_left e))
theorem pair_ne (f : List UInt8) {n m i k : Int} (hn : 0 ≤ n) (hm : 0 ≤ m) (hi : 0 ≤ i) (hk : 0 ≤ k) (hn' : n ≤ 9223372036854775807) (hm' : m ≤ 9223372036854775807) (hi' : i ≤ 9223372036854775807) (hk' : k ≤ 9223372036854775807) (h : n ≠ m ∨ i ≠ k) :
    (f ++ (decI n ++ 120 :: decI i) == f ++ (decI m ++ 120 :: decI k)) = false := by
  rw [beq_eq_false_iff_ne]
  intro e
  have := split_at (no_x n) (no_x m) (List.append_cancel_left e)
  rcases h with h | h
  · exact h (decI_inj hn hm hn' hm' this.1)
  · exact h (decI_inj hi hk hi' hk' this.2)
theorem pair_x (f : ByteArray) (n i : Int) (w : World) (hf : f.size ≤ 1000) (hn' : n ≤ 9223372036854775807) (hi' : i ≤ 9223372036854775807) :
    Calls Try.prog 6 #[.string f, .int .i64 n, .string ⟨#[120]⟩, .int .i64 i] w (Texts (f.data.toList ++ (decI n ++ 120 :: decI i)) w) := by
  have h := mPair f n ⟨#[120]⟩ i w hn' hi' (by omega) (by decide)
  rwa [show f.data.toList ++ decI n ++ (ByteArray.mk #[120]).data.toList ++ decI i = f.data.toList ++ (decI n ++ 120 :: decI i) from by simp] at h

set_option maxHeartbeats 400000 in
theorem apart_walk (f : ByteArray) (n m i k : Int) (w : World) (hn' : n ≤ 9223372036854775807) (hm' : m ≤ 9223372036854775807) (hi' : i ≤ 9223372036854775807) (hk' : k ≤ 9223372036854775807) :
    Calls Try.prog 3 #[.string f, .int .i64 n, .int .i64 m, .int .i64 i, .int .i64 k] w fun e w' => e = .returned (.bool true) ∧ Below w.heap.size w w' := by
  by_cases hd : (f.size ≤ 1000) ∧ 0 ≤ n ∧ 0 ≤ m ∧ 0 ≤ i ∧ 0 ≤ k
  · obtain ⟨hf, hn, hm, hi, hk⟩ := hd
    have hf2 : (f.size : Int) ≤ 1000 := by omega
    by_cases e1 : n = m <;> by_cases e2 : i = k
    all_goals
      first
        | (subst e1; subst e2)
        | (subst e1
           have E1 : (i == k) = false := by simpa using e2
           have E2 := pair_ne f.data.toList hn hn hi hk hn' hn' hi' hk' (Or.inr e2))
        | (subst e2
           have E1 : (n == m) = false := by simpa using e1
           have E2 := pair_ne f.data.toList hn hm hi hi hn' hm' hi' hi' (Or.inl e1)
           have E3 := num_ne f.data.toList hn hm hn' hm' e1)
        | (have E1 : (n == m) = false := by simpa using e1
           have E2 := pair_ne f.data.toList hn hm hi hk hn' hm' hi' hk' (Or.inl e1)
           have E3 := num_ne f.data.toList hn hm hn' hm' e1)
      go_enter Try.func3, Try.ntmps3
      go_wp2_with fail
      refine (works_true _).mono ?_
      rintro e w1 ⟨rfl, hb1⟩
      go_wp2_with fail
      refine (mNumber f n _ hn' (by omega)).mono ?_
      rintro e w2 ⟨rfl, hb2⟩
      go_wp2_with fail
      refine (mNumber f _ _ (by assumption) (by omega)).mono ?_
      rintro e w3 ⟨rfl, hb3⟩
      go_wp2_with fail
      refine (pair_x f _ _ _ hf (by assumption) (by assumption)).mono ?_
      rintro e w4 ⟨rfl, hb4⟩
      go_wp2_with fail
      refine (pair_x f _ _ _ hf (by assumption) (by assumption)).mono ?_
      rintro e w5 ⟨rfl, hb5⟩
      go_wp2_with fail
      go_ret
      exact ⟨rfl, below_next (below_next (below_next (below_next hb1 hb2) hb3) hb4) hb5⟩
  · have hd' : 1000 < (f.size : Int) ∨ n < 0 ∨ m < 0 ∨ i < 0 ∨ k < 0 := by omega
    clear hd
    go_enter Try.func3, Try.ntmps3
    go_wp2_with fail
    refine (works_true _).mono ?_
    rintro e w1 ⟨rfl, hb1⟩
    by_cases c1 : 1000 < (f.size : Int)
    · go_wp2_with fail
      go_ret
      exact ⟨rfl, hb1⟩
    · by_cases c2 : n < 0
      · go_wp2_with fail
        go_ret
        exact ⟨rfl, hb1⟩
      · by_cases c3 : m < 0
        · go_wp2_with fail
          go_ret
          exact ⟨rfl, hb1⟩
        · by_cases c4 : i < 0
          · go_wp2_with fail
            go_ret
            exact ⟨rfl, hb1⟩
          · have c5 : k < 0 := by omega
            go_wp2_with fail
            go_ret
            exact ⟨rfl, hb1⟩
end Go.Proofs.YtaelanpmgckfkaaRRRR
