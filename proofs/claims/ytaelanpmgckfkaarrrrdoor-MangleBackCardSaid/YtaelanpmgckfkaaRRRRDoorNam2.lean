/- The last dot, spaces and last parts. -/
import Derived.Test.YtaelanpmgckfkaaRRRRDoorNam
import Derived.Lib.IndexBytes
namespace Go.Proofs.YtaelanpmgckfkaaRRRRDoor
open Go.RowKit Go.Av

theorem str_getD (s : ByteArray) (k : Nat) (h : k < s.size) : s.data.toList.getD k 0 = s[k] := by
  rw [List.getD_eq_getElem?_getD, str_at s k h]
  rfl
theorem len_size (s : ByteArray) : s.data.toList.length = s.size := by simp

set_option maxRecDepth 100000 in
set_option maxHeartbeats 400000 in
theorem lastIdx0 (s : ByteArray) (w : World) (hs : s.size ≤ 9223372036854775807) : Calls Tryd.prog 73 #[.string s, .int .u8 46] w fun e w' => e = .returned (.int .i64 (lastDot s.data.toList)) ∧ w = w' := by
  have h0 : Hid (lastDot s.data.toList = lastTo s.data.toList s.size) := by
    unfold Hid lastDot
    rw [len_size]
  go_enter Tryd.func73, Tryd.ntmps73
  go_wp2_with fail
  go_loop [5] (fun i => ∃ k : Nat, i = .int .i64 ((k : Int) - 1) ∧ k ≤ s.size ∧ Hid (lastDot s.data.toList = lastTo s.data.toList k)) (fun i => (intOf i + 1).toNat)
  case atStart => exact ⟨s.size, rfl, by omega, h0⟩
  case round =>
    obtain ⟨k, rfl, hk, HR⟩ := hrel
    clear h0
    rcases k with _ | k
    · have e1 : ((0 : Nat) : Int) - 1 = -1 := by omega
      rw [e1]
      have HE : Hid (lastDot s.data.toList = -1) := HR
      clear HR
      go_wp2_with fail
      go_ret
      exact ⟨by rw [HE.out]; first | done | rfl, rfl⟩
    · have e1 : ((k + 1 : Nat) : Int) - 1 = k := by omega
      rw [e1]
      have hlt : k < s.size := by omega
      have hg := str_getD s k hlt
      by_cases hd : s[k].toNat = 46
      · have HE : Hid (lastDot s.data.toList = k) := by
          unfold Hid
          rw [HR.out, lastTo_hit _ _ (by rw [hg]; exact hd)]
        have e : ((s[k].toNat : Int) == 46) = true := beq_iff_eq.2 (by omega)
        clear HR hg hd
        go_wp2_with fail
        go_ret
        exact ⟨by rw [HE.out]; first | done | rfl, rfl⟩
      · have HE : Hid (lastDot s.data.toList = lastTo s.data.toList k) := by
          unfold Hid
          rw [HR.out, lastTo_miss _ _ (by rw [hg]; exact hd)]
        have e : ((s[k].toNat : Int) == 46) = false := beq_eq_false_iff_ne.2 (by omega)
        clear HR hg hd
        go_wp2_with fail
        go_round
        case rel => exact ⟨k, by go_num, by omega, HE⟩
        case measure => simp [intOf]

set_option maxRecDepth 100000 in
set_option maxHeartbeats 400000 in
theorem lastIdx (s : ByteArray) (w : World) (hs : s.size ≤ 9223372036854775807) : Calls Tryd.prog 57 #[.string s, .int .u8 46] w fun e w' => e = .returned (.int .i64 (lastDot s.data.toList)) ∧ w = w' := by
  go_enter Tryd.func57, Tryd.ntmps57
  go_wp2_with fail
  refine (lastIdx0 s _ hs).mono ?_
  rintro e w1 ⟨rfl, rfl⟩
  go_wp2_with fail
  go_ret
  exact ⟨rfl, rfl⟩

set_option maxRecDepth 100000 in
set_option maxHeartbeats 400000 in
theorem rDot (s : ByteArray) (w : World) (hs : s.size ≤ 9223372036854775807) : Calls Tryd.prog 56 #[.string s] w fun e w' => e = .returned (.int .i64 (lastDot s.data.toList)) ∧ w = w' := by
  have h0 : Hid (lastDot s.data.toList = lastTo s.data.toList s.size) := by
    unfold Hid lastDot
    rw [len_size]
  go_enter Tryd.func56, Tryd.ntmps56
  go_wp2_with fail
  go_loop [3, 4] (fun a i => ∃ k : Nat, i = .int .i64 k ∧ k ≤ s.size ∧ Hid (a = .int .i64 (lastTo s.data.toList k))) (fun _ i => (s.size - intOf i).toNat)
  case atStart => exact ⟨0, rfl, by omega, Lib.hid rfl⟩
  case round =>
    obtain ⟨k, rfl, hk, HR⟩ := hrel
    by_cases hlt : k < s.size
    · have hg := str_getD s k hlt
      by_cases hd : s[k].toNat = 46
      · have HE := lastTo_hit s.data.toList k (by rw [hg]; exact hd)
        have HE := Lib.hid HE
        have e : ((s[k].toNat : Int) == 46) = true := beq_iff_eq.2 (by omega)
        clear hg hd
        go_wp2_with fail
        exact ⟨⟨k + 1, by go_num, by omega, by unfold Hid; rw [HE.out]⟩, by simp [intOf]; omega⟩
      · have HE := lastTo_miss s.data.toList k (by rw [hg]; exact hd)
        have HE := Lib.hid HE
        have e : ((s[k].toNat : Int) == 46) = false := beq_eq_false_iff_ne.2 (by omega)
        clear hg hd
        go_wp2_with fail
        exact ⟨⟨k + 1, by go_num, by omega, by unfold Hid; rw [HE.out]; exact HR.out⟩, by simp [intOf]; omega⟩
    · obtain rfl : k = s.size := by omega
      have HE : Hid (lastDot s.data.toList = lastTo s.data.toList s.size) := h0
      have HR' := HR.out
      rw [← HE.out] at HR'
      subst HR'
      clear HR h0 HE
      go_wp2_with fail
      go_ret
      exact ⟨rfl, rfl⟩

theorem noDot_space (l : List UInt8) (h : lastDot l = -1) : spaceS l = [] := by
  unfold spaceS
  rw [h]
  rfl
theorem lastDot_lt (l : List UInt8) : -1 ≤ lastDot l ∧ lastDot l < l.length := by
  rcases lastDot_prop l with ⟨h, _⟩ | ⟨m, h, h2, _⟩ <;> rw [h] <;> omega

theorem take_str (s : ByteArray) (n : Nat) : s.extract 0 n = ⟨(s.data.toList.take n).toArray⟩ := by
  apply ByteArray.ext
  apply Array.ext'
  simp
theorem drop_str (s : ByteArray) (n : Nat) : s.extract n s.size = ⟨(s.data.toList.drop n).toArray⟩ := by
  apply ByteArray.ext
  apply Array.ext'
  rw [Lib.extract_to_end s n]
theorem last_at (s : ByteArray) : ∃ n : Nat, lastDot s.data.toList = n - 1 ∧ n ≤ s.size ∧ s.extract n s.size = ⟨(lastS s.data.toList).toArray⟩ := by
  have hl := lastDot_lt s.data.toList
  rw [len_size] at hl
  refine ⟨(lastDot s.data.toList + 1).toNat, by omega, by omega, ?_⟩
  rw [drop_str]
  rfl

set_option maxRecDepth 100000 in
set_option maxHeartbeats 400000 in
theorem nLast (s : ByteArray) (w : World) (hs : s.size ≤ 9223372036854775807) : Calls Tryd.prog 24 #[.string s] w fun e w' => e = .returned (.string ⟨(lastS s.data.toList).toArray⟩) ∧ w = w' := by
  obtain ⟨n, hd, hn, HX⟩ := last_at s
  rw [← HX]
  have hD := Lib.hid hd
  clear HX hd
  go_enter Tryd.func24, Tryd.ntmps24
  go_wp2_with fail
  refine (lastIdx s _ hs).mono ?_
  rintro e w1 ⟨rfl, rfl⟩
  rw [hD.out]
  go_wp2_with fail
  go_ret
  exact ⟨rfl, rfl⟩
set_option maxRecDepth 100000 in
set_option maxHeartbeats 400000 in
theorem nrLast (s : ByteArray) (w : World) (hs : s.size ≤ 9223372036854775807) : Calls Tryd.prog 25 #[.string s] w fun e w' => e = .returned (.string ⟨(lastS s.data.toList).toArray⟩) ∧ w = w' := by
  obtain ⟨n, hd, hn, HX⟩ := last_at s
  rw [← HX]
  have hD := Lib.hid hd
  clear HX hd
  go_enter Tryd.func25, Tryd.ntmps25
  go_wp2_with fail
  refine (rDot s _ hs).mono ?_
  rintro e w1 ⟨rfl, rfl⟩
  rw [hD.out]
  go_wp2_with fail
  go_ret
  exact ⟨rfl, rfl⟩

/-- What stands ahead of the last dot. -/
theorem space_at (s : ByteArray) : (lastDot s.data.toList = -1 ∧ spaceS s.data.toList = []) ∨ ∃ n : Nat, lastDot s.data.toList = n ∧ n ≤ s.size ∧ s.extract 0 n = ⟨(spaceS s.data.toList).toArray⟩ := by
  have hl := lastDot_lt s.data.toList
  rw [len_size] at hl
  by_cases h : lastDot s.data.toList = -1
  · exact .inl ⟨h, noDot_space _ h⟩
  · refine .inr ⟨(lastDot s.data.toList).toNat, by omega, by omega, ?_⟩
    rw [take_str]
    rfl

set_option maxRecDepth 100000 in
set_option maxHeartbeats 400000 in
theorem nSpace (s : ByteArray) (w : World) (hs : s.size ≤ 9223372036854775807) : Calls Tryd.prog 22 #[.string s] w fun e w' => e = .returned (.string ⟨(spaceS s.data.toList).toArray⟩) ∧ w = w' := by
  have he : s.extract 0 0 = ⟨#[]⟩ := by
    apply ByteArray.ext
    simp
  rcases space_at s with ⟨hd, hs0⟩ | ⟨n, hd, hn, HX⟩
  · rw [hs0]
    have hD := Lib.hid hd
    clear hd hs0
    go_enter Tryd.func22, Tryd.ntmps22
    go_wp2_with fail
    refine (lastIdx s _ hs).mono ?_
    rintro e w1 ⟨rfl, rfl⟩
    rw [hD.out]
    go_wp2_with fail
    go_ret
    exact ⟨rfl, rfl⟩
  · rw [← HX]
    have hD := Lib.hid hd
    clear hd HX
    go_enter Tryd.func22, Tryd.ntmps22
    go_wp2_with fail
    refine (lastIdx s _ hs).mono ?_
    rintro e w1 ⟨rfl, rfl⟩
    rw [hD.out]
    go_wp2_with fail
    go_ret
    exact ⟨rfl, rfl⟩
set_option maxRecDepth 100000 in
set_option maxHeartbeats 400000 in
theorem nrSpace (s : ByteArray) (w : World) (hs : s.size ≤ 9223372036854775807) : Calls Tryd.prog 23 #[.string s] w fun e w' => e = .returned (.string ⟨(spaceS s.data.toList).toArray⟩) ∧ w = w' := by
  rcases space_at s with ⟨hd, hs0⟩ | ⟨n, hd, hn, HX⟩
  · rw [hs0]
    have hD := Lib.hid hd
    clear hd hs0
    go_enter Tryd.func23, Tryd.ntmps23
    go_wp2_with fail
    refine (rDot s _ hs).mono ?_
    rintro e w1 ⟨rfl, rfl⟩
    rw [hD.out]
    go_wp2_with fail
    go_ret
    exact ⟨rfl, rfl⟩
  · rw [← HX]
    have hD := Lib.hid hd
    clear hd HX
    go_enter Tryd.func23, Tryd.ntmps23
    go_wp2_with fail
    refine (rDot s _ hs).mono ?_
    rintro e w1 ⟨rfl, rfl⟩
    rw [hD.out]
    go_wp2_with fail
    refine (rDot s _ hs).mono ?_
    rintro e w1 ⟨rfl, rfl⟩
    rw [hD.out]
    go_wp2_with fail
    go_ret
    exact ⟨rfl, rfl⟩
end Go.Proofs.YtaelanpmgckfkaaRRRRDoor
