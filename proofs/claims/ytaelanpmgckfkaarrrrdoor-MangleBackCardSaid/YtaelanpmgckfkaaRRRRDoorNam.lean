/- naming.simple, Simple, LastIndexByte, Space, Last; the document's. -/
import Derived.Test.YtaelanpmgckfkaaRRRRDoorFull
import Derived.Test.YtaelanpmgckfkaaRRRRDoorStr
namespace Go.Proofs.YtaelanpmgckfkaaRRRRDoor
open Go.RowKit Go.Av

theorem str_nil (s : ByteArray) : (s.toList == []) = decide (s.size = 0) := by
  rw [ByteArray.toList_eq, Bool.eq_iff_iff, beq_iff_eq, decide_eq_true_iff, ← List.length_eq_zero_iff]
  have : s.data.toList.length = s.size := by simp
  rw [this]
theorem str_at (s : ByteArray) (k : Nat) (h : k < s.size) : s.data.toList[k]? = some s[k] := by
  rw [List.getElem?_eq_getElem (by simpa using h)]
  rfl

set_option maxRecDepth 100000 in
set_option maxHeartbeats 400000 in
theorem nLetter (c : UInt8) (x : Int) (hx : (c.toNat : Int) = x) (w : World) : Calls Tryd.prog 71 #[.int .u8 x] w fun e w' => e = .returned (.bool (letterB c)) ∧ w = w' := by
  have hc : x < 256 := by have := c.toNat_lt; omega
  have hr : letterB c = true ↔ (97 ≤ x ∧ x ≤ 122 ∨ 65 ≤ x ∧ x ≤ 90 ∨ x = 95) := by
    unfold letterB
    rw [decide_eq_true_iff]
    omega
  generalize letterB c = r at hr ⊢
  have h0 : 0 ≤ x := by omega
  clear hx
  by_cases h1 : 97 ≤ x <;> by_cases h2 : x ≤ 122 <;> by_cases h3 : 65 ≤ x <;> by_cases h4 : x ≤ 90 <;> by_cases h5 : x = 95 <;> first | omega | skip
  all_goals
    first | (have e5 : (x == 95) = true := by simpa using h5) | (have e5 : (x == 95) = false := by simpa using h5)
    cases r <;> simp [h1, h2, h3, h4, h5] at hr
    go_enter Tryd.func71, Tryd.ntmps71
    go_wp2_with fail
    go_ret
    exact ⟨rfl, rfl⟩
set_option maxRecDepth 100000 in
set_option maxHeartbeats 400000 in
theorem nrLetter (c : UInt8) (x : Int) (hx : (c.toNat : Int) = x) (w : World) : Calls Tryd.prog 53 #[.int .u8 x] w fun e w' => e = .returned (.bool (letterB c)) ∧ w = w' := by
  have hc : x < 256 := by have := c.toNat_lt; omega
  have hr : letterB c = true ↔ (97 ≤ x ∧ x ≤ 122 ∨ 65 ≤ x ∧ x ≤ 90 ∨ x = 95) := by
    unfold letterB
    rw [decide_eq_true_iff]
    omega
  generalize letterB c = r at hr ⊢
  have h0 : 0 ≤ x := by omega
  clear hx
  by_cases h1 : 97 ≤ x <;> by_cases h2 : x ≤ 122 <;> by_cases h3 : 65 ≤ x <;> by_cases h4 : x ≤ 90 <;> by_cases h5 : x = 95 <;> first | omega | skip
  all_goals
    first | (have e5 : (x == 95) = true := by simpa using h5) | (have e5 : (x == 95) = false := by simpa using h5)
    cases r <;> simp [h1, h2, h3, h4, h5] at hr
    go_enter Tryd.func53, Tryd.ntmps53
    go_wp2_with fail
    go_ret
    exact ⟨rfl, rfl⟩
set_option maxRecDepth 100000 in
set_option maxHeartbeats 400000 in
theorem nrDigit (c : UInt8) (x : Int) (hx : (c.toNat : Int) = x) (w : World) : Calls Tryd.prog 54 #[.int .u8 x] w fun e w' => e = .returned (.bool (digitB c)) ∧ w = w' := by
  have hc : x < 256 := by have := c.toNat_lt; omega
  have hr : digitB c = true ↔ (48 ≤ x ∧ x ≤ 57) := by
    unfold digitB
    rw [decide_eq_true_iff]
    omega
  generalize digitB c = r at hr ⊢
  have h0 : 0 ≤ x := by omega
  clear hx
  by_cases h1 : 48 ≤ x <;> by_cases h2 : x ≤ 57 <;> first | omega | skip
  all_goals
    cases r <;> simp [h1, h2] at hr
    go_enter Tryd.func54, Tryd.ntmps54
    go_wp2_with fail
    go_ret
    exact ⟨rfl, rfl⟩

theorem simQ_step (l : List UInt8) (k : Nat) (st : Bool) (c : UInt8) (h : l[k]? = some c) : simQ st (l.drop k) = ((letterB c || (!st && digitB c)) && simQ false (l.drop (k + 1))) := by
  rw [drop_cons_of h]
  rfl

set_option maxRecDepth 100000 in
set_option maxHeartbeats 400000 in
theorem nsimple (s : ByteArray) (w : World) (hs : s.size ≤ 9223372036854775807) : Calls Tryd.prog 52 #[.string s] w fun e w' => e = .returned (.bool (simpleS s.data.toList)) ∧ w = w' := by
  go_enter Tryd.func52, Tryd.ntmps52
  go_wp2_with fail
  go_loop [6] (fun i => ∃ k : Nat, i = .int .i64 k ∧ k ≤ s.size ∧ Hid (simpleS s.data.toList = simQ (decide (k = 0)) (s.data.toList.drop k))) (fun i => (s.size - intOf i).toNat)
  case atStart => exact ⟨0, rfl, by omega, Lib.hid rfl⟩
  case round =>
    obtain ⟨k, rfl, hk, HR⟩ := hrel
    by_cases hlt : k < s.size
    · have hst := simQ_step s.data.toList k (decide (k = 0)) s[k] (str_at s k hlt)
      rw [← HR.out] at hst
      have HST := Lib.hid hst
      clear hst HR
      have hc : (s[k].toNat : Int) < 256 := by have := s[k].toNat_lt; omega
      by_cases hl : letterB s[k] = true
      · go_wp2_with fail
        refine (nLetter s[k] _ rfl _).mono ?_
        rintro e w1 ⟨rfl, rfl⟩
        rw [hl]
        have HG : Hid (simpleS s.data.toList = simQ (decide (k + 1 = 0)) (s.data.toList.drop (k + 1))) := by
          unfold Hid
          rw [HST.out, hl]
          rfl
        clear hl
        go_wp2_with fail
        go_round
        case rel => exact ⟨k + 1, by go_num, by omega, HG⟩
        case measure => simp [intOf]; omega
      · have hl' : letterB s[k] = false := by simpa using hl
        have hnd : (48 ≤ (s[k].toNat : Int) ∧ (s[k].toNat : Int) ≤ 57) ↔ digitB s[k] = true := by
          unfold digitB
          rw [decide_eq_true_iff]
          omega
        by_cases hk0 : k = 0
        · subst hk0
          have HB : Hid (simpleS s.data.toList = false) := by
            unfold Hid
            rw [HST.out, hl']
            rfl
          clear hnd
          go_wp2_with fail
          refine (nLetter s[0] _ rfl _).mono ?_
          rintro e w1 ⟨rfl, rfl⟩
          rw [hl']
          go_wp2_with fail
          go_ret
          exact ⟨by rw [HB.out]; rfl, rfl⟩
        · have hdk : decide (k = 0) = false := by simpa using hk0
          rw [hdk, hl'] at HST
          have hk0' : ((k : Int) == 0) = false := by simp; omega
          by_cases hd : digitB s[k] = true
          · have hd2 := hnd.2 hd
            have h1 : ¬ (s[k].toNat : Int) < 48 := by omega
            have h2 : ¬ (s[k].toNat : Int) > 57 := by omega
            have HG : Hid (simpleS s.data.toList = simQ (decide (k + 1 = 0)) (s.data.toList.drop (k + 1))) := by
              unfold Hid
              rw [HST.out, hd]
              rfl
            clear hd hnd HST
            go_wp2_with fail
            refine (nLetter s[k] _ rfl _).mono ?_
            rintro e w1 ⟨rfl, rfl⟩
            rw [hl']
            clear hl' hl
            go_wp2_with fail
            go_round
            case rel => exact ⟨k + 1, by go_num, by omega, HG⟩
            case measure => simp [intOf]; omega
          · have hd' : digitB s[k] = false := by simpa using hd
            have hdn : (s[k].toNat : Int) < 48 ∨ (¬ (s[k].toNat : Int) < 48) ∧ (s[k].toNat : Int) > 57 := by
              have := mt hnd.1 hd
              omega
            have HB : Hid (simpleS s.data.toList = false) := by
              unfold Hid
              rw [HST.out, hd']
              rfl
            clear hd hd' hnd HST
            rcases hdn with h1 | ⟨h1, h2⟩
            all_goals
              go_wp2_with fail
              refine (nLetter s[k] _ rfl _).mono ?_
              rintro e w1 ⟨rfl, rfl⟩
              rw [hl']
              go_wp2_with fail
              go_ret
              exact ⟨by rw [HB.out]; rfl, rfl⟩
    · have HR' : simpleS s.data.toList = !(decide (k = 0)) := by
        rw [HR.out, List.drop_eq_nil_of_le (by simp; omega)]
        rfl
      have hke : k = s.size := by omega
      subst hke
      by_cases h0 : s.size = 0
      · have e : (s.toList == []) = true := by rw [str_nil]; simpa using h0
        have HE : Hid (simpleS s.data.toList = false) := by
          unfold Hid
          rw [HR']
          simpa using h0
        clear HR HR' h0
        go_wp2_with fail
        go_ret
        exact ⟨by rw [HE.out]; first | done | rfl, rfl⟩
      · have e : (s.toList == []) = false := by rw [str_nil]; simpa using h0
        have HE : Hid (simpleS s.data.toList = true) := by
          unfold Hid
          rw [HR']
          simpa using h0
        clear HR HR' h0
        go_wp2_with fail
        go_ret
        exact ⟨by rw [HE.out]; first | done | rfl, rfl⟩

set_option maxRecDepth 100000 in
set_option maxHeartbeats 400000 in
theorem nSimple (s : ByteArray) (w : World) (hs : s.size ≤ 9223372036854775807) : Calls Tryd.prog 18 #[.string s] w fun e w' => e = .returned (.bool (SimpleS s.data.toList)) ∧ w = w' := by
  have hsz : s.data.toList.length = s.size := by simp
  by_cases h : s.size ≤ 100
  · have HS : Hid (SimpleS s.data.toList = simpleS s.data.toList) := by
      unfold Hid SimpleS
      rw [decide_eq_true (by omega)]
      rfl
    rw [HS.out]
    go_enter Tryd.func18, Tryd.ntmps18
    go_wp2_with fail
    refine (nsimple s _ hs).mono ?_
    rintro e w1 ⟨rfl, rfl⟩
    go_wp2_with fail
    go_ret
    exact ⟨rfl, rfl⟩
  · have HS : Hid (SimpleS s.data.toList = false) := by
      unfold Hid SimpleS
      rw [decide_eq_false (by omega)]
      rfl
    rw [HS.out]
    go_enter Tryd.func18, Tryd.ntmps18
    go_wp2_with fail
    go_ret
    exact ⟨rfl, rfl⟩

theorem simQ_first (l : List UInt8) (c : UInt8) (h : l[0]? = some c) (hc : letterB c = true) : simQ true l = simQ false l := by
  have := simQ_step l 0 true c h
  have := simQ_step l 0 false c h
  simp_all

set_option maxRecDepth 100000 in
set_option maxHeartbeats 400000 in
theorem nrSimple (s : ByteArray) (w : World) (hs : s.size ≤ 9223372036854775807) : Calls Tryd.prog 19 #[.string s] w fun e w' => e = .returned (.bool (SimpleS s.data.toList)) ∧ w = w' := by
  have hsz : s.data.toList.length = s.size := by simp
  by_cases h0 : s.size = 0
  · have HS : Hid (SimpleS s.data.toList = false) := by
      have : s.data.toList = [] := by simpa [← List.length_eq_zero_iff] using h0
      unfold Hid
      rw [this]
      rfl
    rw [HS.out]
    have h0' : ((s.size : Int) == 0) = true := by simpa using h0
    clear HS
    go_enter Tryd.func19, Tryd.ntmps19
    go_wp2_with fail
    go_ret
    exact ⟨rfl, rfl⟩
  have h0' : ((s.size : Int) == 0) = false := beq_eq_false_iff_ne.2 (by omega)
  by_cases h : s.size > 100
  · have HS : Hid (SimpleS s.data.toList = false) := by
      unfold Hid SimpleS
      rw [decide_eq_false (by omega)]
      rfl
    rw [HS.out]
    clear HS
    go_enter Tryd.func19, Tryd.ntmps19
    go_wp2_with fail
    go_ret
    exact ⟨rfl, rfl⟩
  have HS : Hid (SimpleS s.data.toList = simQ true s.data.toList) := by
    unfold Hid SimpleS
    rw [decide_eq_true (by omega)]
    rfl
  have hlt0 : 0 < s.size := by omega
  have hst := simQ_step s.data.toList 0 true s[0] (str_at s 0 hlt0)
  rw [List.drop_zero] at hst
  by_cases hl : letterB s[0] = true
  · have HR0 : Hid (SimpleS s.data.toList = simQ false s.data.toList) := by
      unfold Hid
      rw [HS.out]
      exact simQ_first _ _ (str_at s 0 hlt0) hl
    clear HS hst
    go_enter Tryd.func19, Tryd.ntmps19
    go_wp2_with fail
    refine (nrLetter s[0] _ rfl _).mono ?_
    rintro e w1 ⟨rfl, rfl⟩
    rw [hl]
    clear hl
    go_wp2_with fail
    go_loop [3] (fun i => ∃ k : Nat, i = .int .i64 k ∧ k ≤ s.size ∧ Hid (SimpleS s.data.toList = simQ false (s.data.toList.drop k))) (fun i => (s.size - intOf i).toNat)
    case atStart => exact ⟨0, rfl, by omega, HR0⟩
    case round =>
      obtain ⟨k, rfl, hk, HR⟩ := hrel
      by_cases hlt : k < s.size
      · have hst := simQ_step s.data.toList k false s[k] (str_at s k hlt)
        rw [← HR.out] at hst
        have HST := Lib.hid hst
        clear hst HR HR0
        by_cases hl : letterB s[k] = true
        · have HG : Hid (SimpleS s.data.toList = simQ false (s.data.toList.drop (k + 1))) := by
            unfold Hid
            rw [HST.out, hl]
            rfl
          go_wp2_with fail
          refine (nrLetter s[k] _ rfl _).mono ?_
          rintro e w1 ⟨rfl, rfl⟩
          rw [hl]
          clear hl
          go_wp2_with fail
          go_round
          case rel => exact ⟨k + 1, by go_num, by omega, HG⟩
          case measure => simp [intOf]; omega
        · have hl' : letterB s[k] = false := by simpa using hl
          clear hl
          go_wp2_with fail
          refine (nrLetter s[k] _ rfl _).mono ?_
          rintro e w1 ⟨rfl, rfl⟩
          rw [hl']
          go_wp2_with fail
          refine (nrDigit s[k] _ rfl _).mono ?_
          rintro e w1 ⟨rfl, rfl⟩
          by_cases hd : digitB s[k] = true
          · have HG : Hid (SimpleS s.data.toList = simQ false (s.data.toList.drop (k + 1))) := by
              unfold Hid
              rw [HST.out, hl', hd]
              rfl
            rw [hd]
            clear hd hl'
            go_wp2_with fail
            go_round
            case rel => exact ⟨k + 1, by go_num, by omega, HG⟩
            case measure => simp [intOf]; omega
          · have hd' : digitB s[k] = false := by simpa using hd
            have HB : Hid (SimpleS s.data.toList = false) := by
              unfold Hid
              rw [HST.out, hl', hd']
              rfl
            rw [hd']
            go_wp2_with fail
            go_ret
            exact ⟨by rw [HB.out]; rfl, rfl⟩
      · have HE : Hid (SimpleS s.data.toList = true) := by
          unfold Hid
          rw [HR.out, List.drop_eq_nil_of_le (by simp; omega)]
          rfl
        clear HR HR0
        go_wp2_with fail
        go_ret
        exact ⟨by rw [HE.out]; first | done | rfl, rfl⟩
  · have hl' : letterB s[0] = false := by simpa using hl
    have HB : Hid (SimpleS s.data.toList = false) := by
      unfold Hid
      rw [HS.out, hst, hl']
      rfl
    clear hl HS hst
    go_enter Tryd.func19, Tryd.ntmps19
    go_wp2_with fail
    refine (nrLetter s[0] _ rfl _).mono ?_
    rintro e w1 ⟨rfl, rfl⟩
    rw [hl']
    go_wp2_with fail
    go_ret
    exact ⟨by rw [HB.out]; rfl, rfl⟩
end Go.Proofs.YtaelanpmgckfkaaRRRRDoor
