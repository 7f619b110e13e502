/- The document's Full; Word and Kind. -/
import Derived.Test.YtaelanpmgckfkaaRRRRDoorNam3
namespace Go.Proofs.YtaelanpmgckfkaaRRRRDoor
open Go.RowKit Go.Av

theorem SimpleS_small (l : List UInt8) (h : l.length ≤ 100) : SimpleS l = simpleS l := by
  unfold SimpleS
  rw [decide_eq_true h]
  rfl

set_option maxRecDepth 100000 in
set_option maxHeartbeats 400000 in
theorem nrFull (s : ByteArray) (w : World) (hs : s.size ≤ 9223372036854775807) : Calls Tryd.prog 21 #[.string s] w fun e w' => e = .returned (.bool (FullS s.data.toList)) ∧ w = w' := by
  by_cases h : s.size > 100
  · have HS : Hid (FullS s.data.toList = false) := FullS_big _ (by rw [len_size]; omega)
    rw [HS.out]
    clear HS
    go_enter Tryd.func21, Tryd.ntmps21
    go_wp2_with fail
    go_ret
    exact ⟨rfl, rfl⟩
  have HS : Hid (FullS s.data.toList = fullP s.data.toList) := FullS_small _ (by rw [len_size]; omega)
  go_enter Tryd.func21, Tryd.ntmps21
  go_wp2_with fail
  go_loop [0] (fun v => ∃ q : ByteArray, v = .string q ∧ q.size ≤ s.size ∧ Hid (FullS s.data.toList = fullP q.data.toList)) (fun v => strLen v)
  case atStart => exact ⟨s, rfl, Nat.le_refl _, HS⟩
  case round =>
    obtain ⟨q, rfl, hq, HR⟩ := hrel
    clear HS
    have hqs : q.size ≤ 9223372036854775807 := by omega
    have hq100 : q.size ≤ 100 := by omega
    have HDOT := Lib.hid (fun wz => rDot q wz hqs)
    rcases lastDot_prop q.data.toList with ⟨h1, h2⟩ | ⟨m, h1, h2, h3, h4⟩
    · have HE : Hid (FullS s.data.toList = SimpleS q.data.toList) := by
        unfold Hid
        rw [HR.out, fullP_sim _ h2, SimpleS_small _ (by rw [len_size]; exact hq100)]
      have H1 := Lib.hid h1
      clear h1 h2 HR
      go_wp2_with fail
      refine (HDOT.out _).mono ?_
      rintro e w1 ⟨rfl, rfl⟩
      rw [H1.out]
      go_wp2_with fail
      refine (nrSimple q _ hqs).mono ?_
      rintro e w1 ⟨rfl, rfl⟩
      go_wp2_with fail
      go_ret
      exact ⟨by rw [HE.out]; first | done | rfl, rfl⟩
    · rw [len_size] at h2
      have HL : Hid (FullS s.data.toList = (fullP (q.extract 0 m).data.toList && SimpleS (q.extract (m + 1) q.size).data.toList)) := by
        unfold Hid
        have e1 : (q.extract 0 m).data.toList = q.data.toList.take m := by rw [take_str]
        have e2 : (q.extract (m + 1) q.size).data.toList = q.data.toList.drop (m + 1) := Lib.extract_to_end q (m + 1)
        rw [e1, e2, SimpleS_small _ (by rw [List.length_drop, len_size]; omega), ← fullP_sim _ h4, ← fullP_join, ← h3]
        exact HR.out
      have H1 := Lib.hid h1
      have hx1 : (q.extract 0 m).size ≤ m := by simp; omega
      have hx2 : (q.extract (m + 1) q.size).size ≤ 9223372036854775807 := by simp; omega
      clear h1 h3 h4 HR
      go_wp2_with fail
      refine (HDOT.out _).mono ?_
      rintro e w1 ⟨rfl, rfl⟩
      rw [H1.out]
      go_wp2_with fail
      refine (HDOT.out _).mono ?_
      rintro e w1 ⟨rfl, rfl⟩
      rw [H1.out]
      go_wp2_with fail
      refine (nrSimple _ _ hx2).mono ?_
      rintro e w1 ⟨rfl, rfl⟩
      cases hv : SimpleS (q.extract (m + 1) q.size).data.toList
      · rw [hv] at HL
        have HL' : Hid (FullS s.data.toList = false) := by unfold Hid; rw [HL.out]; simp
        clear hv HL
        go_wp2_with fail
        go_ret
        exact ⟨by rw [HL'.out]; first | done | rfl, rfl⟩
      · rw [hv] at HL
        have HL' : Hid (FullS s.data.toList = fullP (q.extract 0 m).data.toList) := by unfold Hid; rw [HL.out]; simp
        clear hv HL
        go_wp2_with fail
        refine (HDOT.out _).mono ?_
        rintro e w1 ⟨rfl, rfl⟩
        rw [H1.out]
        go_wp2_with fail
        go_round
        case rel => exact ⟨q.extract 0 m, rfl, by omega, HL'⟩
        case measure => simp [strLen]; omega

set_option maxRecDepth 100000 in
set_option maxHeartbeats 400000 in
theorem nrWord (k : Int) (w : World) : Calls Tryd.prog 29 #[.int .i64 k] w fun e w' => e = .returned (.string ⟨(wordS k).toArray⟩) ∧ w = w' := by
  by_cases h : k = 1 ∨ k = 2 ∨ k = 3 ∨ k = 4 ∨ k = 5 ∨ k = 6 ∨ k = 7 ∨ k = 8 ∨ k = 9 ∨ k = 10 ∨ k = 11 ∨ k = 12 ∨ k = 14
  · rcases h with rfl | rfl | rfl | rfl | rfl | rfl | rfl | rfl | rfl | rfl | rfl | rfl | rfl
    all_goals
      go_enter Tryd.func29, Tryd.ntmps29
      go_wp2_with fail
      go_ret
      exact ⟨rfl, rfl⟩
  · have hw : Hid (wordS k = []) := by
      unfold Hid wordS
      split
      · have : k = 0 ∨ k = 13 := by omega
        rcases this with rfl | rfl <;> rfl
      · rfl
    have e1 : (k == 1) = false := beq_eq_false_iff_ne.2 (by omega)
    have e2 : (k == 2) = false := beq_eq_false_iff_ne.2 (by omega)
    have e3 : (k == 3) = false := beq_eq_false_iff_ne.2 (by omega)
    have e4 : (k == 4) = false := beq_eq_false_iff_ne.2 (by omega)
    have e5 : (k == 5) = false := beq_eq_false_iff_ne.2 (by omega)
    have e6 : (k == 6) = false := beq_eq_false_iff_ne.2 (by omega)
    have e7 : (k == 7) = false := beq_eq_false_iff_ne.2 (by omega)
    have e8 : (k == 8) = false := beq_eq_false_iff_ne.2 (by omega)
    have e9 : (k == 9) = false := beq_eq_false_iff_ne.2 (by omega)
    have e10 : (k == 10) = false := beq_eq_false_iff_ne.2 (by omega)
    have e11 : (k == 11) = false := beq_eq_false_iff_ne.2 (by omega)
    have e12 : (k == 12) = false := beq_eq_false_iff_ne.2 (by omega)
    have e14 : (k == 14) = false := beq_eq_false_iff_ne.2 (by omega)
    rw [hw.out]
    clear h hw
    go_enter Tryd.func29, Tryd.ntmps29
    go_wp2_with fail
    go_ret
    exact ⟨rfl, rfl⟩

theorem kindF_step (l : List UInt8) (k : Nat) (hk : k < 15) : kindF l (15 - k) = if wordsN.getD k [] = l ∧ ¬ l = [] then k else kindF l (15 - (k + 1)) := by
  have : 15 - k = (14 - k) + 1 := by omega
  rw [this]
  show (if wordsN.getD (14 - (14 - k)) [] = l ∧ ¬ l = [] then 14 - (14 - k) else kindF l (14 - k)) = _
  have e : 14 - (14 - k) = k := by omega
  rw [e, show 15 - (k + 1) = 14 - k by omega]

set_option maxRecDepth 100000 in
set_option maxHeartbeats 400000 in
theorem nrKind (s : ByteArray) (w : World) : Calls Tryd.prog 27 #[.string s] w fun e w' => e = .returned (.int .i64 (kindS s.data.toList : Int)) ∧ w = w' := by
  have H0 : Hid (kindS s.data.toList = kindF s.data.toList (15 - 1)) := kindS_14 _
  go_enter Tryd.func27, Tryd.ntmps27
  go_wp2_with fail
  go_loop [3] (fun i => ∃ k : Nat, i = .int .i64 k ∧ k ≤ 15 ∧ 1 ≤ k ∧ Hid (kindS s.data.toList = kindF s.data.toList (15 - k))) (fun i => (15 - intOf i).toNat)
  case atStart => exact ⟨1, rfl, by omega, by omega, H0⟩
  case round =>
    obtain ⟨k, rfl, hk, hk1, HR⟩ := hrel
    clear H0
    by_cases hlt : k < 15
    · have hst := kindF_step s.data.toList k hlt
      rw [← HR.out] at hst
      have hw : wordS k = wordsN.getD k [] := by
        unfold wordS
        rw [if_pos (by omega)]
        simp
      rw [← hw] at hst
      have HST := Lib.hid hst
      clear hst HR hw
      have hkk : (k : Int) ≤ 14 := by omega
      cases hn : (s.toList == [])
      · have hn' : ¬ s.data.toList = [] := by
          rw [ByteArray.toList_eq, beq_eq_false_iff_ne] at hn
          exact hn
        have HN := Lib.hid hn'
        clear hn'
        cases hq : ((wordS k) == s.toList)
        · have hq' : ¬ wordS k = s.data.toList := by
            rw [ByteArray.toList_eq, beq_eq_false_iff_ne] at hq
            exact hq
          have HG : Hid (kindS s.data.toList = kindF s.data.toList (15 - (k + 1))) := by
            unfold Hid
            rw [HST.out, if_neg (fun h => hq' h.1)]
          clear hq' HST
          go_wp2_with fail
          refine (nrWord k _).mono ?_
          rintro e w1 ⟨rfl, rfl⟩
          go_wp2_with fail
          go_round
          case rel => exact ⟨k + 1, by go_num, by omega, by omega, HG⟩
          case measure => simp [intOf]; omega
        · have hq' : wordS k = s.data.toList := by
            rw [ByteArray.toList_eq, beq_iff_eq] at hq
            exact hq
          have HG : Hid (kindS s.data.toList = k) := by
            unfold Hid
            rw [HST.out, if_pos ⟨hq', HN.out⟩]
          clear hq' HST
          go_wp2_with fail
          refine (nrWord k _).mono ?_
          rintro e w1 ⟨rfl, rfl⟩
          go_wp2_with fail
          go_ret
          exact ⟨by rw [HG.out]; first | done | rfl, rfl⟩
      · have hn' : s.data.toList = [] := by
          rw [ByteArray.toList_eq, beq_iff_eq] at hn
          exact hn
        have HG : Hid (kindS s.data.toList = kindF s.data.toList (15 - (k + 1))) := by
          unfold Hid
          rw [HST.out, if_neg (fun h => h.2 hn')]
        clear hn' HST
        go_wp2_with fail
        go_round
        case rel => exact ⟨k + 1, by go_num, by omega, by omega, HG⟩
        case measure => simp [intOf]; omega
    · have HE : Hid (kindS s.data.toList = 0) := by
        unfold Hid
        rw [HR.out, show 15 - k = 0 by omega]
        rfl
      have hkk : ¬ (k : Int) ≤ 14 := by omega
      clear HR
      go_wp2_with fail
      go_ret
      exact ⟨by rw [HE.out]; first | done | rfl, rfl⟩
end Go.Proofs.YtaelanpmgckfkaaRRRRDoor
