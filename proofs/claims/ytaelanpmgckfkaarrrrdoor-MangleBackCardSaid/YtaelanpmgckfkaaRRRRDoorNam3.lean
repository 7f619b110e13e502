/- strings.Cut at a dot; naming.Full and the document's. -/
import Derived.Test.YtaelanpmgckfkaaRRRRDoorNam2
import Derived.BigRegion
namespace Go.Proofs.YtaelanpmgckfkaaRRRRDoor
open Go.RowKit Go.Av

set_option maxRecDepth 100000 in
set_option maxHeartbeats 400000 in
theorem idxDot (s : ByteArray) (w : World) : Calls Tryd.prog 86 #[.string s, .string ⟨#[46]⟩] w fun e w' => e = .returned (.int .i64 (Lib.indexByte s.data.toList 46)) ∧ w = w' := by
  by_cases h1 : s.data.toList = [46]
  · have e1 : ([46] == s.toList) = true := by rw [ByteArray.toList_eq, h1]; rfl
    have H1 : Hid (Lib.indexByte s.data.toList 46 = 0) := by unfold Hid; rw [h1]; rfl
    rw [H1.out]
    clear h1 H1
    go_enter Tryd.func86, Tryd.ntmps86
    go_wp2_with fail
    go_ret
    exact ⟨rfl, rfl⟩
  have e1 : ([46] == s.toList) = false := by rw [ByteArray.toList_eq, beq_eq_false_iff_ne]; exact fun h => h1 h.symm
  clear h1
  go_enter Tryd.func86, Tryd.ntmps86
  go_wp2_with fail
  refine (indexByte0 s 46 _).mono ?_
  rintro e w1 ⟨rfl, rfl⟩
  go_wp2_with fail
  go_ret
  exact ⟨rfl, rfl⟩

/-- The first dot: none, or the two parts around it. -/
theorem firstDot (l : List UInt8) : (Lib.indexByte l 46 = -1 ∧ noDot l) ∨ ∃ m : Nat, Lib.indexByte l 46 = (m : Int) ∧ m < l.length ∧ l = l.take m ++ 46 :: l.drop (m + 1) ∧ noDot (l.take m) := by
  induction l with
  | nil => exact .inl ⟨rfl, by intro c hc; cases hc⟩
  | cons c r ih =>
    by_cases h : c = 46
    · subst h
      exact .inr ⟨0, by simp [Lib.indexByte], by simp, by simp, by intro c hc; simp at hc⟩
    · have hn : ¬ c.toNat = 46 := fun e => h (dot_of e)
      rcases ih with ⟨h1, h2⟩ | ⟨m, h1, h2, h3, h4⟩
      · refine .inl ⟨by simp [Lib.indexByte, h, h1], ?_⟩
        intro d hd
        rcases List.mem_cons.1 hd with rfl | hd
        · exact hn
        · exact h2 d hd
      · refine .inr ⟨m + 1, ?_, by simp; omega, ?_, ?_⟩
        · simp only [Lib.indexByte, h1]
          rw [if_neg (by simpa using h)]
          simp
          try omega
        · simp only [List.take_succ_cons, List.cons_append, List.drop_succ_cons]
          rw [← h3]
        · rw [List.take_succ_cons]
          intro d hd
          rcases List.mem_cons.1 hd with rfl | hd
          · exact hn
          · exact h4 d hd

set_option maxRecDepth 100000 in
set_option maxHeartbeats 400000 in
theorem cut_none (s : ByteArray) (w : World) (h : Lib.indexByte s.data.toList 46 = -1) : Calls Tryd.prog 55 #[.string s, .string ⟨#[46]⟩] w fun e w' => e = .returned (.tuple #[.string s, .string ⟨#[]⟩, .bool false]) ∧ w = w' := by
  have h0 : Calls Tryd.prog 72 #[.string s, .string ⟨#[46]⟩] w fun e w' => e = .returned (.tuple #[.string s, .string ⟨#[]⟩, .bool false]) ∧ w = w' := by
    have H := Lib.hid h
    clear h
    go_enter Tryd.func72, Tryd.ntmps72
    go_wp2_with fail
    refine (idxDot s _).mono ?_
    rintro e w1 ⟨rfl, rfl⟩
    rw [H.out]
    go_wp2_with fail
    exact bodyPost_ret (by simp [results, Tryd.results72, go_sem]) rfl ⟨rfl, rfl⟩
  clear h
  go_enter Tryd.func55, Tryd.ntmps55
  go_wp2_with fail
  refine h0.mono ?_
  rintro e w1 ⟨rfl, rfl⟩
  go_wp2_with fail
  exact bodyPost_ret (by simp [results, Tryd.results55, go_sem]) rfl ⟨rfl, rfl⟩
set_option maxRecDepth 100000 in
set_option maxHeartbeats 400000 in
theorem cut_some (s : ByteArray) (w : World) (hs : s.size ≤ 9223372036854775807) (m : Nat) (h : Lib.indexByte s.data.toList 46 = m) (hm : m < s.size) : Calls Tryd.prog 55 #[.string s, .string ⟨#[46]⟩] w fun e w' => e = .returned (.tuple #[.string (s.extract 0 m), .string (s.extract (m + 1) s.size), .bool true]) ∧ Below w.heap.size w w' := by
  have h0 : Calls Tryd.prog 72 #[.string s, .string ⟨#[46]⟩] w fun e w' => e = .returned (.tuple #[.string (s.extract 0 m), .string (s.extract (m + 1) s.size), .bool true]) ∧ Below w.heap.size w w' := by
    have H := Lib.hid h
    clear h
    go_enter Tryd.func72, Tryd.ntmps72
    go_wp2_with fail
    refine (idxDot s _).mono ?_
    rintro e w1 ⟨rfl, rfl⟩
    rw [H.out]
    go_wp2_with fail
    go_region
    go_wp2_with fail
    exact bodyPost_ret (by simp [results, Tryd.results72, go_sem]) rfl ⟨rfl, (Below.refl _ _).drew⟩
  clear h
  go_enter Tryd.func55, Tryd.ntmps55
  go_wp2_with fail
  refine h0.mono ?_
  rintro e w1 ⟨rfl, hb⟩
  go_wp2_with fail
  exact bodyPost_ret (by simp [results, Tryd.results55, go_sem]) rfl ⟨rfl, hb⟩

def strLen : Value → Nat | .string q => q.size | _ => 0
theorem FullS_small (l : List UInt8) (h : l.length ≤ 100) : FullS l = fullP l := by
  unfold FullS
  rw [decide_eq_true h]
  rfl
theorem FullS_big (l : List UInt8) (h : ¬ l.length ≤ 100) : FullS l = false := by
  unfold FullS
  rw [decide_eq_false h]
  rfl

set_option maxRecDepth 100000 in
set_option maxHeartbeats 400000 in
theorem nFull (s : ByteArray) (w : World) (hs : s.size ≤ 9223372036854775807) : Calls Tryd.prog 20 #[.string s] w fun e w' => e = .returned (.bool (FullS s.data.toList)) ∧ Below w.heap.size w w' := by
  by_cases h : s.size > 100
  · have HS : Hid (FullS s.data.toList = false) := FullS_big _ (by rw [len_size]; omega)
    rw [HS.out]
    clear HS
    go_enter Tryd.func20, Tryd.ntmps20
    go_wp2_with fail
    go_ret
    exact ⟨rfl, Below.refl _ _⟩
  have HS : Hid (FullS s.data.toList = fullP s.data.toList) := FullS_small _ (by rw [len_size]; omega)
  go_enter Tryd.func20, Tryd.ntmps20
  go_wp2_with fail
  go_loopw [0] (fun v wr => ∃ q : ByteArray, v = .string q ∧ q.size ≤ s.size ∧ Hid (FullS s.data.toList = fullP q.data.toList) ∧ Below w.heap.size w wr) (fun v _ => strLen v)
  case atStart => exact ⟨s, rfl, Nat.le_refl _, HS, Below.refl _ _⟩
  case round =>
    obtain ⟨q, rfl, hq, HR, hb⟩ := hrel
    have hbs := hb.size
    clear HS
    have hqs : q.size ≤ 9223372036854775807 := by omega
    have hqc := fun wz => nsimple q wz hqs
    rcases firstDot q.data.toList with ⟨h1, h2⟩ | ⟨m, h1, h2, h3, h4⟩
    · have HE : Hid (FullS s.data.toList = simpleS q.data.toList) := by
        unfold Hid
        rw [HR.out, fullP_sim _ h2]
      have H1 := Lib.hid h1
      have HQC := Lib.hid hqc
      clear h1 h2 HR hqc
      go_wp2_with fail
      refine (cut_none q _ H1.out).mono ?_
      rintro e w1 ⟨rfl, rfl⟩
      go_wp2_with fail
      refine (HQC.out _).mono ?_
      rintro e w1 ⟨rfl, rfl⟩
      cases hv : simpleS q.data.toList
      all_goals
        rw [hv] at HE
        clear hv
        go_wp2_with fail
        go_ret
        exact ⟨by rw [HE.out]; first | done | rfl, hb⟩
    · rw [len_size] at h2
      have HL : Hid (FullS s.data.toList = (simpleS (q.extract 0 m).data.toList && fullP (q.extract (m + 1) q.size).data.toList)) := by
        unfold Hid
        have e1 : (q.extract 0 m).data.toList = q.data.toList.take m := by rw [take_str]
        have e2 : (q.extract (m + 1) q.size).data.toList = q.data.toList.drop (m + 1) := Lib.extract_to_end q (m + 1)
        rw [e1, e2, ← fullP_sim _ h4, ← fullP_join, ← h3]
        exact HR.out
      have H1 := Lib.hid h1
      have hx1 : (q.extract 0 m).size ≤ 9223372036854775807 := by simp; omega
      have hx2 : (q.extract (m + 1) q.size).size ≤ q.size - (m + 1) := by simp
      have HCUT := Lib.hid (fun wz => cut_some q wz hqs m h1 h2)
      clear h1 h3 h4 hqc HR
      generalize q.extract 0 m = qa at HL hx1 HCUT
      generalize q.extract (m + 1) q.size = qb at HL hx2 HCUT
      go_wp2_with fail
      refine (HCUT.out _).mono ?_
      rintro e w1 ⟨rfl, hb1⟩
      have hb2 := hb.trans (hb1.mono hbs)
      go_wp2_with fail
      refine (nsimple qa _ hx1).mono ?_
      rintro e w2 ⟨rfl, rfl⟩
      cases hv : simpleS qa.data.toList
      · rw [hv] at HL
        clear hv
        go_wp2_with fail
        go_ret
        exact ⟨by rw [HL.out]; first | done | rfl, hb2⟩
      · rw [hv] at HL
        clear hv
        go_wp2_with fail
        go_roundw
        case rel => exact ⟨qb, rfl, by omega, HL, hb2⟩
        case measure => simp [strLen]; omega
end Go.Proofs.YtaelanpmgckfkaaRRRRDoor
