/- The walk of MangleBack. -/
import Derived.Test.YtaelanpmgckfkaaRRRRDoorNam3
import Derived.Test.YtaelanpmgckfkaaRRRRDoorIdent
import Derived.Test.YtaelanpmgckfkaaRRRRDoorPre
import Derived.Test.YtaelanpmgckfkaaRRRRDoorWorks30
namespace Go.Proofs.YtaelanpmgckfkaaRRRRDoor
open Go.RowKit Go.Av

theorem fullQ_chars (st : Bool) (l : List UInt8) (h : fullQ st l = true) : ∀ c ∈ l, (letterB c || digitB c || decide (c.toNat = 46)) = true := by
  induction l generalizing st with
  | nil => intro c hc; cases hc
  | cons c r ih =>
    unfold fullQ at h
    intro d hd
    by_cases h46 : c.toNat = 46
    · rw [if_pos h46] at h
      rcases List.mem_cons.1 hd with rfl | hd
      · simp [h46]
      · exact ih _ (Bool.and_eq_true_iff.1 h).2 d hd
    · rw [if_neg h46] at h
      rcases List.mem_cons.1 hd with rfl | hd
      · have := (Bool.and_eq_true_iff.1 h).1
        rw [Bool.or_eq_true] at this
        rcases this with h1 | h1
        · simp [h1]
        · simp [(Bool.and_eq_true_iff.1 h1).2]
      · exact ih _ (Bool.and_eq_true_iff.1 h).2 d hd
theorem part_word' : ∀ n : Nat, n < 256 → (letterB (UInt8.ofNat n) || digitB (UInt8.ofNat n) || decide ((UInt8.ofNat n).toNat = 46)) = true → ((nameB (UInt8.ofNat n)).all wordB && decide ((nameB (UInt8.ofNat n)).length ≤ 2)) = true := by decide +kernel
theorem part_word (c : UInt8) (h : (letterB c || digitB c || decide (c.toNat = 46)) = true) : (∀ d ∈ nameB c, wordB d = true) ∧ (nameB c).length ≤ 2 := by
  have e : UInt8.ofNat c.toNat = c := by simp
  have := part_word' c.toNat c.toNat_lt
  rw [e] at this
  obtain ⟨h1, h2⟩ := Bool.and_eq_true_iff.1 (this h)
  exact ⟨List.all_eq_true.1 h1, of_decide_eq_true h2⟩
theorem parts_word (l : List UInt8) (h : ∀ c ∈ l, (letterB c || digitB c || decide (c.toNat = 46)) = true) : (∀ d ∈ l.flatMap nameB, wordB d = true) ∧ (l.flatMap nameB).length ≤ 2 * l.length := by
  induction l with
  | nil => exact ⟨fun d hd => (by cases hd), Nat.le_refl _⟩
  | cons c r ih =>
    obtain ⟨h1, h2⟩ := part_word c (h c (List.mem_cons_self ..))
    obtain ⟨h3, h4⟩ := ih fun d hd => h d (List.mem_cons_of_mem _ hd)
    rw [List.flatMap_cons]
    refine ⟨fun d hd => (List.mem_append.1 hd).elim (h1 d) (h3 d), ?_⟩
    rw [List.length_append, List.length_cons]
    omega
theorem name_free (r : List UInt8) : reservedS (78 :: r) = false := by simp [reservedS, keysL]
theorem full_ident (l : List UInt8) (w : World) (ht : Tabs w) (h : FullS l = true) : Calls Tryd.prog 39 #[.string ⟨(nameL l).toArray⟩] w fun e w' => e = .returned (.bool true) ∧ Below w.heap.size w w' := by
  obtain ⟨h1, h2⟩ := Bool.and_eq_true_iff.1 h
  have hlen := of_decide_eq_true h1
  obtain ⟨h3, h4⟩ := parts_word l (fullQ_chars true l h2)
  exact ident_word 78 (l.flatMap nameB) w ht (by rw [List.length_cons]; omega) rfl (fun d hd => (List.mem_cons.1 hd).elim (fun e => by rw [e]; rfl) (h3 d)) (name_free _)

set_option maxRecDepth 100000 in
set_option maxHeartbeats 1600000 in
theorem mback_walk (l m : List UInt8) (w : World) (ht : Tabs w) :
    Calls Tryd.prog 8 #[.string ⟨l.toArray⟩, .string ⟨m.toArray⟩] w fun e w' => e = .returned (.bool true) ∧ Below w.heap.size w w' := by
  have hsz : ∀ m : List UInt8, (ByteArray.mk m.toArray).size = m.length := fun m => by simp [ByteArray.size]
  have hsl : ∀ m : List UInt8, (ByteArray.mk m.toArray).data.toList = m := fun m => by simp
  by_cases h1 : l.length > 1000
  · have h2 : l.length > 1000 := h1
    go_enter Tryd.func8, Tryd.ntmps8
    go_wp2_with fail
    refine (works_true _).mono ?_
    rintro e w1 ⟨rfl, hb1⟩
    go_wp2_with fail
    go_ret
    exact ⟨rfl, hb1⟩
  by_cases h2 : m.length > 1000
  · have h3 : m.length > 1000 := h2
    go_enter Tryd.func8, Tryd.ntmps8
    go_wp2_with fail
    refine (works_true _).mono ?_
    rintro e w1 ⟨rfl, hb1⟩
    go_wp2_with fail
    go_ret
    exact ⟨rfl, hb1⟩
  have hnl := nameL_length l
  have HN : Hid (∀ wz, Calls Tryd.prog 38 #[.string ⟨l.toArray⟩] wz fun e w' => e = .returned (.string ⟨(nameL l).toArray⟩) ∧ Below wz.heap.size wz w') := by
    intro wz
    have := mName ⟨l.toArray⟩ wz (by rw [hsz]; omega)
    rw [hsl] at this
    exact this
  have HM : Hid (∀ wz, Calls Tryd.prog 38 #[.string ⟨m.toArray⟩] wz fun e w' => e = .returned (.string ⟨(nameL m).toArray⟩) ∧ Below wz.heap.size wz w') := by
    intro wz
    have := mName ⟨m.toArray⟩ wz (by rw [hsz]; omega)
    rw [hsl] at this
    exact this
  have HB : Hid (∀ wz, Calls Tryd.prog 37 #[.string ⟨(nameL l).toArray⟩] wz fun e w' => e = .returned (.tuple #[.string ⟨l.toArray⟩, .bool true]) ∧ Below wz.heap.size wz w') := by
    intro wz
    have := mBack ⟨(nameL l).toArray⟩ wz (by rw [hsz]; omega)
    rw [hsl, backR_nameL] at this
    exact this
  have HF : Hid (∀ wz, Calls Tryd.prog 20 #[.string ⟨l.toArray⟩] wz fun e w' => e = .returned (.bool (FullS l)) ∧ Below wz.heap.size wz w') := by
    intro wz
    have := nFull ⟨l.toArray⟩ wz (by rw [hsz]; omega)
    rw [hsl] at this
    exact this
  have HI : Hid (FullS l = true → ∀ wz, Tabs wz → Calls Tryd.prog 39 #[.string ⟨(nameL l).toArray⟩] wz fun e w' => e = .returned (.bool true) ∧ Below wz.heap.size wz w') := fun h wz ht => full_ident l wz ht h
  have ell : (l == l) = true := beq_self_eq_true _
  have heq : ((nameL l == nameL m) = true ∧ (l == m) = true) ∨ ((nameL l == nameL m) = false ∧ (l == m) = false) := by
    by_cases h : l = m
    · subst h
      exact .inl ⟨beq_self_eq_true _, beq_self_eq_true _⟩
    · exact .inr ⟨beq_eq_false_iff_ne.2 fun e => h (nameL_inj e), beq_eq_false_iff_ne.2 h⟩
  clear hnl hsz hsl
  generalize nameL l = nl at *
  generalize nameL m = nm at *
  cases hf : FullS l
  · rw [hf] at HF
    clear HI hf
    rcases heq with ⟨e1, e2⟩ | ⟨e1, e2⟩
    all_goals
      go_enter Tryd.func8, Tryd.ntmps8
      go_wp2_with fail
      refine (works_true _).mono ?_
      rintro e w1 ⟨rfl, hb1⟩
      go_wp2_with fail
      refine (HN.out _).mono ?_
      rintro e w2 ⟨rfl, hb2⟩
      have hb3 := hb1.trans (hb2.mono hb1.size)
      go_wp2_with fail
      refine (HB.out _).mono ?_
      rintro e w3 ⟨rfl, hb4⟩
      have hb5 := hb3.trans (hb4.mono hb3.size)
      go_wp2_with fail
      refine (HN.out _).mono ?_
      rintro e w4 ⟨rfl, hb6⟩
      have hb7 := hb5.trans (hb6.mono hb5.size)
      go_wp2_with fail
      refine (HM.out _).mono ?_
      rintro e w5 ⟨rfl, hb8⟩
      have hb9 := hb7.trans (hb8.mono hb7.size)
      go_wp2_with fail
      refine (HF.out _).mono ?_
      rintro e w6 ⟨rfl, hb10⟩
      have hb11 := hb9.trans (hb10.mono hb9.size)
      go_wp2_with fail
      go_ret
      exact ⟨rfl, hb11⟩
  · rw [hf] at HF
    have HI2 := Lib.hid (HI.out hf)
    clear HI hf
    rcases heq with ⟨e1, e2⟩ | ⟨e1, e2⟩
    all_goals
      go_enter Tryd.func8, Tryd.ntmps8
      go_wp2_with fail
      refine (works_true _).mono ?_
      rintro e w1 ⟨rfl, hb1⟩
      go_wp2_with fail
      refine (HN.out _).mono ?_
      rintro e w2 ⟨rfl, hb2⟩
      have hb3 := hb1.trans (hb2.mono hb1.size)
      go_wp2_with fail
      refine (HB.out _).mono ?_
      rintro e w3 ⟨rfl, hb4⟩
      have hb5 := hb3.trans (hb4.mono hb3.size)
      go_wp2_with fail
      refine (HN.out _).mono ?_
      rintro e w4 ⟨rfl, hb6⟩
      have hb7 := hb5.trans (hb6.mono hb5.size)
      go_wp2_with fail
      refine (HM.out _).mono ?_
      rintro e w5 ⟨rfl, hb8⟩
      have hb9 := hb7.trans (hb8.mono hb7.size)
      go_wp2_with fail
      refine (HF.out _).mono ?_
      rintro e w6 ⟨rfl, hb10⟩
      have hb11 := hb9.trans (hb10.mono hb9.size)
      go_wp2_with fail
      refine (HN.out _).mono ?_
      rintro e w7 ⟨rfl, hb12⟩
      have hb13 := hb11.trans (hb12.mono hb11.size)
      go_wp2_with fail
      refine (HI2.out _ (ht.below hb13)).mono ?_
      rintro e w8 ⟨rfl, hb14⟩
      have hb15 := hb13.trans (hb14.mono hb13.size)
      go_wp2_with fail
      go_ret
      exact ⟨rfl, hb15⟩
theorem mback_at (s t : ByteArray) (w : World) (ht : Tabs w) :
    Calls Tryd.prog 8 #[.string s, .string t] w fun e w' => e = .returned (.bool true) ∧ Below w.heap.size w w' := by
  have h := mback_walk s.data.toList t.data.toList w ht
  have e : ∀ q : ByteArray, q = ⟨q.data.toList.toArray⟩ := fun q => by
    apply ByteArray.ext
    simp
  rw [← e, ← e] at h
  exact h
end Go.Proofs.YtaelanpmgckfkaaRRRRDoor
