/- The walk of NamingParts. -/
import Derived.Test.YtaelanpmgckfkaaRRRRDoorNam7
namespace Go.Proofs.YtaelanpmgckfkaaRRRRDoor
open Go.RowKit Go.Av
theorem simpleS_nodot {l : List UInt8} (h : simpleS l = true) : noDot l := simQ_noDot true l h
theorem indexByte_none (l : List UInt8) (h : noDot l) : Lib.indexByte l 46 = -1 := by
  induction l with
  | nil => rfl
  | cons c r ih =>
    have hc : ¬ c = 46 := by
      intro e
      exact h c (List.mem_cons_self ..) (by rw [e]; rfl)
    have := ih fun d hd => h d (List.mem_cons_of_mem _ hd)
    simp [Lib.indexByte, hc, this]
theorem indexByte_some (l : List UInt8) (h : ¬ noDot l) : Lib.indexByte l 46 ≥ 0 := by
  induction l with
  | nil => exact absurd (fun c hc => by cases hc) h
  | cons c r ih =>
    by_cases hc : c = 46
    · simp [Lib.indexByte, hc]
    · have hr : ¬ noDot r := by
        intro hr
        apply h
        intro d hd
        rcases List.mem_cons.1 hd with rfl | hd
        · exact fun e => hc (by apply UInt8.toNat.inj; rw [e]; rfl)
        · exact hr d hd
      have := ih hr
      have hc' : (c == 46) = false := by simpa using hc
      simp only [Lib.indexByte, hc']
      simp
      split <;> omega

/-- Of a full name: its space and its last part. -/
theorem full_parts {l : List UInt8} (h : FullS l = true) : joinS (spaceS l) (lastS l) = (l, true) ∧ SimpleS (lastS l) = true ∧ (spaceS l ≠ [] → FullS (spaceS l) = true) ∧
    (spaceS l ≠ [] → ∀ a, joinS a l = (l, true)) := by
  obtain ⟨h1, h2⟩ := Bool.and_eq_true_iff.1 h
  have hlen := of_decide_eq_true h1
  rcases lastDot_prop l with ⟨hd, hn⟩ | ⟨m, hd, hm, hl, hn⟩
  · have es : spaceS l = [] := by unfold spaceS; rw [hd]; rfl
    have el : lastS l = l := by unfold lastS; rw [hd]; rfl
    have hsim : simpleS l = true := by rw [← fullP_sim _ hn]; exact h2
    have hS : SimpleS l = true := by unfold SimpleS; rw [decide_eq_true hlen, hsim]; rfl
    rw [es, el]
    refine ⟨?_, hS, fun e => absurd rfl e, fun e => absurd rfl e⟩
    have hi := indexByte_none l hn
    rw [joinS_of [] l l (.inr hS) (by rw [if_neg (by rw [hi]; decide), if_pos rfl]), if_pos h]
  · have es : spaceS l = l.take m := by unfold spaceS; rw [hd]; rfl
    have el : lastS l = l.drop (m + 1) := by
      unfold lastS
      rw [hd]
      have : ((m : Int) + 1).toNat = m + 1 := by omega
      rw [this]
    have hj : fullP l = (fullP (l.take m) && fullP (l.drop (m + 1))) := by
      conv => lhs; rw [hl]
      exact fullP_join _ _
    rw [h2] at hj
    obtain ⟨ha, hb⟩ := Bool.and_eq_true_iff.1 hj.symm
    have hsim : simpleS (l.drop (m + 1)) = true := by rw [← fullP_sim _ hn]; exact hb
    have hS : SimpleS (l.drop (m + 1)) = true := by
      unfold SimpleS
      rw [decide_eq_true (by rw [List.length_drop]; omega), hsim]
      rfl
    have hF : FullS (l.take m) = true := by
      unfold FullS
      rw [decide_eq_true (by rw [List.length_take]; omega), ha]
      rfl
    have hne : l.take m ≠ [] := by
      intro e
      rw [e] at ha
      exact absurd ha (by decide)
    have hdot : ¬ noDot l := by
      intro hno
      exact hno 46 (by rw [hl]; simp) rfl
    rw [es, el]
    refine ⟨?_, hS, fun _ => hF, fun _ a => ?_⟩
    · have hi := indexByte_none _ hn
      rw [joinS_of (l.take m) (l.drop (m + 1)) l (.inr hS) (by rw [if_neg (by rw [hi]; decide), if_neg hne, ← hl]), if_pos h]
    · have hi := indexByte_some l hdot
      rw [joinS_of a l l (.inl hi) (by rw [if_pos hi]), if_pos h]
theorem kind_word (k : Int) (h : wordS k ≠ []) : (kindS (wordS k) : Int) = k := by
  by_cases hk : 0 ≤ k ∧ k < 15
  · have : k = 0 ∨ k = 1 ∨ k = 2 ∨ k = 3 ∨ k = 4 ∨ k = 5 ∨ k = 6 ∨ k = 7 ∨ k = 8 ∨ k = 9 ∨ k = 10 ∨ k = 11 ∨ k = 12 ∨ k = 13 ∨ k = 14 := by omega
    rcases this with rfl | rfl | rfl | rfl | rfl | rfl | rfl | rfl | rfl | rfl | rfl | rfl | rfl | rfl | rfl <;> first | rfl | exact absurd rfl h | (show _ = _; decide)
  · exact absurd (show wordS k = [] by unfold wordS; rw [if_neg hk]) h

set_option maxRecDepth 100000 in
set_option maxHeartbeats 1600000 in
theorem parts_walk (l ar : List UInt8) (k : Int) (w : World) (ht : TabN w) (hl : l.length ≤ 9223372036854775807) (har : ar.length ≤ 9223372036854775807) :
    Calls Tryd.prog 6 #[.string ⟨l.toArray⟩, .string ⟨ar.toArray⟩, .int .i64 k] w fun e w' => e = .returned (.bool true) ∧ Below w.heap.size w w' := by
  have hsz : ∀ m : List UInt8, (ByteArray.mk m.toArray).size = m.length := fun m => by simp [ByteArray.size]
  have hsl : ∀ m : List UInt8, (ByteArray.mk m.toArray).data.toList = m := fun m => by simp
  have HW := Lib.hid (fun wz ht => nWord k wz ht)
  have HK : Hid (wordS k ≠ [] → ∀ wz, TabN wz → Calls Tryd.prog 26 #[.string ⟨(wordS k).toArray⟩] wz fun e w' => e = .returned (.int .i64 k) ∧ wz = w') := by
    intro h wz ht
    have := nKind ⟨(wordS k).toArray⟩ wz ht
    rw [hsl, kind_word k h] at this
    exact this
  have HF := Lib.hid (fun wz => nFull ⟨l.toArray⟩ wz (by rw [hsz]; omega))
  have HS := Lib.hid (fun wz => nSpace ⟨l.toArray⟩ wz (by rw [hsz]; omega))
  have HL := Lib.hid (fun wz => nLast ⟨l.toArray⟩ wz (by rw [hsz]; omega))
  rw [hsl] at HF HS HL
  have hspl : (spaceS l).length ≤ l.length := by unfold spaceS; rw [List.length_take]; omega
  have hlal : (lastS l).length ≤ l.length := by unfold lastS; rw [List.length_drop]; omega
  have HJ := Lib.hid (fun wz (h : l.length ≤ 1000) => nJoin (spaceS l) (lastS l) wz (by omega))
  have HSL := Lib.hid (fun wz => nSimple ⟨(lastS l).toArray⟩ wz (by rw [hsz]; omega))
  have HFS := Lib.hid (fun wz => nFull ⟨(spaceS l).toArray⟩ wz (by rw [hsz]; omega))
  rw [hsl] at HSL HFS
  have HR := Lib.hid (fun wz g (h : l.length ≤ 1000) (h2 : ar.length ≤ 1000) => nResolve l ar ar g wz (by omega) (by omega))
  have HP := Lib.hid (full_parts (l := l))
  have ell : (l == l) = true := beq_self_eq_true _
  have ekk : (k == k) = true := beq_self_eq_true _
  have hwl : Hid (∀ g : Bool, (if g = true then ar else ar) = ar) := by intro g; cases g <;> rfl
  clear hspl hlal hsl
  generalize spaceS l = sp at HS HJ HFS HP
  generalize lastS l = la at HL HJ HSL HP
  generalize wordS k = wk at HW HK
  obtain ⟨b, hrem⟩ : ∃ b : Bool, ((ar.length : Int) % 2 == 0) = b := ⟨_, rfl⟩
  have HREM := Lib.hid hrem
  clear hrem
  have hcase : (l.length > 1000) ∨ (l.length ≤ 1000 ∧ ar.length > 1000) ∨ (l.length ≤ 1000 ∧ ar.length ≤ 1000 ∧ FullS l = false) ∨ (l.length ≤ 1000 ∧ ar.length ≤ 1000 ∧ FullS l = true ∧ sp = []) ∨ (l.length ≤ 1000 ∧ ar.length ≤ 1000 ∧ FullS l = true ∧ sp ≠ []) := by
    by_cases h1 : l.length > 1000
    · exact .inl h1
    · by_cases h2 : ar.length > 1000
      · exact .inr (.inl ⟨by omega, h2⟩)
      · cases h3 : FullS l
        · exact .inr (.inr (.inl ⟨by omega, by omega, rfl⟩))
        · by_cases h4 : sp = []
          · exact .inr (.inr (.inr (.inl ⟨by omega, by omega, rfl, h4⟩)))
          · exact .inr (.inr (.inr (.inr ⟨by omega, by omega, rfl, h4⟩)))
  have HKK : Hid (wk ≠ [] → ∀ wz, TabN wz → Calls Tryd.prog 26 #[.string ⟨wk.toArray⟩] wz fun e w' => e = .returned (.int .i64 k) ∧ wz = w') := HK
  clear HK
  have HCASE := Lib.hid hcase
  clear hcase
  have hor : (wk == []) = true ∨ ((wk == []) = false ∧ Hid (∀ wz, TabN wz → Calls Tryd.prog 26 #[.string ⟨wk.toArray⟩] wz fun e w' => e = .returned (.int .i64 k) ∧ wz = w')) := by
    cases hwk : (wk == [])
    · exact .inr ⟨rfl, HKK.out (by simpa using hwk)⟩
    · exact .inl rfl
  clear HKK
  rcases hor with hwk | ⟨hwk, HK2⟩
  all_goals
    rcases HCASE.out with h1 | ⟨h1, h2⟩ | ⟨h1, h2, h3⟩ | ⟨h1, h2, h3, h4⟩ | ⟨h1, h2, h3, h4⟩
    all_goals clear HCASE
    · go_enter Tryd.func6, Tryd.ntmps6
      go_wp2_with fail
      refine (works09 _ ht).mono ?_
      rintro e w1 ⟨rfl, hb⟩
      have ht1 := ht.below hb
      go_wp2_with fail
      refine (HW.out _ ht1).mono ?_
      rintro e w2 ⟨rfl, rfl⟩
      go_wp2_with fail
      try (refine (HK2.out _ ht1).mono ?_; rintro e w2 ⟨rfl, rfl⟩; go_wp2_with fail)
      go_ret
      exact ⟨rfl, hb⟩
    · go_enter Tryd.func6, Tryd.ntmps6
      go_wp2_with fail
      refine (works09 _ ht).mono ?_
      rintro e w1 ⟨rfl, hb⟩
      have ht1 := ht.below hb
      go_wp2_with fail
      refine (HW.out _ ht1).mono ?_
      rintro e w2 ⟨rfl, rfl⟩
      go_wp2_with fail
      try (refine (HK2.out _ ht1).mono ?_; rintro e w2 ⟨rfl, rfl⟩; go_wp2_with fail)
      go_ret
      exact ⟨rfl, hb⟩
    · rw [h3] at HF
      clear h3
      go_enter Tryd.func6, Tryd.ntmps6
      go_wp2_with fail
      refine (works09 _ ht).mono ?_
      rintro e w1 ⟨rfl, hb⟩
      have ht1 := ht.below hb
      go_wp2_with fail
      refine (HW.out _ ht1).mono ?_
      rintro e w2 ⟨rfl, rfl⟩
      go_wp2_with fail
      try (refine (HK2.out _ ht1).mono ?_; rintro e w2 ⟨rfl, rfl⟩; go_wp2_with fail)
      refine (HF.out _).mono ?_
      rintro e w2 ⟨rfl, hb2⟩
      go_wp2_with fail
      go_ret
      exact ⟨rfl, hb.trans (hb2.mono hb.size)⟩
    · obtain ⟨p1, p2, p3, p4⟩ := HP.out h3
      rw [h3] at HF
      rw [p1] at HJ
      rw [p2] at HSL
      subst h4
      clear h3 p1 p2 p3 p4 HP
      go_enter Tryd.func6, Tryd.ntmps6
      go_wp2_with fail
      refine (works09 _ ht).mono ?_
      rintro e w1 ⟨rfl, hb⟩
      have ht1 := ht.below hb
      go_wp2_with fail
      refine (HW.out _ ht1).mono ?_
      rintro e w2 ⟨rfl, rfl⟩
      go_wp2_with fail
      try (refine (HK2.out _ ht1).mono ?_; rintro e w2 ⟨rfl, rfl⟩; go_wp2_with fail)
      refine (HF.out _).mono ?_
      rintro e w2 ⟨rfl, hb2⟩
      have hb3 := hb.trans (hb2.mono hb.size)
      go_wp2_with fail
      refine (HS.out _).mono ?_
      rintro e w3 ⟨rfl, rfl⟩
      go_wp2_with fail
      refine (HL.out _).mono ?_
      rintro e w3 ⟨rfl, rfl⟩
      go_wp2_with fail
      refine (HJ.out _ h1).mono ?_
      rintro e w3 ⟨rfl, hb4⟩
      have hb5 := hb3.trans (hb4.mono hb3.size)
      go_wp2_with fail
      refine (HL.out _).mono ?_
      rintro e w4 ⟨rfl, rfl⟩
      go_wp2_with fail
      refine (HSL.out _).mono ?_
      rintro e w4 ⟨rfl, rfl⟩
      go_wp2_with fail
      refine (HS.out _).mono ?_
      rintro e w4 ⟨rfl, rfl⟩
      go_wp2_with fail
      refine (HS.out _).mono ?_
      rintro e w4 ⟨rfl, rfl⟩
      go_wp2_with fail
      go_ret
      exact ⟨rfl, hb5⟩
    · obtain ⟨p1, p2, p3, p4⟩ := HP.out h3
      have HR2 := Lib.hid (fun wz => HR.out wz b h1 h2)
      rw [hwl.out, p4 h4] at HR2
      have hsp : (sp == []) = false := by simpa using h4
      rw [h3] at HF
      rw [p1] at HJ
      rw [p2] at HSL
      rw [p3 h4] at HFS
      clear h3 h4 p1 p2 p3 p4 HP HR hwl
      go_enter Tryd.func6, Tryd.ntmps6
      go_wp2_with fail
      refine (works09 _ ht).mono ?_
      rintro e w1 ⟨rfl, hb⟩
      have ht1 := ht.below hb
      go_wp2_with fail
      refine (HW.out _ ht1).mono ?_
      rintro e w2 ⟨rfl, rfl⟩
      go_wp2_with fail
      try (refine (HK2.out _ ht1).mono ?_; rintro e w2 ⟨rfl, rfl⟩; go_wp2_with fail)
      refine (HF.out _).mono ?_
      rintro e w2 ⟨rfl, hb2⟩
      have hb3 := hb.trans (hb2.mono hb.size)
      go_wp2_with fail
      refine (HS.out _).mono ?_
      rintro e w3 ⟨rfl, rfl⟩
      go_wp2_with fail
      refine (HL.out _).mono ?_
      rintro e w3 ⟨rfl, rfl⟩
      go_wp2_with fail
      refine (HJ.out _ h1).mono ?_
      rintro e w3 ⟨rfl, hb4⟩
      have hb5 := hb3.trans (hb4.mono hb3.size)
      go_wp2_with fail
      refine (HL.out _).mono ?_
      rintro e w4 ⟨rfl, rfl⟩
      go_wp2_with fail
      refine (HSL.out _).mono ?_
      rintro e w4 ⟨rfl, rfl⟩
      go_wp2_with fail
      refine (HS.out _).mono ?_
      rintro e w4 ⟨rfl, rfl⟩
      go_wp2_with fail
      refine (HS.out _).mono ?_
      rintro e w4 ⟨rfl, rfl⟩
      go_wp2_with fail
      refine (HFS.out _).mono ?_
      rintro e w4 ⟨rfl, hb6⟩
      have hb7 := hb5.trans (hb6.mono hb5.size)
      go_wp2_with fail
      refine (HS.out _).mono ?_
      rintro e w4 ⟨rfl, rfl⟩
      go_wp2_with fail
      rw [HREM.out]
      refine (HR2.out _).mono ?_
      rintro e w5 ⟨rfl, hb8⟩
      have hb9 := hb7.trans (hb8.mono hb7.size)
      go_wp2_with fail
      go_ret
      exact ⟨rfl, hb9⟩
theorem parts_at (s t : ByteArray) (k : Int) (w : World) (ht : TabN w) (hs : s.size ≤ 9223372036854775807) (hr : t.size ≤ 9223372036854775807) :
    Calls Tryd.prog 6 #[.string s, .string t, .int .i64 k] w fun e w' => e = .returned (.bool true) ∧ Below w.heap.size w w' := by
  have := parts_walk s.data.toList t.data.toList k w ht (by rw [len_size]; exact hs) (by rw [len_size]; exact hr)
  rw [← str_of, ← str_of] at this
  exact this
end Go.Proofs.YtaelanpmgckfkaaRRRRDoor
