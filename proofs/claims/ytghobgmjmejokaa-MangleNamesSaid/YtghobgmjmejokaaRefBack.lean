/- The document's Back of layer 30. -/
import Derived.Test.YtghobgmjmejokaaRefName
namespace Go.Proofs.Ytghobgmjmejokaa
open Go.RowKit Go.Av

/-- The first byte, from k on, whose part l begins with. -/
def findFrom (l : List UInt8) (k : Nat) : Option Nat := (List.range' k (256 - k)).find? fun c => hasPre l (nameB (UInt8.ofNat c))
theorem findFrom_stop (l : List UInt8) : findFrom l 256 = none := rfl
theorem findFrom_hit (l : List UInt8) (k : Nat) (hk : k < 256) (h : hasPre l (nameB (UInt8.ofNat k)) = true) : findFrom l k = some k := by
  unfold findFrom
  obtain ⟨d, hd⟩ : ∃ d, 256 - k = d + 1 := ⟨256 - k - 1, by omega⟩
  rw [hd, List.range'_succ, List.find?_cons_of_pos (by exact h)]
theorem findFrom_next (l : List UInt8) (k : Nat) (hk : k < 256) (h : ¬ hasPre l (nameB (UInt8.ofNat k)) = true) : findFrom l k = findFrom l (k + 1) := by
  unfold findFrom
  obtain ⟨d, hd⟩ : ∃ d, 256 - k = d + 1 := ⟨256 - k - 1, by omega⟩
  rw [hd, List.range'_succ, List.find?_cons_of_neg (by exact h), show 256 - (k + 1) = d by omega]

/-- No part begins another one; and 'one' tells the byte whose part stands there. -/
theorem pre_iff (l p : List UInt8) : hasPre l p = true ↔ p <+: l := List.isPrefixOf_iff_prefix

theorem drop_ne (s : ByteArray) (k : Nat) (h : k < s.size) : s.data.toList.drop k ≠ [] := by
  intro e
  have := List.drop_eq_nil_iff.1 e
  simp at this
  omega
theorem pre_at (s : ByteArray) (k : Nat) (p : List UInt8) : ((s.extract k (k + p.length)).toList == p) = hasPre (s.data.toList.drop k) p := by
  rw [ByteArray.toList_eq, Bool.eq_iff_iff, beq_iff_eq, pre_iff, List.prefix_iff_eq_take]
  simp only [ByteArray.data_extract, Array.toList_extract, List.extract_eq_take_drop]
  rw [show k + p.length - k = p.length by omega]
  exact eq_comm
theorem pre_long (s : ByteArray) (k : Nat) (p : List UInt8) (hk : k < s.size) (h : ¬ k + p.length ≤ s.size) : ¬ hasPre (s.data.toList.drop k) p = true := by
  rw [pre_iff]
  intro e
  have := e.length_le
  simp at this
  omega

theorem hexI_hexB : ∀ x : Nat, x < 16 → hexI (hexB x) = (x : Int) := by decide
theorem hexB_hexI' : ∀ n : Nat, n < 256 → 0 ≤ hexI (UInt8.ofNat n) → hexB (hexI (UInt8.ofNat n)).toNat = UInt8.ofNat n := by decide +kernel
theorem hexB_hexI (a : UInt8) (h : 0 ≤ hexI a) : hexB (hexI a).toNat = a := by
  have e : UInt8.ofNat a.toNat = a := by simp
  have := hexB_hexI' a.toNat a.toNat_lt
  rw [e] at this
  exact this h
theorem pre2 (l : List UInt8) (a b : UInt8) : hasPre l [a, b] = true ↔ ∃ r, l = a :: b :: r := by
  rw [pre_iff]
  constructor
  · rintro ⟨r, rfl⟩; exact ⟨r, rfl⟩
  · rintro ⟨r, rfl⟩; exact ⟨r, rfl⟩
theorem u8_of {c : UInt8} {n : Nat} (h : c.toNat = n) : c = UInt8.ofNat n := by rw [← h]; simp

/-- Whose part stands there, is told. -/
theorem one_of_pre (l : List UInt8) (c : UInt8) (h : nameB c <+: l) : oneR l = (c, (nameB c).length) := by
  obtain ⟨r, rfl⟩ := h
  by_cases hp : plainB c = true
  · have e : nameB c = [c] := by unfold nameB; rw [if_pos hp]
    rw [e]
    unfold oneR
    simp [hp]
  · by_cases h95 : c.toNat = 95
    · have e : nameB c = [95, 95] := by unfold nameB; rw [if_neg hp, if_pos h95]
      have hc := u8_of h95
      rw [e, hc]
      show oneR (95 :: 95 :: r) = _
      unfold oneR
      rw [if_neg (by simp; decide), if_pos ((pre2 _ _ _).2 ⟨r, rfl⟩)]
      rfl
    · by_cases h46 : c.toNat = 46
      · have e : nameB c = [95, 111] := by unfold nameB; rw [if_neg hp, if_neg h95, if_pos h46]
        have hc := u8_of h46
        rw [e, hc]
        show oneR (95 :: 111 :: r) = _
        unfold oneR
        rw [if_neg (by simp; decide), if_neg (by rw [pre2]; rintro ⟨q, hq⟩; simp at hq), if_pos ((pre2 _ _ _).2 ⟨r, rfl⟩)]
        rfl
      · have e : nameB c = [95, 120, hexB (c.toNat / 16), hexB (c.toNat % 16)] := by unfold nameB; rw [if_neg hp, if_neg h95, if_neg h46]
        have hlt := c.toNat_lt
        rw [e]
        show oneR (95 :: 120 :: hexB (c.toNat / 16) :: hexB (c.toNat % 16) :: r) = _
        unfold oneR
        rw [if_neg (by simp; decide), if_neg (by rw [pre2]; rintro ⟨q, hq⟩; simp at hq), if_neg (by rw [pre2]; rintro ⟨q, hq⟩; simp at hq)]
        rw [if_neg (by rw [(pre2 _ _ _).2 ⟨hexB (c.toNat / 16) :: hexB (c.toNat % 16) :: r, rfl⟩]; simp)]
        simp only [List.getD_cons_succ, List.getD_cons_zero]
        rw [hexI_hexB _ (by omega), hexI_hexB _ (by omega)]
        unfold oneX
        rw [if_neg (by omega)]
        have hn : (((c.toNat / 16 : Nat) : Int)).toNat * 16 + (((c.toNat % 16 : Nat) : Int)).toNat = c.toNat := by
          rw [Int.toNat_natCast, Int.toNat_natCast]
          omega
        rw [hn]
        have ec : UInt8.ofNat c.toNat = c := by simp
        rw [ec, if_neg (by rintro (x | x | x); (· exact hp x); (· exact h95 x); exact h46 x)]
        rfl

/-- What is told, stands there. -/
theorem pre_of_one (l : List UInt8) (hl : l ≠ []) (h : (oneR l).2 ≠ 0) : nameB (oneR l).1 <+: l ∧ (oneR l).2 = (nameB (oneR l).1).length := by
  obtain ⟨x, r, rfl⟩ : ∃ x r, l = x :: r := by cases l with | nil => exact absurd rfl hl | cons x r => exact ⟨x, r, rfl⟩
  unfold oneR at h ⊢
  split
  · rename_i hp
    simp only [List.getD_cons_zero] at hp ⊢
    have e : nameB x = [x] := by unfold nameB; rw [if_pos hp]
    rw [e]
    exact ⟨⟨r, rfl⟩, rfl⟩
  · rename_i hp
    rw [if_neg hp] at h
    split
    · rename_i h1
      exact ⟨(pre_iff _ _).1 h1, rfl⟩
    · rename_i h1
      rw [if_neg h1] at h
      split
      · rename_i h2
        exact ⟨(pre_iff _ _).1 h2, rfl⟩
      · rename_i h2
        rw [if_neg h2] at h
        split
        · rename_i h3
          rw [if_pos h3] at h
          exact absurd rfl h
        · rename_i h3
          rw [if_neg h3] at h
          have h4 : hasPre (x :: r) [95, 120] = true := by
            cases hh : hasPre (x :: r) [95, 120]
            · exact absurd (Or.inl hh) h3
            · rfl
          obtain ⟨q, hq⟩ := (pre2 _ _ _).1 h4
          have hlen : ¬ (x :: r).length < 4 := fun hh => h3 (Or.inr hh)
          rw [hq] at h hlen ⊢
          obtain ⟨a, b, t, rfl⟩ : ∃ a b t, q = a :: b :: t := by
            match q, hlen with
            | [], hl => simp at hl
            | [_], hl => simp at hl
            | a :: b :: t, _ => exact ⟨a, b, t, rfl⟩
          simp only [List.getD_cons_succ, List.getD_cons_zero] at h ⊢
          have ba := hexI_bounds a
          have bb := hexI_bounds b
          have ra := hexB_hexI a
          have rb := hexB_hexI b
          generalize hexI a = u at h ba ra ⊢
          generalize hexI b = v at h bb rb ⊢
          unfold oneX at h ⊢
          split
          · rename_i hn; rw [if_pos hn] at h; exact absurd rfl h
          · rename_i hn
            rw [if_neg hn] at h
            split
            · rename_i hm; rw [if_pos hm] at h; exact absurd rfl h
            · rename_i hm
              have e0 : (UInt8.ofNat (u.toNat * 16 + v.toNat)).toNat = u.toNat * 16 + v.toNat := by simp; omega
              have e : nameB (UInt8.ofNat (u.toNat * 16 + v.toNat)) = [95, 120, a, b] := by
                unfold nameB
                rw [if_neg (fun hh => hm (Or.inl hh)), e0, if_neg (fun hh => hm (Or.inr (Or.inl hh))), if_neg (fun hh => hm (Or.inr (Or.inr hh)))]
                rw [show (u.toNat * 16 + v.toNat) / 16 = u.toNat by omega, show (u.toNat * 16 + v.toNat) % 16 = v.toNat by omega, ra (by omega), rb (by omega)]
              simp only [e]
              exact ⟨⟨t, rfl⟩, rfl⟩

theorem nameB_pos (c : UInt8) : 1 ≤ (nameB c).length := by
  unfold nameB
  split
  · simp
  · split
    · simp
    · split <;> simp

theorem find_one (l : List UInt8) (hl : l ≠ []) :
    ((oneR l).2 = 0 → findFrom l 0 = none) ∧ ((oneR l).2 ≠ 0 → findFrom l 0 = some (oneR l).1.toNat ∧ (oneR l).2 = (nameB (oneR l).1).length) := by
  have key : ∀ q, findFrom l 0 = some q → oneR l = (UInt8.ofNat q, (nameB (UInt8.ofNat q)).length) ∧ q < 256 := by
    intro q hq
    unfold findFrom at hq
    have hm := List.mem_of_find?_eq_some hq
    have hp := List.find?_some hq
    rw [pre_iff] at hp
    rw [List.mem_range'] at hm
    obtain ⟨i, hi, rfl⟩ := hm
    exact ⟨one_of_pre l _ hp, by omega⟩
  constructor
  · intro h
    cases hf : findFrom l 0 with
    | none => rfl
    | some q =>
      have h1 := (key q hf).1
      rw [h1] at h
      have := nameB_pos (UInt8.ofNat q)
      change (nameB (UInt8.ofNat q)).length = 0 at h
      omega
  · intro h
    obtain ⟨h1, h2⟩ := pre_of_one l hl h
    refine ⟨?_, h2⟩
    cases hf : findFrom l 0 with
    | none =>
      unfold findFrom at hf
      rw [List.find?_eq_none] at hf
      have := hf (oneR l).1.toNat (by rw [List.mem_range']; exact ⟨(oneR l).1.toNat, (oneR l).1.toNat_lt, by omega⟩)
      rw [pre_iff] at this
      simp at this
      exact absurd h1 this
    | some q =>
      obtain ⟨h3, h4⟩ := key q hf
      rw [h3]
      simp
      omega

set_option maxRecDepth 100000 in
set_option maxHeartbeats 400000 in
theorem rback_loop (s : ByteArray) (w : World) (hs : s.size ≤ 1099511627) (h0 : 0 < s.size) (hN : s[0].toNat = 78) :
    Calls Try.prog 6 #[.string s] w fun e w' => e = .returned (.tuple #[.string ⟨(backR s.data.toList).1.toArray⟩, .bool (backR s.data.toList).2]) ∧ Below w.heap.size w w' := by
  have hN' : ((s[0].toNat : Int) != 78) = false := by simp [hN]
  have hz : ((s.size : Int) == 0) = false := by rw [beq_eq_false_iff_ne]; omega
  have HB : Hid (backL s.data.toList = backB (s.data.toList.drop 1)) := by
    unfold Hid backL
    rw [if_neg]
    rintro (e | e)
    · exact ne_nil_of s h0 e
    · rw [getD_of s 0 h0] at e
      exact e (UInt8.toNat_inj.1 hN)
  clear hN
  go_enter Try.func6, Try.ntmps6
  go_wp2_with fail
  clear hN' hz
  go_loopw [4, 5] (fun i t wr => ∃ (k : Nat) (out : List UInt8), i = .int .i64 k ∧ 1 ≤ k ∧ k ≤ s.size ∧ t = .string ⟨out.toArray⟩ ∧ out.length ≤ k ∧ Hid (backL s.data.toList = (backB (s.data.toList.drop k)).map (out ++ ·)) ∧ Below w.heap.size w wr) (fun i _ _ => (s.size - intOf i).toNat)
  case atStart => exact ⟨1, [], rfl, by omega, by omega, rfl, by simp, Lib.hid (by rw [HB.out]; simp), Below.refl _ _⟩
  case round =>
    obtain ⟨k, out, rfl, hk1, hk, rfl, ho, HQ, hb⟩ := hrel
    have hbs := hb.size
    by_cases hlt : k < s.size
    · obtain ⟨wo, rfl⟩ : ∃ wo : World, wo = wr := ⟨_, rfl⟩
      go_wp2_with fail
      go_loopw [4, 5, 6, 7] (fun i t f c wr => ∃ m : Nat, c = .int .i64 m ∧ m ≤ 256 ∧ Below wo.heap.size wo wr ∧
          ((f = .bool false ∧ i = .int .i64 k ∧ t = .string ⟨out.toArray⟩ ∧ Hid (findFrom (s.data.toList.drop k) 0 = findFrom (s.data.toList.drop k) m)) ∨
           (f = .bool true ∧ ∃ q : Nat, q < 256 ∧ i = .int .i64 ((k + (nameB (UInt8.ofNat q)).length : Nat) : Int) ∧ t = .string ⟨(out ++ [UInt8.ofNat q]).toArray⟩ ∧ Hid (findFrom (s.data.toList.drop k) 0 = some q))))
        (fun _ _ _ c _ => (256 - intOf c).toNat)
      case atStart => exact ⟨0, rfl, by omega, Below.refl _ _, .inl ⟨rfl, rfl, rfl, Lib.hid rfl⟩⟩
      case round =>
        obtain ⟨m, rfl, hm, hbw, ⟨rfl, rfl, rfl, HF⟩ | ⟨rfl, q, hq, rfl, rfl, HF⟩⟩ := hrel
        · by_cases hm2 : m < 256
          · have hbyte := rByte (UInt8.ofNat m)
            have em : ((UInt8.ofNat m).toNat : Int) = (m : Int) := by simp; omega
            rw [em] at hbyte
            have hlen := nameB_length (UInt8.ofNat m)
            have hhit := findFrom_hit (s.data.toList.drop k) m hm2
            have hnext := findFrom_next (s.data.toList.drop k) m hm2
            have k1 := conv1 (UInt8.ofNat m)
            rw [em] at k1
            have hpre := pre_at s k (nameB (UInt8.ofNat m))
            have HP : Hid (nameB (UInt8.ofNat m) = nameB (UInt8.ofNat m)) := rfl
            generalize hp : nameB (UInt8.ofNat m) = p at hlen hhit hnext hpre hbyte HP
            have HPP := Lib.hid hp
            clear hp em
            have ho1 : out.length + 1 ≤ 9223372036854775807 := by omega
            by_cases hfit : k + p.length ≤ s.size
            · have hfit' : (k : Int) + (p.length : Int) ≤ s.size := by omega
              by_cases hh : hasPre (s.data.toList.drop k) p = true
              · rw [hh] at hpre
                have HH := Lib.hid (hhit hh)
                clear hhit hnext hh
                go_wp2_with (go_at_call 12; refine (hbyte _).mono ?_; rintro e w1 ⟨rfl, hb1⟩)
                exact ⟨⟨m + 1, by go_num, by omega, (hbw.trans (hb1.mono hbw.size)).alloc (hbw.trans (hb1.mono hbw.size)).size _, .inr ⟨rfl, m, hm2, by rw [HPP.out]; congr 1, by rw [← str_append], Lib.hid (by rw [HF.out, HH.out])⟩⟩, by simp [intOf]; omega⟩
              · rw [Bool.not_eq_true] at hh
                rw [hh] at hpre
                have HH := Lib.hid (hnext (by rw [hh]; exact Bool.false_ne_true))
                clear hhit hnext hh
                go_wp2_with (go_at_call 12; refine (hbyte _).mono ?_; rintro e w1 ⟨rfl, hb1⟩)
                exact ⟨⟨m + 1, by go_num, by omega, hbw.trans (hb1.mono hbw.size), .inl ⟨rfl, rfl, rfl, Lib.hid (by rw [HF.out, HH.out])⟩⟩, by simp [intOf]; omega⟩
            · have hfit' : ¬ (k : Int) + (p.length : Int) ≤ s.size := by omega
              have HH := Lib.hid (hnext (pre_long s k p hlt hfit))
              clear hhit hnext hpre hfit
              go_wp2_with (go_at_call 12; refine (hbyte _).mono ?_; rintro e w1 ⟨rfl, hb1⟩)
              exact ⟨⟨m + 1, by go_num, by omega, hbw.trans (hb1.mono hbw.size), .inl ⟨rfl, rfl, rfl, Lib.hid (by rw [HF.out, HH.out])⟩⟩, by simp [intOf]; omega⟩
          · have hn : findFrom (s.data.toList.drop k) 0 = none := by rw [HF.out, show m = 256 by omega]; rfl
            have e1 : backL s.data.toList = none := by
              have := (find_one (s.data.toList.drop k) (drop_ne s k hlt)).2
              by_cases h2 : (oneR (s.data.toList.drop k)).2 = 0
              · rw [HQ.out, backB_none _ (drop_ne s k hlt) h2]; rfl
              · have := (this h2).1
                rw [hn] at this
                cases this
            clear hn HF
            go_wp2_with fail
            go_ret2
            exact ⟨by rw [backR_of _ e1]; rfl, hb.trans (hbw.mono hbs)⟩
        · go_wp2_with fail
          all_goals
            have hfo := (find_one (s.data.toList.drop k) (drop_ne s k hlt))
            have h2 : (oneR (s.data.toList.drop k)).2 ≠ 0 := by
              intro e
              have := hfo.1 e
              rw [HF.out] at this
              cases this
            have h3 := hfo.2 h2
            have hqe : UInt8.ofNat q = (oneR (s.data.toList.drop k)).1 := by
              have := h3.1
              rw [HF.out] at this
              injection this with this
              rw [this]
              simp
            have hle := oneR_le (s.data.toList.drop k) (drop_ne s k hlt)
            have hdl : (s.data.toList.drop k).length = s.size - k := by simp
            have hnl : (nameB (UInt8.ofNat q)).length = (oneR (s.data.toList.drop k)).2 := by rw [hqe]; exact h3.2.symm
            have hb2 := hb.trans (hbw.mono hbs)
            have hlen1 : 1 ≤ (nameB (UInt8.ofNat q)).length := by omega
            have hlen2 : k + (nameB (UInt8.ofNat q)).length ≤ s.size := by omega
            refine ⟨⟨k + (nameB (UInt8.ofNat q)).length, out ++ [UInt8.ofNat q], by simp, by omega, hlen2, rfl, by simp; omega, Lib.hid ?_, hb2⟩, by simp [intOf]; omega⟩
            rw [HQ.out, backB_some _ (drop_ne s k hlt) h2, hnl, ← hqe, List.drop_drop]
            cases backB (s.data.toList.drop (k + (oneR (s.data.toList.drop k)).2)) <;> simp
    · have e1 : backL s.data.toList = some out := by
        have e : s.data.toList.drop k = [] := List.drop_eq_nil_of_le (by simp; omega)
        rw [HQ.out, e, backB_nil]
        simp
      go_wp2_with fail
      go_ret2
      exact ⟨by rw [backR_ok _ _ e1]; rfl, hb⟩

set_option maxRecDepth 100000 in
set_option maxHeartbeats 400000 in
theorem rBack (s : ByteArray) (w : World) (hs : s.size ≤ 1099511627) :
    Calls Try.prog 6 #[.string s] w fun e w' => e = .returned (.tuple #[.string ⟨(backR s.data.toList).1.toArray⟩, .bool (backR s.data.toList).2]) ∧ Below w.heap.size w w' := by
  by_cases h0 : 0 < s.size
  · by_cases hN : s[0].toNat = 78
    · exact rback_loop s w hs h0 hN
    · have hz : ((s.size : Int) == 0) = false := by rw [beq_eq_false_iff_ne]; omega
      rw [backR_of]
      · have hN' : ((s[0].toNat : Int) != 78) = true := by simp; omega
        clear hN
        go_enter Try.func6, Try.ntmps6
        go_wp2_with fail
        go_ret2
        exact ⟨rfl, Below.refl _ _⟩
      · unfold backL
        rw [if_pos]
        right
        rw [getD_of s 0 h0]
        intro e
        apply hN
        rw [e]
        rfl
  · have hq0 : s.data.toList = [] := nil_of s h0
    have hz : s.size = 0 := by omega
    rw [backR_of _ (by unfold backL; rw [if_pos (Or.inl hq0)])]
    clear hq0
    go_enter Try.func6, Try.ntmps6
    go_wp2_with fail
    go_ret2
    exact ⟨rfl, Below.refl _ _⟩
end Go.Proofs.Ytghobgmjmejokaa
