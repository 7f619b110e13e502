/- The document's Byte, Name and Back of layer 30. -/
import Derived.Test.YtghobgmjmejokaaBack
namespace Go.Proofs.Ytghobgmjmejokaa
open Go.RowKit Go.Av

theorem str_append (l m : List UInt8) : (ByteArray.mk l.toArray) ++ (ByteArray.mk m.toArray) = ⟨(l ++ m).toArray⟩ := by
  apply ByteArray.ext
  simp

theorem conv2 (a b : UInt8) : ∀ (W : World) (g : Nat), W.cell? ⟨g, 0, none⟩ = some (.int .u8 (a.toNat : Int)) → W.cell? ⟨g, 1, none⟩ = some (.int .u8 (b.toNat : Int)) →
    (convert 29 9 (.slice (some ⟨g, 0, none⟩) 2 2)).run Try.prog W = .ok (.string ⟨#[a, b]⟩) W := by
  intro W g h0 h1
  exact run_string_of (P := Try.prog) 29 5 9 Try.underlying29 Try.underlying5 Try.underlying9 g 0 2 2 [a, b] rfl (by
    intro j u hu
    match j, hu with
    | 0, hu => simp [bv] at hu; subst hu; exact h0
    | 1, hu => simp [bv] at hu; subst hu; exact h1)
theorem conv1 (a : UInt8) : ∀ (W : World) (g : Nat), W.cell? ⟨g, 0, none⟩ = some (.int .u8 (a.toNat : Int)) →
    (convert 29 9 (.slice (some ⟨g, 0, none⟩) 1 1)).run Try.prog W = .ok (.string ⟨#[a]⟩) W := by
  intro W g h0
  exact run_string_of (P := Try.prog) 29 5 9 Try.underlying29 Try.underlying5 Try.underlying9 g 0 1 1 [a] rfl (by
    intro j u hu
    match j, hu with
    | 0, hu => simp [bv] at hu; subst hu; exact h0)

set_option maxRecDepth 100000 in
set_option maxHeartbeats 400000 in
theorem rByte_plain (c : UInt8) (w : World) (hp : plainB c = true) : Calls Try.prog 12 #[.int .u8 (c.toNat : Int)] w (Texts (nameB c) w) := by
  have hN : nameB c = [c] := by unfold nameB; rw [if_pos hp]
  rw [hN]
  have hc : (c.toNat : Int) < 256 := by have := c.toNat_lt; omega
  have hr : 48 ≤ (c.toNat : Int) ∧ (c.toNat : Int) ≤ 57 ∨ 65 ≤ (c.toNat : Int) ∧ (c.toNat : Int) ≤ 90 ∨ 97 ≤ (c.toNat : Int) ∧ (c.toNat : Int) ≤ 122 := by
    have := of_decide_eq_true hp
    omega
  have k1 := conv1 c
  clear hN hp
  rcases hr with ⟨h1, h2⟩ | ⟨h1, h2⟩ | ⟨h1, h2⟩
  all_goals
    go_enter Try.func12, Try.ntmps12
    go_wp2_with fail
    go_ret
    exact ⟨rfl, (Below.refl _ _).alloc (Nat.le_refl _) _⟩

set_option maxRecDepth 100000 in
set_option maxHeartbeats 400000 in
theorem rByte_other (c : UInt8) (w : World) (hp : ¬ plainB c = true) : Calls Try.prog 12 #[.int .u8 (c.toNat : Int)] w (Texts (nameB c) w) := by
  have hc : (c.toNat : Int) < 256 := by have := c.toNat_lt; omega
  have hr : ¬ (48 ≤ (c.toNat : Int) ∧ (c.toNat : Int) ≤ 57 ∨ 65 ≤ (c.toNat : Int) ∧ (c.toNat : Int) ≤ 90 ∨ 97 ≤ (c.toNat : Int) ∧ (c.toNat : Int) ≤ 122) := by
    intro h
    apply hp
    unfold plainB
    rw [decide_eq_true_iff]
    omega
  by_cases h95 : c.toNat = 95
  · have hN : nameB c = [95, 95] := by unfold nameB; rw [if_neg hp, if_pos h95]
    rw [hN]
    have e : (c.toNat : Int) = 95 := by omega
    rw [e]
    clear hN hr hc hp
    go_enter Try.func12, Try.ntmps12
    go_wp2_with fail
    go_ret
    exact ⟨rfl, Below.refl _ _⟩
  · by_cases h46 : c.toNat = 46
    · have hN : nameB c = [95, 111] := by unfold nameB; rw [if_neg hp, if_neg h95, if_pos h46]
      rw [hN]
      have e : (c.toNat : Int) = 46 := by omega
      rw [e]
      clear hN hr hc hp
      go_enter Try.func12, Try.ntmps12
      go_wp2_with fail
      go_ret
      exact ⟨rfl, Below.refl _ _⟩
    · have hN : nameB c = [95, 120, hexB (c.toNat / 16), hexB (c.toNat % 16)] := by unfold nameB; rw [if_neg hp, if_neg h95, if_neg h46]
      rw [hN]
      have i1 := index_hex (c.toNat / 16) (by omega)
      have i2 := index_hex (c.toNat % 16) (by omega)
      have e1 : ((c.toNat / 16 : Nat) : Int) = (c.toNat : Int) / 16 := by omega
      have e2 : ((c.toNat % 16 : Nat) : Int) = (c.toNat : Int) % 16 := by omega
      rw [e1] at i1
      rw [e2] at i2
      have k2 := conv2 (hexB (c.toNat / 16)) (hexB (c.toNat % 16))
      have h95' : ((c.toNat : Int) == 95) = false := by simp; omega
      have h46' : ((c.toNat : Int) == 46) = false := by simp; omega
      have hr' : (c.toNat : Int) < 48 ∨ 57 < (c.toNat : Int) ∧ (c.toNat : Int) < 65 ∨ 90 < (c.toNat : Int) ∧ (c.toNat : Int) < 97 ∨ 122 < (c.toNat : Int) := by omega
      clear hN hr hp e1 e2 h95 h46
      have t1 : IntKind.u8.wrap ((c.toNat : Int) / 16) = (c.toNat : Int) / 16 := by rw [IntKind.wrap_u8']; omega
      have t2 : (c.toNat : Int).tmod 16 = (c.toNat : Int) % 16 := Int.tmod_eq_emod_of_nonneg (by omega)
      rcases hr' with h | ⟨h, h'⟩ | ⟨h, h'⟩ | h
      all_goals
        go_enter Try.func12, Try.ntmps12
        go_wp2_with fail
        go_region_law (fail)
        all_goals
          clear i1 i2 k2 t1 t2
          go_wp2_with fail
          go_ret
          exact ⟨rfl, ((Below.refl _ _).alloc (Nat.le_refl _) _).drew⟩

theorem rByte (c : UInt8) (w : World) : Calls Try.prog 12 #[.int .u8 (c.toNat : Int)] w (Texts (nameB c) w) := by
  by_cases hp : plainB c = true
  · exact rByte_plain c w hp
  · exact rByte_other c w hp

set_option maxRecDepth 100000 in
set_option maxHeartbeats 400000 in
theorem rName (s : ByteArray) (w : World) (hs : s.size ≤ 1099511627) :
    Calls Try.prog 8 #[.string s] w (Texts (nameL s.data.toList) w) := by
  go_enter Try.func8, Try.ntmps8
  go_wp2_with fail
  go_loopw [3, 4] (fun t i wr => ∃ k : Nat, i = .int .i64 k ∧ k ≤ s.size ∧ t = .string ⟨(nameL (s.data.toList.take k)).toArray⟩ ∧ Below w.heap.size w wr) (fun _ i _ => (s.size - intOf i).toNat)
  case atStart => exact ⟨0, rfl, by omega, by simp [nameL], Below.refl _ _⟩
  case round =>
    obtain ⟨k, rfl, hk, rfl, hb⟩ := hrel
    by_cases hlt : k < s.size
    · have HT := Lib.hid (take_name s k hlt)
      have hL : (nameL (s.data.toList.take k)).length + (nameB s[k]).length ≤ 9223372036854775807 := by
        have h1 := nameL_length (s.data.toList.take k)
        have h2 := nameB_length s[k]
        have h3 : (s.data.toList.take k).length ≤ k := List.length_take_le _ _
        omega
      generalize nameL (s.data.toList.take k) = l at HT hL ⊢
      have hc := rByte s[k]
      generalize nameB s[k] = m at HT hc hL
      go_wp2_with (go_at_call 12; refine (hc _).mono ?_; rintro e w1 ⟨rfl, hb1⟩)
      go_roundw
      case rel => exact ⟨k + 1, by go_num, by omega, by rw [HT.out, str_append], hb.trans (hb1.mono hb.size)⟩
      case measure => simp [intOf]; omega
    · have e : s.data.toList.take k = s.data.toList := List.take_of_length_le (by simp; omega)
      rw [e]
      clear e
      go_wp2_with fail
      go_ret
      exact ⟨rfl, hb⟩
end Go.Proofs.Ytghobgmjmejokaa
