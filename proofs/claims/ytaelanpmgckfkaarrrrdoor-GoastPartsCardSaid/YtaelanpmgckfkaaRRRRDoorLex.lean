/- golex: what passes white, and runs of bytes. -/
import Derived.Test.YtaelanpmgckfkaaRRRRDoorStr
import Derived.Test.YtaelanpmgckfkaaRRRRDoorLexPlain
import Derived.BigQuiet
namespace Go.Proofs.YtaelanpmgckfkaaRRRRDoor
open Go.RowKit Go.Av

set_option maxRecDepth 100000 in
set_option maxHeartbeats 400000 in
theorem letter_at (c : UInt8) (x : Int) (hx : (c.toNat : Int) = x) (w : World) : Calls Tryd.prog 42 #[.int .u8 x] w fun e w' => e = .returned (.bool (letterB c)) ∧ w = w' := by
  have hc : x < 256 := by have := c.toNat_lt; omega
  have hr : letterB c = true ↔ (97 ≤ x ∧ x ≤ 122 ∨ 65 ≤ x ∧ x ≤ 90 ∨ x = 95) := by
    unfold letterB
    rw [decide_eq_true_iff]
    omega
  generalize letterB c = r at hr ⊢
  have h0 : 0 ≤ x := by omega
  clear hx
  by_cases h1 : 97 ≤ x <;> by_cases h2 : x ≤ 122 <;> by_cases h3 : 65 ≤ x <;> by_cases h4 : x ≤ 90 <;> by_cases h5 : x = 95 <;> first | omega | skip
  all_goals
    first | (have e5 : (x == 95) = true := by simpa using h5) | (have e5 : (x == 95) = false := by simpa using h5)
    cases r <;> simp [h1, h2, h3, h4, h5] at hr
    clear h5
    go_enter Tryd.func42, Tryd.ntmps42
    go_wp2_with fail
    go_ret
    exact ⟨rfl, rfl⟩

set_option maxRecDepth 100000 in
set_option maxHeartbeats 400000 in
theorem digit_at (c : UInt8) (x : Int) (hx : (c.toNat : Int) = x) (w : World) : Calls Tryd.prog 45 #[.int .u8 x] w fun e w' => e = .returned (.bool (digitB c)) ∧ w = w' := by
  have hc : x < 256 := by have := c.toNat_lt; omega
  have hr : digitB c = true ↔ (48 ≤ x ∧ x ≤ 57) := by
    unfold digitB
    rw [decide_eq_true_iff]
    omega
  generalize digitB c = r at hr ⊢
  have h0 : 0 ≤ x := by omega
  clear hx
  by_cases h1 : 48 ≤ x <;> by_cases h2 : x ≤ 57 <;> first | omega | skip
  all_goals
    cases r <;> simp [h1, h2] at hr
    go_enter Tryd.func45, Tryd.ntmps45
    go_wp2_with fail
    go_ret
    exact ⟨rfl, rfl⟩

def wordB (c : UInt8) : Bool := letterB c || digitB c
set_option maxRecDepth 100000 in
set_option maxHeartbeats 400000 in
theorem word_at (c : UInt8) (x : Int) (hx : (c.toNat : Int) = x) (w : World) : Calls Tryd.prog 44 #[.int .u8 x] w fun e w' => e = .returned (.bool (wordB c)) ∧ w = w' := by
  have hl := letter_at c x hx
  have hd := digit_at c x hx
  have hw : wordB c = (letterB c || digitB c) := rfl
  rw [hw]
  clear hw hx
  generalize letterB c = p at hl ⊢
  generalize digitB c = q at hd ⊢
  have HL := Lib.hid hl
  have HD := Lib.hid hd
  clear hl hd
  cases p
  · go_enter Tryd.func44, Tryd.ntmps44
    go_wp2_with fail
    refine (HL.out _).mono ?_
    rintro e w1 ⟨rfl, rfl⟩
    go_wp2_with fail
    refine (HD.out _).mono ?_
    rintro e w1 ⟨rfl, rfl⟩
    go_wp2_with fail
    go_ret
    exact ⟨by cases q <;> rfl, rfl⟩
  · go_enter Tryd.func44, Tryd.ntmps44
    go_wp2_with fail
    refine (HL.out _).mono ?_
    rintro e w1 ⟨rfl, rfl⟩
    go_wp2_with fail
    go_ret
    exact ⟨rfl, rfl⟩

set_option maxRecDepth 100000 in
set_option maxHeartbeats 400000 in
/-- golex.while, by any rule that is a function of the program. -/
theorem while_any (F : Nat) (p : UInt8 → Bool) (hE : ∀ args w, (callFunc F args).run Tryd.prog w = .ok (.enter F args) w) (hF : ∀ (c : UInt8) (w : World), Calls Tryd.prog F #[.int .u8 (c.toNat : Int)] w fun e w' => e = .returned (.bool (p c)) ∧ w = w')
    (B : Nat) (v : Value) (bs : List UInt8) (k0 : Nat) (w : World) (hv : RdB B w v bs) (hk : k0 ≤ bs.length) (hn : bs.length ≤ 9223372036854775807) :
    Calls Tryd.prog 43 #[v, .int .i64 (k0 : Int), .func (.func F) #[] #[]] w fun e w' => e = .returned (.int .i64 (runAt p bs k0 : Int)) ∧ w = w' := by
  have HF := Lib.hid hF
  clear hF
  rcases hv with ⟨rfl, rfl⟩ | ⟨g, off, cap, rfl, hg, hcap, hmax, hc⟩
  · have : k0 = 0 := by simpa using hk
    subst this
    go_enter Tryd.func43, Tryd.ntmps43
    go_wp2_with fail
    refine wp_loop_rounds 1 ?_
    rw [rounds_succ]
    go_wp2_with fail
    go_ret
    exact ⟨rfl, rfl⟩
  · have hi : ∀ k : Nat, k < bs.length → ∃ a, bs[k]? = some a ∧ w.cell? ⟨g, off + k, none⟩ = some (.int .u8 (a.toNat : Int)) := by
      intro k hk
      exact ⟨bs[k], List.getElem?_eq_getElem hk, hc k _ (bv_at (List.getElem?_eq_getElem hk))⟩
    have HI := Lib.hid hi
    clear hi hc
    go_enter Tryd.func43, Tryd.ntmps43
    go_wp2_with fail
    go_loop [1] (fun i => ∃ k : Nat, i = .int .i64 k ∧ k ≤ bs.length ∧ Hid (runAt p bs k0 = runAt p bs k)) (fun i => (bs.length - intOf i).toNat)
    case atStart => exact ⟨k0, rfl, hk, Lib.hid rfl⟩
    case round =>
      obtain ⟨k, rfl, hk, HR⟩ := hrel
      by_cases hlt : k < bs.length
      · obtain ⟨a, ha, hcell⟩ := HI.out k hlt
        have HA := Lib.hid ha
        clear ha
        have hFa := HF.out a
        have hlt' : (k : Int) < bs.length := by omega
        by_cases hp : p a = true
        · rw [hp] at hFa
          have HP := Lib.hid hp
          have HFA := Lib.hid hFa
          clear hp hFa
          go_wp2_with fail
          refine (HFA.out _).mono ?_
          rintro e w1 ⟨rfl, rfl⟩
          go_wp2_with fail
          go_round
          case rel => exact ⟨k + 1, by go_num, by omega, Lib.hid (by rw [HR.out, runAt_next p bs k a HA.out HP.out])⟩
          case measure => simp [intOf]; omega
        · rw [Bool.not_eq_true] at hp
          rw [hp] at hFa
          have HP := Lib.hid hp
          have HFA := Lib.hid hFa
          clear hp hFa
          go_wp2_with fail
          refine (HFA.out _).mono ?_
          rintro e w1 ⟨rfl, rfl⟩
          go_wp2_with fail
          go_ret
          exact ⟨by rw [HR.out, runAt_stop p bs k a HA.out (by rw [HP.out]; exact Bool.false_ne_true)]; rfl, rfl⟩
      · have hlt' : ¬ (k : Int) < bs.length := by omega
        go_wp2_with fail
        go_ret
        exact ⟨by rw [HR.out, runAt_end p bs k (by omega)]; rfl, rfl⟩
end Go.Proofs.YtaelanpmgckfkaaRRRRDoor
