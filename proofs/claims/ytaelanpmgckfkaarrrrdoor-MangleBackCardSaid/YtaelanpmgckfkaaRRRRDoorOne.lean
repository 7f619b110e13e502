/- mangle.one: the byte that a name's text begins with. -/
import Derived.Test.YtaelanpmgckfkaaRRRRDoorStr
import Derived.Test.YtaelanpmgckfkaaRRRRDoorName
import Derived.Deep.QuietTactic
import Derived.BigQuiet
namespace Go.Proofs.YtaelanpmgckfkaaRRRRDoor
open Go.RowKit Go.Av

def hexL : List UInt8 := [48, 49, 50, 51, 52, 53, 54, 55, 56, 57, 97, 98, 99, 100, 101, 102]
/-- What a hexadecimal digit is worth; -1. -/
def hexI (c : UInt8) : Int := Lib.indexByte hexL c
/-- The byte of two hexadecimal digits, and how many bytes are taken; 0: none. -/
def oneX (h l : Int) : UInt8 × Nat :=
  if h < 0 ∨ l < 0 then (0, 0) else
    if plainB (UInt8.ofNat (h.toNat * 16 + l.toNat)) = true ∨ h.toNat * 16 + l.toNat = 95 ∨ h.toNat * 16 + l.toNat = 46 then (0, 0) else (UInt8.ofNat (h.toNat * 16 + l.toNat), 4)
/-- The byte that a name's text begins with, and how many bytes it takes; 0: none. -/
def oneR (l : List UInt8) : UInt8 × Nat :=
  if plainB (l.getD 0 0) = true then (l.getD 0 0, 1) else
  if hasPre l [95, 95] = true then (95, 2) else
  if hasPre l [95, 111] = true then (46, 2) else
  if hasPre l [95, 120] = false ∨ l.length < 4 then (0, 0) else oneX (hexI (l.getD 2 0)) (hexI (l.getD 3 0))

theorem indexByte_lt (c : UInt8) : ∀ l : List UInt8, Lib.indexByte l c < l.length ∧ -1 ≤ Lib.indexByte l c
  | [] => by simp [Lib.indexByte]
  | x :: xs => by
    have := indexByte_lt c xs
    simp only [Lib.indexByte, List.length_cons]
    split
    · omega
    · split <;> omega
theorem hexI_bounds (c : UInt8) : -1 ≤ hexI c ∧ hexI c ≤ 15 := by
  have := indexByte_lt c hexL
  unfold hexI
  have e : hexL.length = 16 := rfl
  omega

theorem or_hex : ∀ h : Nat, h < 16 → ∀ l : Nat, l < 16 → bits .or .i64 ((h : Int) * 16) (l : Int) = ((h * 16 + l : Nat) : Int) := by decide
theorem and_hex : ∀ l : Nat, l < 16 → bits .and .i64 (l : Int) 15 = (l : Int) := by decide

theorem size_pos_of (s : ByteArray) (h : s.data.toList ≠ []) : 0 < s.size := by
  have : s.data.toList.length = s.size := by simp
  cases hl : s.data.toList with
  | nil => exact absurd hl h
  | cons c r => rw [hl] at this; simp at this; omega
theorem getD_of (s : ByteArray) (k : Nat) (h : k < s.size) : s.data.toList.getD k 0 = s[k] := by
  simp [List.getD, h]
  rfl

theorem index_lit (s : ByteArray) (k : Nat) (h : k < s.size) (W : World) : (Instr.index 9 (.string s) (.int .i64 (k : Int))).run Tryd.prog W = .ok (.int .u8 (s[k].toNat : Int)) W := by
  have h' : (k : Int) < s.size := by omega
  simp [go_sem, h']
theorem below_drewN (w : World) (n : Nat) : Below w.heap.size w (w.drewN n) := ⟨rfl, rfl, rfl, Nat.le_refl _, fun _ _ => rfl⟩
theorem mplain_at (c : UInt8) (x : Int) (h : (c.toNat : Int) = x) (w : World) : Calls Tryd.prog 68 #[.int .u8 x] w fun e w' => e = .returned (.bool (plainB c)) ∧ w = w' := by
  subst h
  exact mplain c w
theorem idx_hex (c : UInt8) (w : World) : Calls Tryd.prog 58 #[.string ⟨#[48, 49, 50, 51, 52, 53, 54, 55, 56, 57, 97, 98, 99, 100, 101, 102]⟩, .int .u8 (c.toNat : Int)] w fun e w' => e = .returned (.int .i64 (hexI c)) ∧ w' = w :=
  (strings_IndexByte ⟨#[48, 49, 50, 51, 52, 53, 54, 55, 56, 57, 97, 98, 99, 100, 101, 102]⟩ c w).mono fun _ _ ⟨h, h'⟩ => ⟨h, h'.symm⟩

set_option maxRecDepth 100000 in
set_option maxHeartbeats 400000 in
theorem one_none (s : ByteArray) (w : World) (hs : 4 ≤ s.size) (c1 : ¬ plainB s[0] = true) (h l : Int) (hn : h < 0 ∨ l < 0) (b1 : -1 ≤ h ∧ h ≤ 15) (b2 : -1 ≤ l ∧ l ≤ 15)
    (q1 : ∀ w, Calls Tryd.prog 58 #[.string ⟨#[48, 49, 50, 51, 52, 53, 54, 55, 56, 57, 97, 98, 99, 100, 101, 102]⟩, .int .u8 (s[2].toNat : Int)] w fun e w' => e = .returned (.int .i64 h) ∧ w' = w)
    (q2 : ∀ w, Calls Tryd.prog 58 #[.string ⟨#[48, 49, 50, 51, 52, 53, 54, 55, 56, 57, 97, 98, 99, 100, 101, 102]⟩, .int .u8 (s[3].toNat : Int)] w fun e w' => e = .returned (.int .i64 l) ∧ w' = w)
    (p1 : Calls Tryd.prog 84 #[.string s, .string ⟨#[95, 95]⟩] w fun e w' => e = .returned (.bool false) ∧ w = w')
    (p2 : Calls Tryd.prog 84 #[.string s, .string ⟨#[95, 111]⟩] w fun e w' => e = .returned (.bool false) ∧ w = w')
    (p3 : Calls Tryd.prog 84 #[.string s, .string ⟨#[95, 120]⟩] w fun e w' => e = .returned (.bool true) ∧ w = w') :
    Calls Tryd.prog 67 #[.string s] w fun e w' => e = .returned (.tuple #[.int .u8 ((oneX h l).1.toNat : Int), .int .i64 ((oneX h l).2 : Int)]) ∧ Below w.heap.size w w' := by
  have i2 : ∀ W, (Instr.index 9 (.string s) (.int .i64 2)).run Tryd.prog W = .ok (.int .u8 (s[2].toNat : Int)) W := fun W => index_lit s 2 (by omega) W
  have i3 : ∀ W, (Instr.index 9 (.string s) (.int .i64 3)).run Tryd.prog W = .ok (.int .u8 (s[3].toNat : Int)) W := fun W => index_lit s 3 (by omega) W
  have hs0 : 0 < s.size := by omega
  have c6' : (4 : Int) ≤ s.size := by omega
  have Q1 := Lib.hid q1
  have Q2 := Lib.hid q2
  clear q1 q2
  rw [show oneX h l = (0, 0) by unfold oneX; rw [if_pos hn]]
  by_cases d1 : h < 0
  · clear hn
    go_enter Tryd.func67, Tryd.ntmps67
    go_wp2_with (go_at_call 68; refine (mplain _ _).mono ?_; rintro e w' ⟨rfl, rfl⟩)
    refine p1.mono ?_
    rintro e w' ⟨rfl, rfl⟩
    go_wp2_with fail
    refine p2.mono ?_
    rintro e w' ⟨rfl, rfl⟩
    go_wp2_with fail
    refine p3.mono ?_
    rintro e w' ⟨rfl, rfl⟩
    go_wp2_with fail
    go_quiet ((go_at_call 58; first | exact Calls.quiet_of_same (Q1.out _) | exact Calls.quiet_of_same (Q2.out _)))
    clear i2 i3
    go_wp2_with fail
    go_ret2
    exact ⟨rfl, below_drewN _ _⟩
  · have d2 : l < 0 := by omega
    clear hn
    go_enter Tryd.func67, Tryd.ntmps67
    go_wp2_with (go_at_call 68; refine (mplain _ _).mono ?_; rintro e w' ⟨rfl, rfl⟩)
    refine p1.mono ?_
    rintro e w' ⟨rfl, rfl⟩
    go_wp2_with fail
    refine p2.mono ?_
    rintro e w' ⟨rfl, rfl⟩
    go_wp2_with fail
    refine p3.mono ?_
    rintro e w' ⟨rfl, rfl⟩
    go_wp2_with fail
    go_quiet ((go_at_call 58; first | exact Calls.quiet_of_same (Q1.out _) | exact Calls.quiet_of_same (Q2.out _)))
    clear i2 i3
    go_wp2_with fail
    go_ret2
    exact ⟨rfl, below_drewN _ _⟩

set_option maxRecDepth 100000 in
set_option maxHeartbeats 400000 in
theorem one_some (s : ByteArray) (w : World) (hs : 4 ≤ s.size) (c1 : ¬ plainB s[0] = true) (h l : Int) (hn : 0 ≤ h) (ln : 0 ≤ l) (b1 : -1 ≤ h ∧ h ≤ 15) (b2 : -1 ≤ l ∧ l ≤ 15)
    (q1 : ∀ w, Calls Tryd.prog 58 #[.string ⟨#[48, 49, 50, 51, 52, 53, 54, 55, 56, 57, 97, 98, 99, 100, 101, 102]⟩, .int .u8 (s[2].toNat : Int)] w fun e w' => e = .returned (.int .i64 h) ∧ w' = w)
    (q2 : ∀ w, Calls Tryd.prog 58 #[.string ⟨#[48, 49, 50, 51, 52, 53, 54, 55, 56, 57, 97, 98, 99, 100, 101, 102]⟩, .int .u8 (s[3].toNat : Int)] w fun e w' => e = .returned (.int .i64 l) ∧ w' = w)
    (p1 : Calls Tryd.prog 84 #[.string s, .string ⟨#[95, 95]⟩] w fun e w' => e = .returned (.bool false) ∧ w = w')
    (p2 : Calls Tryd.prog 84 #[.string s, .string ⟨#[95, 111]⟩] w fun e w' => e = .returned (.bool false) ∧ w = w')
    (p3 : Calls Tryd.prog 84 #[.string s, .string ⟨#[95, 120]⟩] w fun e w' => e = .returned (.bool true) ∧ w = w') :
    Calls Tryd.prog 67 #[.string s] w fun e w' => e = .returned (.tuple #[.int .u8 ((oneX h l).1.toNat : Int), .int .i64 ((oneX h l).2 : Int)]) ∧ Below w.heap.size w w' := by
  have i2 : ∀ W, (Instr.index 9 (.string s) (.int .i64 2)).run Tryd.prog W = .ok (.int .u8 (s[2].toNat : Int)) W := fun W => index_lit s 2 (by omega) W
  have i3 : ∀ W, (Instr.index 9 (.string s) (.int .i64 3)).run Tryd.prog W = .ok (.int .u8 (s[3].toNat : Int)) W := fun W => index_lit s 3 (by omega) W
  have hs0 : 0 < s.size := by omega
  have c6' : (4 : Int) ≤ s.size := by omega
  have Q1 := Lib.hid q1
  have Q2 := Lib.hid q2
  clear q1 q2
  obtain ⟨h, rfl⟩ := Int.eq_ofNat_of_zero_le hn
  obtain ⟨l, rfl⟩ := Int.eq_ofNat_of_zero_le ln
  have ex : oneX h l = if plainB (UInt8.ofNat (h * 16 + l)) = true ∨ h * 16 + l = 95 ∨ h * 16 + l = 46 then (0, 0) else (UInt8.ofNat (h * 16 + l), 4) := by
    unfold oneX
    rw [if_neg (by omega)]
    rfl
  have x1 := or_hex h (by omega) l (by omega)
  have x2 := and_hex l (by omega)
  rw [Int.natCast_add, Int.natCast_mul] at x1
  have hx : ((UInt8.ofNat (h * 16 + l)).toNat : Int) = (h : Int) * 16 + (l : Int) := by
    simp
    omega
  generalize hc : UInt8.ofNat (h * 16 + l) = c at ex hx
  have HX := Lib.hid hx
  have HC := Lib.hid hc
  have HE := Lib.hid ex
  clear hx hc ex
  go_enter Tryd.func67, Tryd.ntmps67
  go_wp2_with (go_at_call 68; refine (mplain _ _).mono ?_; rintro e w' ⟨rfl, rfl⟩)
  refine p1.mono ?_
  rintro e w' ⟨rfl, rfl⟩
  go_wp2_with fail
  refine p2.mono ?_
  rintro e w' ⟨rfl, rfl⟩
  go_wp2_with fail
  refine p3.mono ?_
  rintro e w' ⟨rfl, rfl⟩
  go_wp2_with fail
  go_quiet ((go_at_call 58; first | exact Calls.quiet_of_same (Q1.out _) | exact Calls.quiet_of_same (Q2.out _)))
  clear i2 i3
  go_wp2_with fail
  refine (mplain_at c _ HX.out _).mono ?_
  rintro e w' ⟨rfl, rfl⟩
  by_cases px : plainB c = true
  · go_wp2_with fail
    go_ret2
    exact ⟨by rw [HE.out, if_pos (Or.inl px)]; rfl, below_drewN _ _⟩
  · by_cases x95 : h * 16 + l = 95
    · have e95 : ((h : Int) * 16 + (l : Int) == 95) = true := by simp; omega
      go_wp2_with fail
      go_ret2
      exact ⟨by rw [HE.out, if_pos (Or.inr (Or.inl x95))]; rfl, below_drewN _ _⟩
    · have e95 : ((h : Int) * 16 + (l : Int) == 95) = false := by simp; omega
      by_cases x46 : h * 16 + l = 46
      · have e46 : ((h : Int) * 16 + (l : Int) == 46) = true := by simp; omega
        go_wp2_with fail
        go_ret2
        exact ⟨by rw [HE.out, if_pos (Or.inr (Or.inr x46))]; rfl, below_drewN _ _⟩
      · have e46 : ((h : Int) * 16 + (l : Int) == 46) = false := by simp; omega
        go_wp2_with fail
        go_ret2
        have no : ¬ (plainB c = true ∨ h * 16 + l = 95 ∨ h * 16 + l = 46) := by rintro (x | x | x); (· exact px x); (· exact x95 x); exact x46 x
        exact ⟨by rw [HE.out, if_neg no]; simp only []; rw [HX.out]; rfl, below_drewN _ _⟩

theorem one_x (s : ByteArray) (w : World) (hs : 4 ≤ s.size) (c1 : ¬ plainB s[0] = true) (h l : Int) (b1 : -1 ≤ h ∧ h ≤ 15) (b2 : -1 ≤ l ∧ l ≤ 15)
    (q1 : ∀ w, Calls Tryd.prog 58 #[.string ⟨#[48, 49, 50, 51, 52, 53, 54, 55, 56, 57, 97, 98, 99, 100, 101, 102]⟩, .int .u8 (s[2].toNat : Int)] w fun e w' => e = .returned (.int .i64 h) ∧ w' = w)
    (q2 : ∀ w, Calls Tryd.prog 58 #[.string ⟨#[48, 49, 50, 51, 52, 53, 54, 55, 56, 57, 97, 98, 99, 100, 101, 102]⟩, .int .u8 (s[3].toNat : Int)] w fun e w' => e = .returned (.int .i64 l) ∧ w' = w)
    (p1 : Calls Tryd.prog 84 #[.string s, .string ⟨#[95, 95]⟩] w fun e w' => e = .returned (.bool false) ∧ w = w')
    (p2 : Calls Tryd.prog 84 #[.string s, .string ⟨#[95, 111]⟩] w fun e w' => e = .returned (.bool false) ∧ w = w')
    (p3 : Calls Tryd.prog 84 #[.string s, .string ⟨#[95, 120]⟩] w fun e w' => e = .returned (.bool true) ∧ w = w') :
    Calls Tryd.prog 67 #[.string s] w fun e w' => e = .returned (.tuple #[.int .u8 ((oneX h l).1.toNat : Int), .int .i64 ((oneX h l).2 : Int)]) ∧ Below w.heap.size w w' := by
  by_cases hn : h < 0 ∨ l < 0
  · exact one_none s w hs c1 h l hn b1 b2 q1 q2 p1 p2 p3
  · exact one_some s w hs c1 h l (by omega) (by omega) b1 b2 q1 q2 p1 p2 p3

set_option maxRecDepth 100000 in
set_option maxHeartbeats 400000 in
theorem mOne (s : ByteArray) (w : World) (hs : 0 < s.size) :
    Calls Tryd.prog 67 #[.string s] w fun e w' => e = .returned (.tuple #[.int .u8 ((oneR s.data.toList).1.toNat : Int), .int .i64 ((oneR s.data.toList).2 : Int)]) ∧ Below w.heap.size w w' := by
  have h0 := getD_of s 0 hs
  by_cases c1 : plainB s[0] = true
  · have e : oneR s.data.toList = (s[0], 1) := by unfold oneR; rw [h0, if_pos c1]
    rw [e]
    clear h0 e
    go_enter Tryd.func67, Tryd.ntmps67
    go_wp2_with (go_at_call 68; refine (mplain _ _).mono ?_; rintro e w' ⟨rfl, rfl⟩)
    go_ret2
    exact ⟨rfl, Below.refl _ _⟩
  · by_cases c2 : hasPre s.data.toList [95, 95] = true
    · have e : oneR s.data.toList = (95, 2) := by unfold oneR; rw [h0, if_neg c1, if_pos c2]
      rw [e]
      clear h0 e
      have p1 := strings_HasPrefix s ⟨#[95, 95]⟩ w
      rw [show hasPre s.data.toList (ByteArray.mk #[95, 95]).data.toList = true from c2] at p1
      go_enter Tryd.func67, Tryd.ntmps67
      go_wp2_with (first | (go_at_call 68; refine (mplain _ _).mono ?_; rintro e w' ⟨rfl, rfl⟩) | (go_at_call 84; refine p1.mono ?_; rintro e w' ⟨rfl, rfl⟩))
      go_ret2
      exact ⟨rfl, Below.refl _ _⟩
    · by_cases c3 : hasPre s.data.toList [95, 111] = true
      · have e : oneR s.data.toList = (46, 2) := by unfold oneR; rw [h0, if_neg c1, if_neg c2, if_pos c3]
        rw [e]
        clear h0 e
        have p1 := strings_HasPrefix s ⟨#[95, 95]⟩ w
        rw [show hasPre s.data.toList (ByteArray.mk #[95, 95]).data.toList = false from by simpa using c2] at p1
        have p2 := strings_HasPrefix s ⟨#[95, 111]⟩ w
        rw [show hasPre s.data.toList (ByteArray.mk #[95, 111]).data.toList = true from c3] at p2
        go_enter Tryd.func67, Tryd.ntmps67
        go_wp2_with (go_at_call 68; refine (mplain _ _).mono ?_; rintro e w' ⟨rfl, rfl⟩)
        refine p1.mono ?_
        rintro e w' ⟨rfl, rfl⟩
        go_wp2_with fail
        refine p2.mono ?_
        rintro e w' ⟨rfl, rfl⟩
        go_wp2_with fail
        go_ret2
        exact ⟨rfl, Below.refl _ _⟩
      · by_cases c4 : hasPre s.data.toList [95, 120] = false ∨ s.data.toList.length < 4
        · have e : oneR s.data.toList = (0, 0) := by unfold oneR; rw [h0, if_neg c1, if_neg c2, if_neg c3, if_pos c4]
          rw [e]
          clear h0 e
          have p1 := strings_HasPrefix s ⟨#[95, 95]⟩ w
          rw [show hasPre s.data.toList (ByteArray.mk #[95, 95]).data.toList = false from by simpa using c2] at p1
          have p2 := strings_HasPrefix s ⟨#[95, 111]⟩ w
          rw [show hasPre s.data.toList (ByteArray.mk #[95, 111]).data.toList = false from by simpa using c3] at p2
          have p3 := strings_HasPrefix s ⟨#[95, 120]⟩ w
          rw [show (ByteArray.mk #[95, 120]).data.toList = [95, 120] from rfl] at p3
          have c4' : hasPre s.data.toList [95, 120] = false ∨ s.size < 4 := by simpa using c4
          clear c4
          by_cases c5 : hasPre s.data.toList [95, 120] = true
          · have c6 : s.size < 4 := by rcases c4' with c | c; (· rw [c] at c5; cases c5); exact c
            rw [c5] at p3
            clear c4' c5
            go_enter Tryd.func67, Tryd.ntmps67
            go_wp2_with (go_at_call 68; refine (mplain _ _).mono ?_; rintro e w' ⟨rfl, rfl⟩)
            refine p1.mono ?_
            rintro e w' ⟨rfl, rfl⟩
            go_wp2_with fail
            refine p2.mono ?_
            rintro e w' ⟨rfl, rfl⟩
            go_wp2_with fail
            refine p3.mono ?_
            rintro e w' ⟨rfl, rfl⟩
            go_wp2_with fail
            go_ret2
            exact ⟨rfl, Below.refl _ _⟩
          · rw [Bool.not_eq_true] at c5
            rw [c5] at p3
            clear c4' c5
            go_enter Tryd.func67, Tryd.ntmps67
            go_wp2_with (go_at_call 68; refine (mplain _ _).mono ?_; rintro e w' ⟨rfl, rfl⟩)
            refine p1.mono ?_
            rintro e w' ⟨rfl, rfl⟩
            go_wp2_with fail
            refine p2.mono ?_
            rintro e w' ⟨rfl, rfl⟩
            go_wp2_with fail
            refine p3.mono ?_
            rintro e w' ⟨rfl, rfl⟩
            go_wp2_with fail
            go_ret2
            exact ⟨rfl, Below.refl _ _⟩
        · have c5 : hasPre s.data.toList [95, 120] = true := by cases h : hasPre s.data.toList [95, 120] <;> simp_all
          have c6 : 4 ≤ s.size := by have : s.data.toList.length = s.size := by simp
                                     omega
          have e : oneR s.data.toList = oneX (hexI s[2]) (hexI s[3]) := by
            unfold oneR
            rw [h0, if_neg c1, if_neg c2, if_neg c3, if_neg c4, getD_of s 2 (by omega), getD_of s 3 (by omega)]
          rw [e]
          have p1 := strings_HasPrefix s ⟨#[95, 95]⟩ w
          rw [show hasPre s.data.toList (ByteArray.mk #[95, 95]).data.toList = false from by simpa using c2] at p1
          have p2 := strings_HasPrefix s ⟨#[95, 111]⟩ w
          rw [show hasPre s.data.toList (ByteArray.mk #[95, 111]).data.toList = false from by simpa using c3] at p2
          have p3 := strings_HasPrefix s ⟨#[95, 120]⟩ w
          rw [show hasPre s.data.toList (ByteArray.mk #[95, 120]).data.toList = true from c5] at p3
          exact one_x s w (by omega) c1 (hexI s[2]) (hexI s[3]) (hexI_bounds _) (hexI_bounds _) (idx_hex s[2]) (idx_hex s[3]) p1 p2 p3
end Go.Proofs.YtaelanpmgckfkaaRRRRDoor
