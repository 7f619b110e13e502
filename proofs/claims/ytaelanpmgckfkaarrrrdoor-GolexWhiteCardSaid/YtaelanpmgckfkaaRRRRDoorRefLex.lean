/- The document's Letter, Digit, has and sign. -/
import Derived.Test.YtaelanpmgckfkaaRRRRDoorAll
import Derived.BigRegion
namespace Go.Proofs.YtaelanpmgckfkaaRRRRDoor
open Go.RowKit Go.Av

set_option maxRecDepth 100000 in
set_option maxHeartbeats 400000 in
theorem rfLetter (c : UInt8) (x : Int) (hx : (c.toNat : Int) = x) (w : World) : Calls Tryd.prog 49 #[.int .u8 x] w fun e w' => e = .returned (.bool (letterB c)) ∧ w = w' := by
  have hc : x < 256 := by have := c.toNat_lt; omega
  have hr : letterB c = true ↔ (97 ≤ x ∧ x ≤ 122 ∨ 65 ≤ x ∧ x ≤ 90 ∨ x = 95) := by
    unfold letterB
    rw [decide_eq_true_iff]
    omega
  generalize letterB c = r at hr ⊢
  have h0 : 0 ≤ x := by omega
  clear hx
  by_cases h1 : 97 ≤ x <;> by_cases h2 : x ≤ 122 <;> by_cases h3 : 65 ≤ x <;> by_cases h4 : x ≤ 90 <;> by_cases h5 : x = 95 <;> first | omega | skip
  all_goals
    first | (have e5 : (x == 95) = true := by simpa using h5) | (have e5 : (x == 95) = false := by simpa using h5)
    cases r <;> simp [h1, h2, h3, h4, h5] at hr
    go_enter Tryd.func49, Tryd.ntmps49
    go_wp2_with fail
    go_ret
    exact ⟨rfl, rfl⟩
set_option maxRecDepth 100000 in
set_option maxHeartbeats 400000 in
theorem rfDigit (c : UInt8) (x : Int) (hx : (c.toNat : Int) = x) (w : World) : Calls Tryd.prog 50 #[.int .u8 x] w fun e w' => e = .returned (.bool (digitB c)) ∧ w = w' := by
  have hc : x < 256 := by have := c.toNat_lt; omega
  have hr : digitB c = true ↔ (48 ≤ x ∧ x ≤ 57) := by
    unfold digitB
    rw [decide_eq_true_iff]
    omega
  generalize digitB c = r at hr ⊢
  have h0 : 0 ≤ x := by omega
  clear hx
  by_cases h1 : 48 ≤ x <;> by_cases h2 : x ≤ 57 <;> first | omega | skip
  all_goals
    cases r <;> simp [h1, h2] at hr
    go_enter Tryd.func50, Tryd.ntmps50
    go_wp2_with fail
    go_ret
    exact ⟨rfl, rfl⟩


set_option maxRecDepth 100000 in
set_option maxHeartbeats 400000 in
theorem rfHas (g off cap : Nat) (bs : List UInt8) (k : Nat) (q : List UInt8) (w : World) (hcap : bs.length ≤ cap) (hmax : cap ≤ 9223372036854775807) (hk : k ≤ bs.length) (hlen : bs.length ≤ 1099511627) (hq : q.length ≤ 2) (hq1 : 1 ≤ q.length)
    (hc : ∀ j u, (bv bs)[j]? = some u → w.cell? ⟨g, off + j, none⟩ = some u) :
    Calls Tryd.prog 48 #[.slice (some ⟨g, off, none⟩) bs.length cap, .int .i64 (k : Int), .string ⟨q.toArray⟩] w fun e w' => e = .returned (.bool (hasPre (bs.drop k) q)) ∧ w = w' := by
  by_cases h : k + q.length ≤ bs.length
  · have hcv : (convert 22 9 (.slice (some ⟨g, off + k, none⟩) q.length (cap - k))).run Tryd.prog w = .ok (.string ⟨((bs.drop k).take q.length).toArray⟩) w := by
      refine conv_cells g (off + k) (cap - k) q.length _ w (by rw [List.length_take, List.length_drop]; omega) ?_
      intro j u hu
      have := hc (k + j) u (by
        unfold bv at hu ⊢
        rw [List.map_take, List.map_drop, List.getElem?_take] at hu
        split at hu
        · rw [List.getElem?_drop] at hu; exact hu
        · cases hu)
      rw [show off + k + j = off + (k + j) by omega]
      exact this
    have hb := take_beq (bs.drop k) q
    generalize hasPre (bs.drop k) q = r at hb ⊢
    generalize (bs.drop k).take q.length = tx at hb hcv
    have h1 : (k : Int) + q.length ≤ bs.length := by omega
    have h2 : (k : Int) + q.length ≤ cap := by omega
    have h3 : k + q.length ≤ cap := by omega
    clear hc
    go_enter Tryd.func48, Tryd.ntmps48
    go_wp2_with fail
    go_ret
    exact ⟨rfl, rfl⟩
  · have hr : hasPre (bs.drop k) q = false := by
      unfold hasPre
      rw [Bool.eq_false_iff]
      intro e
      have := (List.isPrefixOf_iff_prefix.1 e).length_le
      rw [List.length_drop] at this
      omega
    rw [hr]
    have h1 : ¬ (k : Int) + q.length ≤ bs.length := by omega
    clear hc hr
    go_enter Tryd.func48, Tryd.ntmps48
    go_wp2_with fail
    go_ret
    exact ⟨rfl, rfl⟩

def signLen (l : List UInt8) : Nat := match signAt l with | some s => s.length | none => 0
theorem signLen_some {l : List UInt8} {q : List UInt8} (h : signFrom l 0 = some q) : signLen l = q.length := by
  unfold signLen
  rw [show signAt l = some q from h]
theorem signLen_none {l : List UInt8} (h : signFrom l 0 = none) : signLen l = 0 := by
  unfold signLen
  rw [show signAt l = none from h]
def oneL : List UInt8 := [40, 41, 123, 125, 91, 93, 44, 46, 58, 61, 60, 62, 43, 45, 42, 47, 37, 38, 124, 94, 33]
theorem two_len (m : Nat) (h : m < 8) : (signsL.getD m []).length = 2 := by
  have : m = 0 ∨ m = 1 ∨ m = 2 ∨ m = 3 ∨ m = 4 ∨ m = 5 ∨ m = 6 ∨ m = 7 := by omega
  rcases this with rfl | rfl | rfl | rfl | rfl | rfl | rfl | rfl <;> rfl
theorem one_at : ∀ m : Nat, m < 21 → signsL.getD (8 + m) [] = [oneL.getD m 0] := by decide
theorem idx_one : ∀ m : Nat, m < 21 → ∀ W, (Instr.index 9 (.string ⟨#[40, 41, 123, 125, 91, 93, 44, 46, 58, 61, 60, 62, 43, 45, 42, 47, 37, 38, 124, 94, 33]⟩) (.int .i64 (m : Int))).run Tryd.prog W = .ok (.int .u8 ((oneL.getD m 0).toNat : Int)) W := by
  intro m hm W
  have : m = 0 ∨ m = 1 ∨ m = 2 ∨ m = 3 ∨ m = 4 ∨ m = 5 ∨ m = 6 ∨ m = 7 ∨ m = 8 ∨ m = 9 ∨ m = 10 ∨ m = 11 ∨ m = 12 ∨ m = 13 ∨ m = 14 ∨ m = 15 ∨ m = 16 ∨ m = 17 ∨ m = 18 ∨ m = 19 ∨ m = 20 := by omega
  rcases this with rfl | rfl | rfl | rfl | rfl | rfl | rfl | rfl | rfl | rfl | rfl | rfl | rfl | rfl | rfl | rfl | rfl | rfl | rfl | rfl | rfl
  all_goals
    show _ = _
    kernel_rfl
theorem pre_one (c d : UInt8) (r : List UInt8) : hasPre (c :: r) [d] = decide (d.toNat = c.toNat) := by
  unfold hasPre
  rw [Bool.eq_iff_iff, decide_eq_true_iff, List.isPrefixOf_iff_prefix]
  constructor
  · rintro ⟨t, h⟩
    simp at h
    rw [h.1]
  · intro h
    have : d = c := UInt8.toNat.inj h
    subst this
    exact ⟨r, rfl⟩
def twoV : List Value := [.string ⟨#[38, 38]⟩, .string ⟨#[124, 124]⟩, .string ⟨#[61, 61]⟩, .string ⟨#[33, 61]⟩, .string ⟨#[60, 61]⟩, .string ⟨#[62, 61]⟩, .string ⟨#[60, 60]⟩, .string ⟨#[62, 62]⟩]
theorem twoV_at (m : Nat) (h : m < 8) : twoV[m]? = some (.string ⟨(signsL.getD m []).toArray⟩) := by
  have : m = 0 ∨ m = 1 ∨ m = 2 ∨ m = 3 ∨ m = 4 ∨ m = 5 ∨ m = 6 ∨ m = 7 := by omega
  rcases this with rfl | rfl | rfl | rfl | rfl | rfl | rfl | rfl <;> rfl

set_option maxRecDepth 100000 in
set_option maxHeartbeats 1000000 in
theorem rfSign (g off cap : Nat) (bs : List UInt8) (k : Nat) (w : World) (hg : g < w.heap.size) (hcap : bs.length ≤ cap) (hmax : cap ≤ 9223372036854775807) (hk : k < bs.length) (hlen : bs.length ≤ 1099511627)
    (hc : ∀ j u, (bv bs)[j]? = some u → w.cell? ⟨g, off + j, none⟩ = some u) :
    Calls Tryd.prog 51 #[.slice (some ⟨g, off, none⟩) bs.length cap, .int .i64 (k : Int)] w fun e w' => e = .returned (.int .i64 (signLen (bs.drop k) : Int)) ∧ Below w.heap.size w w' := by
  have hget : bs[k]? = some (bs.getD k 0) := by rw [List.getD_eq_getElem?_getD, List.getElem?_eq_getElem hk]; rfl
  have hd := drop_cons_of hget
  have hcK := hc k _ (bv_at hget)
  have HHAS := Lib.hid (fun q W hq1 hq2 hc => rfHas g off cap bs k q W hcap hmax (by omega) hlen hq2 hq1 hc)
  generalize bs.getD k 0 = c at *
  have HD := Lib.hid hd
  have HC := Lib.hid hc
  have HBK : Hid ((bv bs)[k]? = some (.int .u8 (c.toNat : Int))) := bv_at hget
  have HSOME : Hid (∀ q, signFrom (bs.drop k) 0 = some q → signLen (bs.drop k) = q.length) := fun q h => signLen_some h
  have HNONE : Hid (signFrom (bs.drop k) 0 = none → signLen (bs.drop k) = 0) := fun h => signLen_none h
  have HSTEP : Hid (∀ m, m < 29 → signFrom (bs.drop k) m = if hasPre (bs.drop k) (signsL.getD m []) = true then some (signsL.getD m []) else signFrom (bs.drop k) (m + 1)) := fun m hm => signFrom_step _ m hm
  have hpre1 : ∀ d : UInt8, hasPre (bs.drop k) [d] = decide (d.toNat = c.toNat) := fun d => by rw [hd]; exact pre_one c d _
  have HPRE := Lib.hid hpre1
  clear hd hc hget hpre1
  generalize bs.drop k = l at *
  have hkc : k < cap := by omega
  go_enter Tryd.func51, Tryd.ntmps51
  go_wp2_with fail
  obtain ⟨W, hW⟩ : ∃ W, W = w.alloc (Obj.cells #[.string ⟨#[38, 38]⟩, .string ⟨#[124, 124]⟩, .string ⟨#[61, 61]⟩, .string ⟨#[33, 61]⟩, .string ⟨#[60, 61]⟩, .string ⟨#[62, 61]⟩, .string ⟨#[60, 60]⟩, .string ⟨#[62, 62]⟩] 9) := ⟨_, rfl⟩
  rw [← hW]
  have hcw : ∀ j u, (bv bs)[j]? = some u → W.cell? ⟨g, off + j, none⟩ = some u := fun j u hu => by rw [hW, alloc_cell _ _ _ hg]; exact HC.out j u hu
  have hct : ∀ m : Nat, m < 8 → W.cell? ⟨w.heap.size, m, none⟩ = some (.string ⟨(signsL.getD m []).toArray⟩) := fun m hm => by
    have := news_lit w twoV 9 m _ (twoV_at m hm)
    rw [Nat.zero_add] at this
    rw [hW]
    exact this
  have hb0 : Below w.heap.size w W := by rw [hW]; exact (Below.refl _ _).alloc (Nat.le_refl _) _
  have HCW := Lib.hid hcw
  have HCT := Lib.hid hct
  clear hcw hct hW
  go_loop [6] (fun i => ∃ m : Nat, i = .int .i64 m ∧ m ≤ 8 ∧ Hid (signFrom l 0 = signFrom l m)) (fun i => (8 - intOf i).toNat)
  case atStart => exact ⟨0, rfl, by omega, Lib.hid rfl⟩
  case round =>
    obtain ⟨m, rfl, hm, HM⟩ := hrel
    by_cases hlt : m < 8
    · have hq2 := two_len m hlt
      have hst := HSTEP.out m (by omega)
      have hcm := HCT.out m hlt
      have hhas := HHAS.out (signsL.getD m []) W (by omega) (by omega) HCW.out
      have hsome := HSOME.out (signsL.getD m [])
      generalize signsL.getD m [] = q at hq2 hst hcm hhas hsome
      have HST := Lib.hid hst
      have HH := Lib.hid hhas
      have HSO := Lib.hid hsome
      have HQ2 := Lib.hid hq2
      clear hst hhas hsome hq2
      cases hv : hasPre l q
      · rw [hv] at HH HST
        have HN : Hid (signFrom l 0 = signFrom l (m + 1)) := by
          unfold Hid
          rw [HM.out, HST.out]
          rfl
        clear hv HST
        go_wp2_with fail
        refine HH.out.mono ?_
        rintro e' w3 ⟨rfl, rfl⟩
        go_wp2_with fail
        go_round
        case rel => exact ⟨m + 1, by go_num, by omega, HN⟩
        case measure => simp [intOf]; omega
      · rw [hv] at HH HST
        have hrs : Hid (signLen l = 2) := by
          unfold Hid
          rw [HSO.out (by rw [HM.out, HST.out]; rfl), HQ2.out]
        clear hv HST
        go_wp2_with fail
        refine HH.out.mono ?_
        rintro e' w3 ⟨rfl, rfl⟩
        go_wp2_with fail
        go_ret
        exact ⟨by rw [hrs.out]; first | done | rfl, hb0⟩
    · obtain rfl : m = 8 := by omega
      have HI := Lib.hid idx_one
      go_wp2_with fail
      go_loopw [8] (fun i wr => ∃ m : Nat, i = .int .i64 m ∧ m ≤ 21 ∧ Hid (signFrom l 0 = signFrom l (8 + m)) ∧ Below W.heap.size W wr) (fun i _ => (21 - intOf i).toNat)
      case atStart => exact ⟨0, rfl, by omega, HM, Below.refl _ _⟩
      case round =>
        obtain ⟨m, rfl, hm, HM2, hbr⟩ := hrel
        by_cases hlt2 : m < 21
        · have hone := one_at m hlt2
          have hst := HSTEP.out (8 + m) (by omega)
          have hsome := HSOME.out (signsL.getD (8 + m) [])
          rw [hone, HPRE.out] at hst
          rw [hone] at hsome
          have hix := HI.out m hlt2
          generalize oneL.getD m 0 = d at hone hst hsome hix
          have HST := Lib.hid hst
          have HSO := Lib.hid hsome
          have hW' : W.cell? ⟨g, off + k, none⟩ = some (.int .u8 (c.toNat : Int)) := HCW.out k _ HBK.out
          have hwr : wr.cell? ⟨g, off + k, none⟩ = some (.int .u8 (c.toNat : Int)) := by rw [hbr.cell (p := ⟨g, off + k, none⟩) (by have := hb0.size; show g < _; omega)]; exact hW'
          have hbw := hb0.trans (hbr.mono hb0.size)
          clear hst hsome hone hW'
          by_cases hcd : d.toNat = c.toNat
          · have e1 : ((d.toNat : Int) == (c.toNat : Int)) = true := beq_iff_eq.2 (by omega)
            have hrs : Hid (signLen l = 1) := by
              unfold Hid
              rw [HSO.out (by rw [HM2.out, HST.out, if_pos (decide_eq_true hcd)])]
              rfl
            clear HST HSO hcd
            go_wp2_with fail
            go_region
            go_wp2_with fail
            go_ret
            exact ⟨by rw [hrs.out]; first | done | rfl, hbw.drew⟩
          · have e1 : ((d.toNat : Int) == (c.toNat : Int)) = false := beq_eq_false_iff_ne.2 (by omega)
            have HN : Hid (signFrom l 0 = signFrom l (8 + (m + 1))) := by
              unfold Hid
              rw [HM2.out, HST.out, if_neg (by simpa using hcd)]
              rfl
            clear HST HSO hcd
            go_wp2_with fail
            go_region
            go_wp2_with fail
            go_roundw
            case rel => exact ⟨m + 1, by go_num, by omega, HN, hbr.drew⟩
            case measure => simp [intOf]; omega
        · obtain rfl : m = 21 := by omega
          have hrs : Hid (signLen l = 0) := by
            unfold Hid
            exact HNONE.out (by rw [HM2.out]; rfl)
          have hbw := hb0.trans (hbr.mono hb0.size)
          go_wp2_with fail
          go_ret
          exact ⟨by rw [hrs.out]; first | done | rfl, hbw⟩
end Go.Proofs.YtaelanpmgckfkaaRRRRDoor
