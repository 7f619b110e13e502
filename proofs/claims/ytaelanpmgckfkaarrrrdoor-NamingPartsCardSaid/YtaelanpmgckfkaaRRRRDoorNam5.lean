/- naming.Word, naming.Kind over the table. -/
import Derived.Test.YtaelanpmgckfkaaRRRRDoorNam4
namespace Go.Proofs.YtaelanpmgckfkaaRRRRDoor
open Go.RowKit Go.Av

def textsV (l : List (List UInt8)) : Array Value := (l.map fun s => Value.string ⟨s.toArray⟩).toArray
/-- The table of the kinds' words lies as the program's text lays it. -/
def TabN (w : World) : Prop := ∃ t fr, w.heap[2]? = some (.cells (textsV wordsN) t fr)
theorem TabN.size {w : World} (h : TabN w) : 2 < w.heap.size := by
  obtain ⟨t, fr, h1⟩ := h
  exact (Array.getElem?_eq_some_iff.1 h1).1
theorem TabN.below {w w' : World} (h : TabN w) (hb : Below w.heap.size w w') : TabN w' := by
  have hs := h.size
  obtain ⟨t, fr, h1⟩ := h
  exact ⟨t, fr, by rw [hb.block _ hs]; exact h1⟩
theorem TabN.cell {w : World} (h : TabN w) (k : Nat) (hk : k < 15) : w.cell? ⟨2, k, none⟩ = some (.string ⟨(wordsN.getD k []).toArray⟩) := by
  obtain ⟨t, fr, h1⟩ := h
  simp only [World.cell?, h1]
  have : k = 0 ∨ k = 1 ∨ k = 2 ∨ k = 3 ∨ k = 4 ∨ k = 5 ∨ k = 6 ∨ k = 7 ∨ k = 8 ∨ k = 9 ∨ k = 10 ∨ k = 11 ∨ k = 12 ∨ k = 13 ∨ k = 14 := by omega
  rcases this with rfl | rfl | rfl | rfl | rfl | rfl | rfl | rfl | rfl | rfl | rfl | rfl | rfl | rfl | rfl <;> rfl
theorem idx_words (k : Nat) (hk : k < 15) : ∀ W, (Instr.index 73 (.agg (textsV wordsN)) (.int .i64 (k : Int))).run Tryd.prog W = .ok (.string ⟨(wordsN.getD k []).toArray⟩) W := by
  intro W
  have : k = 0 ∨ k = 1 ∨ k = 2 ∨ k = 3 ∨ k = 4 ∨ k = 5 ∨ k = 6 ∨ k = 7 ∨ k = 8 ∨ k = 9 ∨ k = 10 ∨ k = 11 ∨ k = 12 ∨ k = 13 ∨ k = 14 := by omega
  rcases this with rfl | rfl | rfl | rfl | rfl | rfl | rfl | rfl | rfl | rfl | rfl | rfl | rfl | rfl | rfl
  all_goals
    show _ = _
    kernel_rfl

set_option maxRecDepth 100000 in
set_option maxHeartbeats 400000 in
theorem nWord (k : Int) (w : World) (ht : TabN w) : Calls Tryd.prog 28 #[.int .i64 k] w fun e w' => e = .returned (.string ⟨(wordS k).toArray⟩) ∧ w = w' := by
  by_cases h : 0 ≤ k ∧ k < 15
  · obtain ⟨n, rfl⟩ : ∃ n : Nat, k = n := ⟨k.toNat, by omega⟩
    have hn : n < 15 := by omega
    have hw : wordS (n : Int) = wordsN.getD n [] := by
      unfold wordS
      rw [if_pos h]
      simp
    have hc := ht.cell n hn
    rw [hw]
    clear hw ht h
    generalize wordsN.getD n [] = q at hc ⊢
    go_enter Tryd.func28, Tryd.ntmps28
    go_wp2_with fail
    go_ret
    exact ⟨rfl, rfl⟩
  · have hw : Hid (wordS k = []) := by
      unfold Hid wordS
      rw [if_neg h]
    rw [hw.out]
    clear hw ht
    by_cases h0 : k < 0
    · go_enter Tryd.func28, Tryd.ntmps28
      go_wp2_with fail
      go_ret
      exact ⟨rfl, rfl⟩
    · have h1 : k ≥ 15 := by omega
      go_enter Tryd.func28, Tryd.ntmps28
      go_wp2_with fail
      go_ret
      exact ⟨rfl, rfl⟩

set_option maxRecDepth 100000 in
set_option maxHeartbeats 400000 in
theorem nKind (s : ByteArray) (w : World) (ht : TabN w) : Calls Tryd.prog 26 #[.string s] w fun e w' => e = .returned (.int .i64 (kindS s.data.toList : Int)) ∧ w = w' := by
  obtain ⟨t, fr, hkeys⟩ := ht
  have HK := Lib.hid hkeys
  clear hkeys
  have hi := idx_words
  generalize hkv : textsV wordsN = kv at HK hi
  have hsz : (Tryd.prog.info? 73).map (·.size) = some kv.size := by rw [← hkv]; kernel_rfl
  have HS := Lib.hid hsz
  have HI := Lib.hid hi
  clear hkv hsz hi
  go_enter Tryd.func26, Tryd.ntmps26
  go_wp2_with (refine wpList_load_row rfl 73 _ rfl 2 rfl _ kv _ _ HK.out Tryd.underlying73 rfl HS.out ?_)
  go_loop [6] (fun i => ∃ k : Nat, i = .int .i64 k ∧ k ≤ 15 ∧ Hid (kindS s.data.toList = kindF s.data.toList (15 - k))) (fun i => (15 - intOf i).toNat)
  case atStart => exact ⟨0, rfl, by omega, Lib.hid rfl⟩
  case round =>
    obtain ⟨k, rfl, hk, HR⟩ := hrel
    by_cases hlt : k < 15
    · have hik := HI.out k hlt
      have hst := kindF_step s.data.toList k hlt
      rw [← HR.out] at hst
      generalize wordsN.getD k [] = q at hik hst
      have HST := Lib.hid hst
      clear hst HR
      by_cases hq : q = s.data.toList
      · have e : (q == s.toList) = true := by rw [ByteArray.toList_eq]; simpa using hq
        by_cases hn : s.data.toList = []
        · have en : (s.toList == []) = true := by rw [ByteArray.toList_eq]; simpa using hn
          have HG : Hid (kindS s.data.toList = kindF s.data.toList (15 - (k + 1))) := by
            unfold Hid
            rw [HST.out, if_neg (fun h => h.2 hn)]
          clear hq hn HST
          go_wp2_with fail
          go_round
          case rel => exact ⟨k + 1, by go_num, by omega, HG⟩
          case measure => simp [intOf]; omega
        · have en : (s.toList == []) = false := by rw [ByteArray.toList_eq]; simpa using hn
          have HG : Hid (kindS s.data.toList = k) := by
            unfold Hid
            rw [HST.out, if_pos ⟨hq, hn⟩]
          clear hq hn HST
          go_wp2_with fail
          go_ret
          exact ⟨by rw [HG.out]; first | done | rfl, rfl⟩
      · have e : (q == s.toList) = false := by rw [ByteArray.toList_eq]; simpa using hq
        have HG : Hid (kindS s.data.toList = kindF s.data.toList (15 - (k + 1))) := by
          unfold Hid
          rw [HST.out, if_neg (fun h => hq h.1)]
        clear hq HST
        go_wp2_with fail
        go_round
        case rel => exact ⟨k + 1, by go_num, by omega, HG⟩
        case measure => simp [intOf]; omega
    · have HE : Hid (kindS s.data.toList = 0) := by
        unfold Hid
        rw [HR.out, show 15 - k = 0 by omega]
        rfl
      clear HR
      go_wp2_with fail
      go_ret
      exact ⟨by rw [HE.out]; first | done | rfl, rfl⟩
end Go.Proofs.YtaelanpmgckfkaaRRRRDoor
