/- golex.Reserved, and the document's: which texts are keys. The two tables. -/
import Derived.Test.YtaelanpmgckfkaaRRRRDoorLex
namespace Go.Proofs.YtaelanpmgckfkaaRRRRDoor
open Go.RowKit Go.Av

def keysL : List (List UInt8) := [[97, 112, 112, 101, 110, 100], [98, 111, 111, 108], [98, 121, 116, 101], [99, 97, 115, 101], [100, 101, 102, 97, 117, 108, 116], [101, 108, 115, 101], [102, 97, 108, 115, 101], [102, 111, 114], [102, 117, 110, 99], [105, 102], [105, 110, 116], [105, 110, 116, 51, 50], [108, 101, 110], [112, 97, 99, 107, 97, 103, 101], [114, 101, 116, 117, 114, 110], [115, 116, 114, 117, 99, 116], [115, 119, 105, 116, 99, 104], [116, 114, 117, 101], [116, 121, 112, 101], [117, 105, 110, 116, 51, 50], [117, 105, 110, 116, 54, 52], [118, 97, 114]]
def signsL : List (List UInt8) := [[38, 38], [124, 124], [61, 61], [33, 61], [60, 61], [62, 61], [60, 60], [62, 62], [40], [41], [123], [125], [91], [93], [44], [46], [58], [61], [60], [62], [43], [45], [42], [47], [37], [38], [124], [94], [33]]
/-- Texts as the cells of a table. -/
def tabV (l : List (List UInt8)) : Array Value := (l.map fun s => Value.string ⟨s.toArray⟩).toArray
/-- The two tables lie as the program's text lays them. -/
structure Tabs (w : World) : Prop where
  signs : ∃ t fr, w.heap[0]? = some (.cells (tabV signsL) t fr)
  keys : ∃ t fr, w.heap[1]? = some (.cells (tabV keysL) t fr)
theorem Tabs.size {w : World} (h : Tabs w) : 1 < w.heap.size ∧ 0 < w.heap.size := by
  obtain ⟨⟨t, fr, h1⟩, ⟨t', fr', h2⟩⟩ := h
  exact ⟨(Array.getElem?_eq_some_iff.1 h2).1, (Array.getElem?_eq_some_iff.1 h1).1⟩
theorem Tabs.below {w w' : World} (h : Tabs w) (hb : Below w.heap.size w w') : Tabs w' := by
  have hs := h.size
  obtain ⟨⟨t, fr, h1⟩, ⟨t', fr', h2⟩⟩ := h
  exact ⟨⟨t, fr, by rw [hb.block _ hs.2]; exact h1⟩, ⟨t', fr', by rw [hb.block _ hs.1]; exact h2⟩⟩
theorem Tabs.kept {w w' : World} (h : Tabs w) {B : Nat} (hb : Below B w w') (hB : 2 ≤ B) : Tabs w' := by
  obtain ⟨⟨t, fr, h1⟩, ⟨t', fr', h2⟩⟩ := h
  exact ⟨⟨t, fr, by rw [hb.block _ (by omega)]; exact h1⟩, ⟨t', fr', by rw [hb.block _ (by omega)]; exact h2⟩⟩

theorem idx_keys (k : Nat) (hk : k < 22) : ∀ W, (Instr.index 69 (.agg (tabV keysL)) (.int .i64 (k : Int))).run Tryd.prog W = .ok (.string ⟨(keysL.getD k []).toArray⟩) W := by
  intro W
  have : k = 0 ∨ k = 1 ∨ k = 2 ∨ k = 3 ∨ k = 4 ∨ k = 5 ∨ k = 6 ∨ k = 7 ∨ k = 8 ∨ k = 9 ∨ k = 10 ∨ k = 11 ∨ k = 12 ∨ k = 13 ∨ k = 14 ∨ k = 15 ∨ k = 16 ∨ k = 17 ∨ k = 18 ∨ k = 19 ∨ k = 20 ∨ k = 21 := by omega
  rcases this with rfl | rfl | rfl | rfl | rfl | rfl | rfl | rfl | rfl | rfl | rfl | rfl | rfl | rfl | rfl | rfl | rfl | rfl | rfl | rfl | rfl | rfl
  all_goals
    show _ = _
    kernel_rfl
theorem idx_signs (k : Nat) (hk : k < 29) : ∀ W, (Instr.index 67 (.agg (tabV signsL)) (.int .i64 (k : Int))).run Tryd.prog W = .ok (.string ⟨(signsL.getD k []).toArray⟩) W := by
  intro W
  have : k = 0 ∨ k = 1 ∨ k = 2 ∨ k = 3 ∨ k = 4 ∨ k = 5 ∨ k = 6 ∨ k = 7 ∨ k = 8 ∨ k = 9 ∨ k = 10 ∨ k = 11 ∨ k = 12 ∨ k = 13 ∨ k = 14 ∨ k = 15 ∨ k = 16 ∨ k = 17 ∨ k = 18 ∨ k = 19 ∨ k = 20 ∨ k = 21 ∨ k = 22 ∨ k = 23 ∨ k = 24 ∨ k = 25 ∨ k = 26 ∨ k = 27 ∨ k = 28 := by omega
  rcases this with rfl | rfl | rfl | rfl | rfl | rfl | rfl | rfl | rfl | rfl | rfl | rfl | rfl | rfl | rfl | rfl | rfl | rfl | rfl | rfl | rfl | rfl | rfl | rfl | rfl | rfl | rfl | rfl | rfl
  all_goals
    show _ = _
    kernel_rfl

/-- Is a text a key? -/
def reservedS (s : List UInt8) : Bool := keysL.any (s == ·)
def resFrom (s : List UInt8) (k : Nat) : Bool := (keysL.drop k).any (s == ·)
theorem resFrom_step (s : List UInt8) (k : Nat) (hk : k < 22) : resFrom s k = (s == keysL.getD k [] || resFrom s (k + 1)) := by
  unfold resFrom
  have : keysL.drop k = keysL.getD k [] :: keysL.drop (k + 1) := by
    have h : k < keysL.length := hk
    rw [List.drop_eq_getElem_cons h]
    simp [List.getD, h]
  rw [this, List.any_cons]

set_option maxRecDepth 100000 in
set_option maxHeartbeats 400000 in
theorem reserved (s : ByteArray) (w : World) (ht : Tabs w) : Calls Tryd.prog 15 #[.string s] w fun e w' => e = .returned (.bool (reservedS s.data.toList)) ∧ w = w' := by
  obtain ⟨t, fr, hkeys⟩ := ht.keys
  have HK := Lib.hid hkeys
  clear hkeys ht
  have hi := idx_keys
  generalize hkv : tabV keysL = kv at HK hi
  have hsz : (Tryd.prog.info? 69).map (·.size) = some kv.size := by rw [← hkv]; kernel_rfl
  have HS := Lib.hid hsz
  have HI := Lib.hid hi
  clear hkv hsz hi
  go_enter Tryd.func15, Tryd.ntmps15
  go_wp2_with (refine wpList_load_row rfl 69 _ rfl 1 rfl _ kv _ _ HK.out Tryd.underlying69 rfl HS.out ?_)
  go_loop [6] (fun i => ∃ k : Nat, i = .int .i64 k ∧ k ≤ 22 ∧ Hid (reservedS s.data.toList = resFrom s.data.toList k)) (fun i => (22 - intOf i).toNat)
  case atStart => exact ⟨0, rfl, by omega, Lib.hid rfl⟩
  case round =>
    obtain ⟨k, rfl, hk, HR⟩ := hrel
    by_cases hlt : k < 22
    · have hik := HI.out k hlt
      have hst := resFrom_step s.data.toList k hlt
      generalize keysL.getD k [] = q at hik hst
      have HST := Lib.hid hst
      clear hst
      by_cases hq : q = s.data.toList
      · have e : (q == s.toList) = true := by rw [ByteArray.toList_eq]; simpa using hq
        have HQ := Lib.hid hq
        clear hq
        go_wp2_with fail
        go_ret
        exact ⟨by rw [HR.out, HST.out, HQ.out]; simp, rfl⟩
      · have e : (q == s.toList) = false := by rw [ByteArray.toList_eq]; simpa using hq
        have e2 : (s.data.toList == q) = false := by simpa using fun h => hq h.symm
        have HQ := Lib.hid e2
        clear hq e2
        go_wp2_with fail
        go_round
        case rel => exact ⟨k + 1, by go_num, by omega, Lib.hid (by rw [HR.out, HST.out, HQ.out]; rfl)⟩
        case measure => simp [intOf]; omega
    · have e : resFrom s.data.toList k = false := by
        rw [show k = 22 by omega]
        rfl
      have HE := Lib.hid e
      clear e
      go_wp2_with fail
      go_ret
      exact ⟨by rw [HR.out, HE.out]; rfl, rfl⟩

set_option maxRecDepth 100000 in
set_option maxHeartbeats 1000000 in
theorem rReserved (s : ByteArray) (w : World) : Calls Tryd.prog 16 #[.string s] w fun e w' => e = .returned (.bool (reservedS s.data.toList)) ∧ w = w' := by
  have hr : reservedS s.data.toList = reservedS s.toList := by rw [ByteArray.toList_eq]
  rw [hr]
  clear hr
  have HR : ∀ b : Bool, Hid (reservedS s.toList = b) → Ending.returned (.bool b) = .returned (.bool (reservedS s.toList)) := fun b h => by rw [h.out]
  go_enter Tryd.func16, Tryd.ntmps16
  go_wp2_with fail
  all_goals
    go_ret
    refine ⟨HR _ ?_, rfl⟩
    clear HR
    unfold Hid reservedS keysL
    simp_all
end Go.Proofs.YtaelanpmgckfkaaRRRRDoor
