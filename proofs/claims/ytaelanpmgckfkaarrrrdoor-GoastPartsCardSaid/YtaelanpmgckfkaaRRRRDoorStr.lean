/- strings.HasPrefix, strings.IndexByte. -/
import Derived.Test.YtaelanpmgckfkaaRRRRDoorRows
import Derived.WalkKit
import Derived.WalkSpells
import Derived.WalkLawsBesides
import Derived.Lib.Bytealg
import Derived.Lib.Hide
namespace Go.Proofs.YtaelanpmgckfkaaRRRRDoor
open Go.RowKit

set_option maxRecDepth 100000 in
set_option maxHeartbeats 400000 in
theorem indexByte0 (s : ByteArray) (c : UInt8) (w : World) : Calls Tryd.prog 74 #[.string s, .int .u8 (c.toNat : Int)] w fun e w' => e = .returned (.int .i64 (Lib.indexByte s.data.toList c)) ∧ w = w' := by
  go_enter Tryd.func74, Tryd.ntmps74
  go_wp2
  rw [run_callFunc_extern Tryd.func87 (by kernel_rfl) (by kernel_rfl) (by kernel_rfl) (e := Extern.BytealgIndexByte.indexByte) (by kernel_rfl), Lib.run_indexByteString]
  simp only [Result.andThen]
  rw [Oper.upon_value]
  go_wp2
  go_ret
  exact ⟨by simp, rfl⟩
set_option maxRecDepth 100000 in
set_option maxHeartbeats 400000 in
theorem strings_IndexByte (s : ByteArray) (c : UInt8) (w : World) : Calls Tryd.prog 58 #[.string s, .int .u8 (c.toNat : Int)] w fun e w' => e = .returned (.int .i64 (Lib.indexByte s.data.toList c)) ∧ w = w' := by
  go_enter Tryd.func58, Tryd.ntmps58
  go_wp2_with fail
  refine (indexByte0 s c _).mono ?_
  rintro e w1 ⟨rfl, rfl⟩
  go_wp2_with fail
  go_ret
  exact ⟨rfl, rfl⟩

/-- Does l begin with p? -/
def hasPre (l p : List UInt8) : Bool := p.isPrefixOf l
theorem prefix_bool (s p : ByteArray) : ((s.extract 0 p.size).toList == p.toList) = hasPre s.data.toList p.data.toList := by
  rw [ByteArray.toList_eq, ByteArray.toList_eq]
  unfold hasPre
  rw [Bool.eq_iff_iff, beq_iff_eq, List.isPrefixOf_iff_prefix, List.prefix_iff_eq_take]
  simp [ByteArray.data_extract]
  constructor <;> intro h <;> rw [← h] <;> simp
theorem prefix_short (s p : ByteArray) (h : ¬ p.size ≤ s.size) : hasPre s.data.toList p.data.toList = false := by
  unfold hasPre
  rw [Bool.eq_false_iff]
  intro e
  have := (List.isPrefixOf_iff_prefix.1 e).length_le
  simp at this
  omega

set_option maxRecDepth 100000 in
set_option maxHeartbeats 400000 in
theorem hasPrefix0 (s p : ByteArray) (w : World) : Calls Tryd.prog 96 #[.string s, .string p] w fun e w' => e = .returned (.bool (hasPre s.data.toList p.data.toList)) ∧ w = w' := by
  by_cases h : p.size ≤ s.size
  · have hp := prefix_bool s p
    generalize hasPre s.data.toList p.data.toList = r at hp ⊢
    go_enter Tryd.func96, Tryd.ntmps96
    go_wp2_with fail
    go_ret
    exact ⟨rfl, rfl⟩
  · rw [prefix_short s p h]
    go_enter Tryd.func96, Tryd.ntmps96
    go_wp2_with fail
    go_ret
    exact ⟨rfl, rfl⟩
set_option maxRecDepth 100000 in
set_option maxHeartbeats 400000 in
theorem strings_HasPrefix (s p : ByteArray) (w : World) : Calls Tryd.prog 84 #[.string s, .string p] w fun e w' => e = .returned (.bool (hasPre s.data.toList p.data.toList)) ∧ w = w' := by
  go_enter Tryd.func84, Tryd.ntmps84
  go_wp2_with fail
  refine (hasPrefix0 s p _).mono ?_
  rintro e w1 ⟨rfl, rfl⟩
  go_wp2_with fail
  go_ret
  exact ⟨rfl, rfl⟩
end Go.Proofs.YtaelanpmgckfkaaRRRRDoor
