/- goast.Ident at a word of letters and digits that is no key. -/
import Derived.Test.YtaelanpmgckfkaaRRRRDoorTake
namespace Go.Proofs.YtaelanpmgckfkaaRRRRDoor
open Go.RowKit Go.Av

set_option maxRecDepth 100000 in
set_option maxHeartbeats 1000000 in
theorem ident_word (c : UInt8) (r : List UInt8) (w : World) (ht : Tabs w) (hlen : (c :: r).length ≤ 300)
    (hl : letterB c = true) (hall : ∀ d ∈ c :: r, wordB d = true) (hres : reservedS (c :: r) = false) :
    Calls Tryd.prog 39 #[.string ⟨(c :: r).toArray⟩] w fun e w' => e = .returned (.bool true) ∧ Below w.heap.size w w' := by
  have HT := fun g off cap W ht hg hcap hmax hc => take_word g off cap c r W ht hg hcap hmax hl hall hres hc
  have HTK := Lib.hid HT
  clear HT hl hall hres
  generalize hbs : c :: r = bs at *
  have ebb : (bs == bs) = true := beq_self_eq_true _
  clear hbs
  have hsz : (ByteArray.mk bs.toArray).size = bs.length := by simp [ByteArray.size]
  have hd : (ByteArray.mk bs.toArray).data.toList = bs := by simp
  have kc := Lib.run_convert_string_bytes (P := Tryd.prog) w 9 22 5 ⟨bs.toArray⟩ Tryd.underlying9 Tryd.underlying22 Tryd.underlying5
  rw [hsz] at kc
  have ho := own_bytesWorld w w.heap.size 5 ⟨bs.toArray⟩ (Nat.le_refl _) (by rw [hsz]; unfold maxLen; omega)
  rw [hsz, hd] at ho
  have hb := below_bytesWorld w w.heap.size 5 ⟨bs.toArray⟩ (Nat.le_refl _)
  have hcells := ho.cells rfl
  have hge := grownCap_ge w bs.length 0 5
  have hle := grownCap_le_maxLen w bs.length 0 5 (by unfold maxLen; omega)
  have hws : w.heap.size < (Lib.bytesWorld w 5 ⟨bs.toArray⟩).heap.size := by rw [Lib.bytesWorld_size]; omega
  have hmx : maxLen = 9223372036854775807 := rfl
  rw [hmx] at hle
  generalize grownCap w bs.length 0 5 = cap at *
  generalize Lib.bytesWorld w 5 ⟨bs.toArray⟩ = wb at *
  have HO := Lib.hid hcells
  clear ho hcells hsz hd hmx
  go_enter Tryd.func39, Tryd.ntmps39
  go_wp2_with fail
  refine (HTK.out w.heap.size 0 cap wb (ht.below hb) hws hge hle HO.out).mono ?_
  rintro e w1 ⟨rfl, hb1⟩
  have hb2 := hb.trans (hb1.mono hb.size)
  have hsz1 := hb2.size
  go_wp2_with fail
  go_ret
  exact ⟨rfl, hb2.alloc hsz1 _⟩
end Go.Proofs.YtaelanpmgckfkaaRRRRDoor
