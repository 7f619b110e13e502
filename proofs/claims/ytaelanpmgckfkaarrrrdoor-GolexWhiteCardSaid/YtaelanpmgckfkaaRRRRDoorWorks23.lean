/- The example of chapter 23. -/
import Derived.Test.YtaelanpmgckfkaaRRRRDoorRefAll
import Derived.Lib.SlBytesConst
import Derived.Lib.SmallJoins
namespace Go.Proofs.YtaelanpmgckfkaaRRRRDoor
open Go.RowKit Go.Av

/-- A text's bytes, made anew. -/
theorem bytes_of (bs : List UInt8) (w : World) (hl : bs.length ≤ 1099511627) : ∃ (cap : Nat) (wb : World),
    (convert 9 22 (.string ⟨bs.toArray⟩)).run Tryd.prog w = .ok (.slice (some ⟨w.heap.size, 0, none⟩) bs.length cap) wb ∧ Below w.heap.size w wb ∧ w.heap.size < wb.heap.size ∧ bs.length ≤ cap ∧ cap ≤ 9223372036854775807 ∧
    (∀ j u, (bv bs)[j]? = some u → wb.cell? ⟨w.heap.size, 0 + j, none⟩ = some u) := by
  have hsz : (ByteArray.mk bs.toArray).size = bs.length := by simp [ByteArray.size]
  have hd : (ByteArray.mk bs.toArray).data.toList = bs := by simp
  have kc := Lib.run_convert_string_bytes (P := Tryd.prog) w 9 22 5 ⟨bs.toArray⟩ Tryd.underlying9 Tryd.underlying22 Tryd.underlying5
  rw [hsz] at kc
  have ho := own_bytesWorld w w.heap.size 5 ⟨bs.toArray⟩ (Nat.le_refl _) (by rw [hsz]; unfold maxLen; omega)
  rw [hsz, hd] at ho
  have hb := below_bytesWorld w w.heap.size 5 ⟨bs.toArray⟩ (Nat.le_refl _)
  exact ⟨_, _, kc, hb, by rw [Lib.bytesWorld_size]; omega, grownCap_ge w bs.length 0 5, grownCap_le_maxLen w bs.length 0 5 (by unfold maxLen; omega), ho.cells rfl⟩

def ex23 : List UInt8 := [120, 61, 97, 60, 60, 50, 32, 47, 47, 32, 121]
theorem ex23_all : allS ex23 = ([⟨1, [120], 0, 0, 1⟩, ⟨3, [61], 0, 1, 2⟩, ⟨1, [97], 0, 2, 3⟩, ⟨3, [60, 60], 0, 3, 5⟩, ⟨2, [50], 2, 5, 6⟩], 0) := by kernel_rfl
theorem len_key : reservedS [108, 101, 110] = true := by decide

set_option maxRecDepth 100000 in
set_option maxHeartbeats 1000000 in
theorem works23 (w : World) (ht : Tabs w) : Calls Tryd.prog 10 #[] w fun e w' => e = .returned (.bool true) ∧ Below w.heap.size w w' := by
  obtain ⟨wb, hwb⟩ : ∃ wb, wb = w.alloc (.cells (bv ex23).toArray 5 (11, 12)) := ⟨_, rfl⟩
  have hb : Below w.heap.size w wb := by rw [hwb]; exact (Below.refl _ _).alloc (Nat.le_refl _) _
  have hcc : ∀ j u, (bv ex23)[j]? = some u → wb.cell? ⟨w.heap.size, 0 + j, none⟩ = some u := by
    intro j u hu
    rw [hwb, Nat.zero_add, World.cell?_alloc_mark]
    simpa using hu
  have kc := Lib.run_convert_bytes_const (P := Tryd.prog) w 22 5 (bv ex23).toArray 11 11 Tryd.underlying22 Tryd.underlying5
  have HA := Lib.hid (fun hB => gAll (w.heap.size + 1) (.slice (some ⟨w.heap.size, 0, none⟩) 11 11) ex23 wb (ht.below hb) (.inr ⟨_, 0, 11, rfl, by omega, by decide, by decide, hcc⟩) hB (by decide))
  rw [ex23_all] at HA
  have HR := Lib.hid (fun W hT => reserved ⟨#[108, 101, 110]⟩ W hT)
  have HT := Lib.hid ht
  rw [show ((bv ex23).toArray).size = 11 from rfl, ← hwb] at kc
  rw [show (bv ex23).toArray = #[.int .u8 120, .int .u8 61, .int .u8 97, .int .u8 60, .int .u8 60, .int .u8 50, .int .u8 32, .int .u8 47, .int .u8 47, .int .u8 32, .int .u8 121] from rfl] at kc
  have ht0 := ht
  clear hcc ht
  have HWB := Lib.hid hwb
  clear hwb
  go_enter Tryd.func10, Tryd.ntmps10
  go_wp2_with fail
  refine (HA.out (by rw [HWB.out]; simp)).mono ?_
  rintro e w1 ⟨v, rfl, ho, hb1⟩
  rcases ho.2 with ⟨_, h⟩ | ⟨g, off, lcap, cur, fz, rfl, hg, hgg, hlc, _⟩
  · cases h
  have hcl := ho.cells rfl
  have hb2 := hb.trans (hb1.mono hb.size)
  have h1 := hcl 1 _ rfl
  have h6 := hcl 6 _ rfl
  have h16 := hcl 16 _ rfl
  have h22 := hcl 22 _ rfl
  have HT1 := Lib.hid (ht0.below hb2)
  clear hcl hgg ho kc
  go_wp2_with fail
  refine (HR.out _ HT1.out).mono ?_
  rintro e w2 ⟨rfl, rfl⟩
  rw [len_key]
  go_wp2_with fail
  go_ret
  exact ⟨rfl, hb2⟩
end Go.Proofs.YtaelanpmgckfkaaRRRRDoor
