/- The works of the laws of names. -/
import Derived.Test.YtaelanpmgckfkaaRRRRDoorNam6
namespace Go.Proofs.YtaelanpmgckfkaaRRRRDoor
open Go.RowKit Go.Av
set_option maxRecDepth 100000 in
set_option maxHeartbeats 400000 in
theorem works09 (w : World) (ht : TabN w) : Calls Tryd.prog 17 #[] w fun e w' => e = .returned (.bool true) ∧ Below w.heap.size w w' := by
  have h1 := fun wz => nJoin [97, 46, 98] [99] wz (by decide)
  have h2 := fun wz => nJoin [97] [120, 46, 121] wz (by decide)
  have h3 := fun wz => nResolve [99] [] [97] true wz (by decide) (by decide)
  have h4 := fun wz => nSpace ⟨#[97, 46, 98, 46, 99]⟩ wz (by decide)
  have h5 := fun wz => nLast ⟨#[97, 46, 98, 46, 99]⟩ wz (by decide)
  have h6 := fun wz => nSimple ⟨#[95, 97, 49]⟩ wz (by decide)
  have h7 := fun wz => nFull ⟨#[97, 46, 46, 98]⟩ wz (by decide)
  have h8 := fun wz ht => nKind ⟨#[109, 97, 112]⟩ wz ht
  rw [show joinS [97, 46, 98] [99] = ([97, 46, 98, 46, 99], true) by kernel_rfl] at h1
  rw [show joinS [97] [120, 46, 121] = ([120, 46, 121], true) by kernel_rfl] at h2
  rw [show joinS (if true = true then [] else [97]) [99] = ([99], true) by kernel_rfl] at h3
  rw [show spaceS (ByteArray.mk #[97, 46, 98, 46, 99]).data.toList = [97, 46, 98] by kernel_rfl] at h4
  rw [show lastS (ByteArray.mk #[97, 46, 98, 46, 99]).data.toList = [99] by kernel_rfl] at h5
  rw [show SimpleS (ByteArray.mk #[95, 97, 49]).data.toList = true by kernel_rfl] at h6
  rw [show FullS (ByteArray.mk #[97, 46, 46, 98]).data.toList = false by kernel_rfl] at h7
  rw [show kindS (ByteArray.mk #[109, 97, 112]).data.toList = 12 by kernel_rfl] at h8
  have H1 := Lib.hid h1
  have H2 := Lib.hid h2
  have H3 := Lib.hid h3
  have H4 := Lib.hid h4
  have H5 := Lib.hid h5
  have H6 := Lib.hid h6
  have H7 := Lib.hid h7
  have H8 := Lib.hid h8
  clear h1 h2 h3 h4 h5 h6 h7 h8
  go_enter Tryd.func17, Tryd.ntmps17
  go_wp2_with fail
  refine (H1.out _).mono ?_
  rintro e w1 ⟨rfl, hb1⟩
  go_wp2_with fail
  refine (H2.out _).mono ?_
  rintro e w2 ⟨rfl, hb2⟩
  have hb := hb1.trans (hb2.mono hb1.size)
  go_wp2_with fail
  refine (H3.out _).mono ?_
  rintro e w3 ⟨rfl, hb3⟩
  have hb := hb.trans (hb3.mono hb.size)
  go_wp2_with fail
  refine (H4.out _).mono ?_
  rintro e w4 ⟨rfl, rfl⟩
  go_wp2_with fail
  refine (H5.out _).mono ?_
  rintro e w4 ⟨rfl, rfl⟩
  go_wp2_with fail
  refine (H6.out _).mono ?_
  rintro e w4 ⟨rfl, rfl⟩
  go_wp2_with fail
  refine (H7.out _).mono ?_
  rintro e w4 ⟨rfl, hb4⟩
  have hb := hb.trans (hb4.mono hb.size)
  go_wp2_with fail
  refine (H8.out _ (ht.below hb)).mono ?_
  rintro e w5 ⟨rfl, rfl⟩
  go_wp2_with fail
  go_ret
  exact ⟨rfl, hb⟩
end Go.Proofs.YtaelanpmgckfkaaRRRRDoor
