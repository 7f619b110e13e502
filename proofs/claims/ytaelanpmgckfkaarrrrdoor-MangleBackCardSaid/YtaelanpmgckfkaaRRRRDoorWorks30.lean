/- The examples of chapter 30. -/
import Derived.Test.YtaelanpmgckfkaaRRRRDoorName
namespace Go.Proofs.YtaelanpmgckfkaaRRRRDoor
open Go.RowKit Go.Av
theorem below_next {w w1 w2 : World} (h : Below w.heap.size w w1) (h1 : Below w1.heap.size w1 w2) : Below w.heap.size w w2 := h.trans (h1.mono h.size)

theorem name_abc (w : World) : Calls Tryd.prog 38 #[.string ⟨#[97, 46, 98, 95, 99]⟩] w (Texts [78, 97, 95, 111, 98, 95, 95, 99] w) := by
  have h := mName ⟨#[97, 46, 98, 95, 99]⟩ w (by decide)
  rwa [show nameL (ByteArray.mk #[97, 46, 98, 95, 99]).data.toList = [78, 97, 95, 111, 98, 95, 95, 99] from by decide] at h
theorem name_dash (w : World) : Calls Tryd.prog 38 #[.string ⟨#[45]⟩] w (Texts [78, 95, 120, 50, 100] w) := by
  have h := mName ⟨#[45]⟩ w (by decide)
  rwa [show nameL (ByteArray.mk #[45]).data.toList = [78, 95, 120, 50, 100] from by decide] at h
theorem number_e7 (w : World) : Calls Tryd.prog 65 #[.string ⟨#[101]⟩, .int .i64 7] w (Texts [101, 55] w) := by
  have h := mNumber ⟨#[101]⟩ 7 w (by decide) (by decide)
  rwa [show (ByteArray.mk #[101]).data.toList ++ decI 7 = [101, 55] from by decide] at h
theorem pair_d1x20 (w : World) : Calls Tryd.prog 66 #[.string ⟨#[100]⟩, .int .i64 1, .string ⟨#[120]⟩, .int .i64 20] w (Texts [100, 49, 120, 50, 48] w) := by
  have h := mPair ⟨#[100]⟩ 1 ⟨#[120]⟩ 20 w (by decide) (by decide) (by decide) (by decide)
  rwa [show (ByteArray.mk #[100]).data.toList ++ decI 1 ++ (ByteArray.mk #[120]).data.toList ++ decI 20 = [100, 49, 120, 50, 48] from by decide] at h

set_option maxHeartbeats 400000 in
theorem works_true (w : World) : Calls Tryd.prog 36 #[] w fun e w' => e = .returned (.bool true) ∧ Below w.heap.size w w' := by
  go_enter Tryd.func36, Tryd.ntmps36
  go_wp2_with fail
  refine (name_abc _).mono ?_
  rintro e w1 ⟨rfl, hb1⟩
  go_wp2_with fail
  refine (number_e7 _).mono ?_
  rintro e w2 ⟨rfl, hb2⟩
  go_wp2_with fail
  refine (pair_d1x20 _).mono ?_
  rintro e w3 ⟨rfl, hb3⟩
  go_wp2_with fail
  refine (name_dash _).mono ?_
  rintro e w4 ⟨rfl, hb4⟩
  go_wp2_with fail
  go_ret
  exact ⟨rfl, below_next (below_next (below_next hb1 hb2) hb3) hb4⟩

end Go.Proofs.YtaelanpmgckfkaaRRRRDoor
