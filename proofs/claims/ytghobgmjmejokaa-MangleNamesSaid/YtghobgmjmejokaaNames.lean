/- The law MangleNames: the walk. -/
import Derived.Test.YtghobgmjmejokaaWorks30
import Derived.Test.YtghobgmjmejokaaRefBack
namespace Go.Proofs.Ytghobgmjmejokaa
open Go.RowKit Go.Av

set_option maxHeartbeats 400000 in
theorem names_walk (s : ByteArray) (w : World) :
    Calls Try.prog 3 #[.string s] w fun e w' => e = .returned (.bool true) ∧ Below w.heap.size w w' := by
  by_cases hs : 1000 < (s.size : Int)
  · go_enter Try.func3, Try.ntmps3
    go_wp2_with fail
    refine (works_true _).mono ?_
    rintro e w1 ⟨rfl, hb1⟩
    go_wp2_with fail
    go_ret
    exact ⟨rfl, hb1⟩
  · have hs' : s.size ≤ 1099511627 := by omega
    have c1 := mBack s w hs'
    have c2 := fun w => rBack s w hs'
    have c3 := fun w => mName s w hs'
    have c4 := fun w => rName s w hs'
    generalize backR s.data.toList = r at c1 c2
    generalize nameL s.data.toList = q at c3 c4
    obtain ⟨t, ok⟩ := r
    have C2 := Lib.hid c2
    have C3 := Lib.hid c3
    have C4 := Lib.hid c4
    clear c2 c3 c4
    go_enter Try.func3, Try.ntmps3
    go_wp2_with fail
    refine c1.mono ?_
    rintro e w1 ⟨rfl, hb1⟩
    go_wp2_with fail
    refine (C2.out _).mono ?_
    rintro e w2 ⟨rfl, hb2⟩
    go_wp2_with fail
    refine (C3.out _).mono ?_
    rintro e w3 ⟨rfl, hb3⟩
    go_wp2_with fail
    refine (C4.out _).mono ?_
    rintro e w4 ⟨rfl, hb4⟩
    go_wp2_with fail
    refine (works_true _).mono ?_
    rintro e w5 ⟨rfl, hb5⟩
    go_wp2_with fail
    go_ret
    exact ⟨rfl, below_next (below_next (below_next (below_next hb1 hb2) hb3) hb4) hb5⟩
end Go.Proofs.Ytghobgmjmejokaa
