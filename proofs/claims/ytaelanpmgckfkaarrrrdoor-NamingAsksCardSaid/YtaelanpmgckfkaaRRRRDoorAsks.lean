/- The walk of NamingAsks. -/
import Derived.Test.YtaelanpmgckfkaaRRRRDoorNam7
namespace Go.Proofs.YtaelanpmgckfkaaRRRRDoor
open Go.RowKit Go.Av
set_option maxRecDepth 100000 in
set_option maxHeartbeats 800000 in
theorem asks_walk (s : ByteArray) (k : Int) (w : World) (ht : TabN w) (hs : s.size ≤ 9223372036854775807) : Calls Tryd.prog 5 #[.string s, .int .i64 k] w fun e w' => e = .returned (.bool true) ∧ Below w.heap.size w w' := by
  by_cases h : s.size > 1000
  · go_enter Tryd.func5, Tryd.ntmps5
    go_wp2_with fail
    refine (works09 _ ht).mono ?_
    rintro e w1 ⟨rfl, hb⟩
    go_wp2_with fail
    go_ret
    exact ⟨rfl, hb⟩
  go_enter Tryd.func5, Tryd.ntmps5
  go_wp2_with fail
  refine (nSimple s _ hs).mono ?_
  rintro e w1 ⟨rfl, rfl⟩
  go_wp2_with fail
  refine (nrSimple s _ hs).mono ?_
  rintro e w1 ⟨rfl, rfl⟩
  have e1 : (SimpleS s.data.toList == SimpleS s.data.toList) = true := beq_self_eq_true _
  go_wp2_with fail
  refine (nFull s _ hs).mono ?_
  rintro e w1 ⟨rfl, hb⟩
  go_wp2_with fail
  refine (nrFull s _ hs).mono ?_
  rintro e w2 ⟨rfl, rfl⟩
  have e2 : (FullS s.data.toList == FullS s.data.toList) = true := beq_self_eq_true _
  go_wp2_with fail
  refine (nSpace s _ hs).mono ?_
  rintro e w2 ⟨rfl, rfl⟩
  go_wp2_with fail
  refine (nrSpace s _ hs).mono ?_
  rintro e w2 ⟨rfl, rfl⟩
  have e3 : ((spaceS s.data.toList) == (spaceS s.data.toList)) = true := beq_self_eq_true _
  go_wp2_with fail
  refine (nLast s _ hs).mono ?_
  rintro e w2 ⟨rfl, rfl⟩
  go_wp2_with fail
  refine (nrLast s _ hs).mono ?_
  rintro e w2 ⟨rfl, rfl⟩
  have e4 : ((lastS s.data.toList) == (lastS s.data.toList)) = true := beq_self_eq_true _
  go_wp2_with fail
  refine (nKind s _ (ht.below hb)).mono ?_
  rintro e w2 ⟨rfl, rfl⟩
  go_wp2_with fail
  refine (nrKind s _).mono ?_
  rintro e w2 ⟨rfl, rfl⟩
  have e5 : ((kindS s.data.toList : Int) == (kindS s.data.toList : Int)) = true := beq_self_eq_true _
  go_wp2_with fail
  refine (nWord k _ (ht.below hb)).mono ?_
  rintro e w2 ⟨rfl, rfl⟩
  go_wp2_with fail
  refine (nrWord k _).mono ?_
  rintro e w2 ⟨rfl, rfl⟩
  have e6 : ((wordS k) == (wordS k)) = true := beq_self_eq_true _
  go_wp2_with fail
  refine (works09 _ (ht.below hb)).mono ?_
  rintro e w2 ⟨rfl, hb2⟩
  go_wp2_with fail
  go_ret
  exact ⟨rfl, hb.trans (hb2.mono hb.size)⟩
end Go.Proofs.YtaelanpmgckfkaaRRRRDoor
