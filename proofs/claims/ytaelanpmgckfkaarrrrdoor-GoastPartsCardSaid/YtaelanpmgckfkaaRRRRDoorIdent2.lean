/- goast.Ident, of any text. -/
import Derived.Test.YtaelanpmgckfkaaRRRRDoorAll
namespace Go.Proofs.YtaelanpmgckfkaaRRRRDoor
open Go.RowKit Go.Av

/-- A text's bytes, made anew. -/
theorem bytes_anew (bs : List UInt8) (w : World) (hl : bs.length ≤ 1099511627) : ∃ (cap : Nat) (wb : World),
    (convert 9 22 (.string ⟨bs.toArray⟩)).run Tryd.prog w = .ok (.slice (some ⟨w.heap.size, 0, none⟩) bs.length cap) wb ∧ Below w.heap.size w wb ∧ w.heap.size < wb.heap.size ∧ bs.length ≤ cap ∧ cap ≤ 9223372036854775807 ∧
    (∀ j u, (bv bs)[j]? = some u → wb.cell? ⟨w.heap.size, 0 + j, none⟩ = some u) := by
  have hsz : (ByteArray.mk bs.toArray).size = bs.length := by simp [ByteArray.size]
  have hd : (ByteArray.mk bs.toArray).data.toList = bs := by simp
  have kc := Lib.run_convert_string_bytes (P := Tryd.prog) w 9 22 5 ⟨bs.toArray⟩ Tryd.underlying9 Tryd.underlying22 Tryd.underlying5
  rw [hsz] at kc
  have ho := own_bytesWorld w w.heap.size 5 ⟨bs.toArray⟩ (Nat.le_refl _) (by rw [hsz]; unfold maxLen; omega)
  rw [hsz, hd] at ho
  have hb := below_bytesWorld w w.heap.size 5 ⟨bs.toArray⟩ (Nat.le_refl _)
  exact ⟨_, _, kc, hb, by rw [Lib.bytesWorld_size]; omega, grownCap_ge w bs.length 0 5, grownCap_le_maxLen w bs.length 0 5 (by unfold maxLen; omega), ho.cells rfl⟩

def identS (s : List UInt8) : Bool := decide (s.length ≤ 300) && decide ((takeS s 0).2 = 0) && decide ((takeS s 0).1.kind = 1) && ((takeS s 0).1.text == s)

set_option maxRecDepth 100000 in
set_option maxHeartbeats 1000000 in
theorem gIdent (s : List UInt8) (w : World) (ht : Tabs w) (hs : s.length ≤ 9223372036854775807) :
    Calls Tryd.prog 39 #[.string ⟨s.toArray⟩] w fun e w' => e = .returned (.bool (identS s)) ∧ Below w.heap.size w w' := by
  have hsz : (ByteArray.mk s.toArray).size = s.length := by simp [ByteArray.size]
  by_cases h3 : s.length ≤ 300
  · obtain ⟨cap, wb, kc, hb, hws, hge, hle, hcc⟩ := bytes_anew s w (by omega)
    have HG := Lib.hid (gTake (w.heap.size + 1) (.slice (some ⟨w.heap.size, 0, none⟩) s.length cap) s 0 wb (ht.below hb) (.inr ⟨_, 0, cap, rfl, by omega, hge, hle, hcc⟩) (by omega))
    have hI : identS s = (decide ((takeS s 0).2 = 0) && decide ((takeS s 0).1.kind = 1) && ((takeS s 0).1.text == s)) := by
      unfold identS
      rw [decide_eq_true h3]
      rfl
    have HI := Lib.hid hI
    generalize takeS s 0 = r at *
    obtain ⟨⟨k, t, n, a, x⟩, er⟩ := r
    clear hcc ht hI
    by_cases her : er = 0
    · subst her
      by_cases hk : k = 1
      · subst hk
        cases hts : (t == s)
        all_goals
          have hfin : identS s = (t == s) := HI.out
          have HF := Lib.hid hfin
          clear hfin HI
          go_enter Tryd.func39, Tryd.ntmps39
          go_wp2_with fail
          refine HG.out.mono ?_
          rintro e w1 ⟨rfl, hb1⟩
          have hb2 := hb.trans (hb1.mono hb.size)
          have hsz1 := hb2.size
          simp only [WordS.cells]
          go_wp2_with fail
          go_ret
          exact ⟨by rw [HF.out, hts]; rfl, hb2.alloc hsz1 _⟩
      · have hk' : ((k : Int) == 1) = false := beq_eq_false_iff_ne.2 (by omega)
        have hfin : identS s = false := by rw [HI.out]; simp [hk]
        have HF := Lib.hid hfin
        clear hfin HI
        go_enter Tryd.func39, Tryd.ntmps39
        go_wp2_with fail
        refine HG.out.mono ?_
        rintro e w1 ⟨rfl, hb1⟩
        have hb2 := hb.trans (hb1.mono hb.size)
        have hsz1 := hb2.size
        simp only [WordS.cells]
        go_wp2_with fail
        go_ret
        exact ⟨by rw [HF.out]; rfl, hb2.alloc hsz1 _⟩
    · have her' : ((er : Int) == 0) = false := beq_eq_false_iff_ne.2 (by omega)
      have hfin : identS s = false := by rw [HI.out]; simp [her]
      have HF := Lib.hid hfin
      clear hfin HI
      go_enter Tryd.func39, Tryd.ntmps39
      go_wp2_with fail
      refine HG.out.mono ?_
      rintro e w1 ⟨rfl, hb1⟩
      have hb2 := hb.trans (hb1.mono hb.size)
      have hsz1 := hb2.size
      simp only [WordS.cells]
      go_wp2_with fail
      go_ret
      exact ⟨by rw [HF.out]; rfl, hb2.alloc hsz1 _⟩
  · have hI : identS s = false := by
      unfold identS
      rw [decide_eq_false h3]
      rfl
    rw [hI]
    go_enter Tryd.func39, Tryd.ntmps39
    go_wp2_with fail
    go_ret
    exact ⟨rfl, Below.refl _ _⟩
end Go.Proofs.YtaelanpmgckfkaaRRRRDoor
