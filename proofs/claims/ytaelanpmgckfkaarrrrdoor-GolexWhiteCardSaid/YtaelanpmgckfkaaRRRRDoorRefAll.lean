/- The document's All. -/
import Derived.Test.YtaelanpmgckfkaaRRRRDoorRefTake
namespace Go.Proofs.YtaelanpmgckfkaaRRRRDoor
open Go.RowKit Go.Av

set_option maxRecDepth 100000 in
set_option maxHeartbeats 1000000 in
theorem rfTake_nil (w : World) : Calls Tryd.prog 12 #[.slice none 0 0, .int .i64 0] w (Took (takeS [] 0) w) := by
  go_enter Tryd.func12, Tryd.ntmps12
  go_wp2_with fail
  go_loop [1] (fun i => i = .int .i64 0) (fun _ => 0)
  case atStart => exact rfl
  case round =>
    subst hrel
    go_wp2_with fail
    refine bodyPost_ret (v := .tuple #[.agg (takeS [] 0).1.cells, .int .i64 0]) (by simp [results, Tryd.results12, WordS.cells, takeS, takeAt, whiteAt, skipM_nil, go_sem]) rfl ⟨rfl, (Below.refl _ _).alloc (Nat.le_refl _) _⟩
/-- The document's Take, wherever. -/
theorem rfTake (B : Nat) (v : Value) (bs : List UInt8) (i : Int) (w : World) (hv : RdB B w v bs) (hB : B ≤ w.heap.size) (hlen : bs.length ≤ 1099511627) : Calls Tryd.prog 12 #[v, .int .i64 i] w (Took (takeS bs i) w) := by
  by_cases hi : i < 0 ∨ i > bs.length
  · have hr : takeS bs i = (WordS.zero, 2) := by unfold takeS; rw [if_pos hi]
    rw [hr]
    refine rfTake_arg v bs.length i w ?_ (by omega)
    rcases hv with ⟨rfl, rfl⟩ | ⟨g, off, cap, rfl, _⟩
    · exact ⟨_, _, rfl⟩
    · exact ⟨_, _, rfl⟩
  · obtain ⟨k, rfl⟩ : ∃ k : Nat, i = k := ⟨i.toNat, by omega⟩
    have hr : takeS bs k = takeAt bs (whiteAt bs k) := by
      unfold takeS
      rw [if_neg hi]
      rfl
    rcases hv with ⟨rfl, rfl⟩ | ⟨g, off, cap, rfl, hg, hcap, hmax, hc⟩
    · have : k = 0 := by simp at hi; omega
      subst this
      exact rfTake_nil w
    · rw [hr]
      exact rfTake_cells g off cap bs k w (by omega) hcap hmax (by omega) hlen hc

theorem slWordsR : SlTy Tryd.prog 36 30 5 48 (.agg #[.int .i64 0, .string ⟨#[]⟩, .int .u64 0, .int .i64 0, .int .i64 0]) := ⟨Tryd.underlying36, by kernel_rfl, rfl⟩
def OwnWr (w : World) (B : Nat) (v : Value) (l : List WordS) : Prop := Own w B 30 5 v l.length (flatW l)
/-- What the document's All answers. -/
def AllsR (r : List WordS × Nat) (w : World) (e : Ending) (w' : World) : Prop := ∃ v, e = .returned (.tuple #[v, .int .i64 (r.2 : Int)]) ∧ OwnWr w' w.heap.size v r.1 ∧ Below w.heap.size w w'

set_option maxRecDepth 100000 in
set_option maxHeartbeats 1000000 in
theorem rfAll (B : Nat) (v : Value) (bs : List UInt8) (w : World) (hv : RdB B w v bs) (hB : B ≤ w.heap.size) (hlen : bs.length ≤ 1099511627) : Calls Tryd.prog 14 #[v] w (AllsR (allS bs) w) := by
  have H0 : Hid (allS bs = glue [] (allFrom bs (bs.length + 1) 0)) := by unfold Hid allS; rw [glue_nil]
  have HV := Lib.hid hv
  clear hv
  go_enter Tryd.func14, Tryd.ntmps14
  go_wp2_with fail
  go_loopw [4, 5] (fun o0 i wr => ∃ (f k : Nat) (out : List WordS), i = .int .i64 k ∧ k ≤ bs.length ∧ bs.length + 1 ≤ f + k ∧ out.length ≤ k ∧ Hid (allS bs = glue out (allFrom bs f k)) ∧ Hid (OwnWr wr w.heap.size o0 out) ∧ Below w.heap.size w wr) (fun _ i _ => (bs.length - intOf i).toNat)
  case atStart => exact ⟨bs.length + 1, 0, [], rfl, by omega, by omega, by simp, H0, Lib.hid (Own.nil _ _ _ _), Below.refl _ _⟩
  case round =>
    obtain ⟨f, k, out, rfl, hk, hf, hol, HR, HO, hb⟩ := hrel
    have hbs := hb.size
    have HT := Lib.hid (rfTake B v bs k wr (HV.out.below (hb.mono hB)) (by omega) hlen)
    have hnx := take_next bs k hk
    obtain ⟨f, rfl⟩ : ∃ g, f = g + 1 := ⟨f - 1, by omega⟩
    have he1 := all_err bs out f k
    have he2 := all_end bs out f k
    have he3 := all_next bs out f k
    rw [← HR.out] at he1 he2 he3
    generalize takeS bs k = r at *
    obtain ⟨⟨k1, t1, n1, a1, x1⟩, er⟩ := r
    simp only at he1 he2 he3 hnx
    have HE1 := Lib.hid he1
    have HE2 := Lib.hid he2
    have HE3 := Lib.hid he3
    have HNX := Lib.hid hnx
    clear he1 he2 he3 hnx HR H0
    by_cases her : er = 0
    · subst her
      by_cases hk1 : k1 = 0
      · subst hk1
        go_wp2_with fail
        refine HT.out.mono ?_
        rintro e w1 ⟨rfl, hb1⟩
        simp only [WordS.cells]
        go_wp2_with fail
        have hall := HE2.out trivial trivial
        refine bodyPost_ret (v := .tuple #[u4, .int .i64 0]) (by simp [results, Tryd.results14, go_sem]) rfl ?_
        rw [hall]
        exact ⟨u4, rfl, ((HO.out.below hb1).alloc _), (hb.trans (hb1.mono hbs)).alloc (by have := hb1.size; omega) _⟩
      · have hk1' : ((k1 : Int) == 0) = false := beq_eq_false_iff_ne.2 (by omega)
        go_wp2_with fail
        refine HT.out.mono ?_
        rintro e w1 ⟨rfl, hb1⟩
        simp only [WordS.cells]
        have hnx := HNX.out trivial hk1
        have hsz1 := hb1.size
        have HO1 := Lib.hid (HO.out.below hb1)
        have hkeep : ∀ (v2 : Value) (w2 : World) (o o2 : Obj), Grew ((w1.alloc o).alloc o2) u4 w2 v2 → w2.cell? ⟨w1.heap.size, 4, none⟩ = (w1.alloc o).cell? ⟨w1.heap.size, 4, none⟩ := fun v2 w2 o o2 hg => cell_kept w1 w2 u4 v2 o o2 4 (fun b hb => (HO1.out.lt b hb).2) hg
        go_wp2_with (at_builtin; refine wpList_app_slice rfl slWordsR (.tmp 21) (.tmp 23) rfl w.heap.size u4 _ _ rfl ((HO1.out.alloc _).alloc _) (w1.heap.size + 1) 0 1 1 rfl (WordS.mk k1 t1 n1 a1 x1).cells.toList rfl (by exact news2 _ _ _ _) (ones_of5 _) (by unfold maxLen; omega) (by omega) (by simp; omega) ?_; intro v2 w2 ho2 hg2; have hcx := hkeep _ _ _ _ hg2)
        go_roundw
        case rel =>
          refine ⟨f, x1, out ++ [⟨k1, t1, n1, a1, x1⟩], by go_num, hnx.2, by omega, by simp; omega, Lib.hid (HE3.out trivial hk1), ?_, ?_⟩
          · unfold Hid OwnWr
            rw [flatW_snoc, List.length_append]
            exact ho2
          · have h1 := hb.trans (hb1.mono hbs)
            have h2 := h1.alloc h1.size (Obj.cells (WordS.mk k1 t1 n1 a1 x1).cells 30)
            exact (h2.alloc h2.size (Obj.cells (WordS.mk k1 t1 n1 a1 x1).cells 30)).grown hg2.grown (by simp; omega) (fun b hb => (HO1.out.lt b hb).1)
        case measure => simp [intOf]; omega
    · have her' : ((er : Int) == 0) = false := beq_eq_false_iff_ne.2 (by omega)
      go_wp2_with fail
      refine HT.out.mono ?_
      rintro e w1 ⟨rfl, hb1⟩
      simp only [WordS.cells]
      go_wp2_with fail
      have hall := HE1.out her
      refine bodyPost_ret (v := .tuple #[.slice none 0 0, .int .i64 (er : Int)]) (by simp [results, Tryd.results14, go_sem]) rfl ?_
      rw [hall]
      exact ⟨_, rfl, Own.nil _ _ _ _, (hb.trans (hb1.mono hbs)).alloc (by have := hb1.size; omega) _⟩
end Go.Proofs.YtaelanpmgckfkaaRRRRDoor
