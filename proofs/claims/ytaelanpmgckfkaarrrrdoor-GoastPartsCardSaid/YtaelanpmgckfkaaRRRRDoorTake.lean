/- golex.Take at a word of letters and digits; goast.Ident of such a text. -/
import Derived.Test.YtaelanpmgckfkaaRRRRDoorLex2
import Derived.Test.YtaelanpmgckfkaaRRRRDoorKeys
namespace Go.Proofs.YtaelanpmgckfkaaRRRRDoor
open Go.RowKit Go.Av

theorem runAt_all (p : UInt8 → Bool) (bs : List UInt8) (h : ∀ c ∈ bs, p c = true) : runAt p bs 0 = bs.length := by
  unfold runAt
  rw [List.drop_zero, show bs.takeWhile p = bs from ?_]
  · omega
  · induction bs with
    | nil => rfl
    | cons c r ih => rw [List.takeWhile_cons_of_pos (h c (List.mem_cons_self ..)), ih fun d hd => h d (List.mem_cons_of_mem _ hd)]
theorem letter_not_white (c : UInt8) (h : letterB c = true) : ¬ whiteB c = true ∧ ¬ c.toNat = 47 := by
  unfold letterB at h
  unfold whiteB
  rw [decide_eq_true_iff] at h ⊢
  omega
theorem white_word (c : UInt8) (r : List UInt8) (h : letterB c = true) : whiteAt (c :: r) 0 = 0 := by
  obtain ⟨h1, h2⟩ := letter_not_white c h
  exact whiteAt_of _ 0 0 (by omega) (by rw [List.drop_zero, skip_stop c r h1 (fun e => h2 e.1)])

theorem cell_off (W : World) (b i j : Nat) (v : Value) (h : ¬ i = j) : (W.setCell ⟨b, i, none⟩ v).cell? ⟨b, j, none⟩ = W.cell? ⟨b, j, none⟩ :=
  World.cell?_setCell_other W ⟨b, i, none⟩ ⟨b, j, none⟩ v (fun e => h (congrArg Addr.off e))

set_option maxRecDepth 100000 in
set_option maxHeartbeats 1000000 in
theorem take_word (g off cap : Nat) (c : UInt8) (r : List UInt8) (w : World) (ht : Tabs w) (hg : g < w.heap.size) (hcap : (c :: r).length ≤ cap) (hmax : cap ≤ 9223372036854775807)
    (hl : letterB c = true) (hall : ∀ d ∈ c :: r, wordB d = true) (hres : reservedS (c :: r) = false)
    (hc : ∀ j u, (bv (c :: r))[j]? = some u → w.cell? ⟨g, off + j, none⟩ = some u) :
    Calls Tryd.prog 11 #[.slice (some ⟨g, off, none⟩) (c :: r).length cap, .int .i64 0] w fun e w' => e = .returned (.tuple #[.agg #[.int .i64 1, .string ⟨(c :: r).toArray⟩, .int .u64 0, .int .i64 0, .int .i64 ((c :: r).length : Int)], .int .i64 0]) ∧ Below w.heap.size w w' := by
  have hrun := runAt_all wordB (c :: r) hall
  have hwh := white_word c r hl
  have hc0 : w.cell? ⟨g, off + 0, none⟩ = some (.int .u8 (c.toNat : Int)) := hc 0 _ rfl
  have hlen : 1 ≤ (c :: r).length := by simp
  have HC := Lib.hid hc
  have HRES := Lib.hid hres
  have HRUN := Lib.hid hrun
  have HWH := Lib.hid hwh
  have HL := Lib.hid hl
  have hdig : ∀ (args : Array Value) (w : World), (callFunc 44 args).run Tryd.prog w = .ok (.enter 44 args) w := by
    intro args w
    simp [go_sem]
  have hword := fun W hv => while_any 44 wordB hdig (fun c w => word_at c _ rfl w) W.heap.size (.slice (some ⟨g, off, none⟩) (c :: r).length cap) (c :: r) 0 W hv (by omega) (by omega)
  rw [hrun] at hword
  have hwhite := fun W hg hc => white_cells g off cap (c :: r) 0 W hg hcap (by omega) (by omega) hc
  rw [hwh] at hwhite
  have HWORD := Lib.hid hword
  have HWHITE := Lib.hid hwhite
  clear hword hdig hrun hwh hres hall hl hc hwhite
  generalize hbs : c :: r = bs at *
  generalize hn : bs.length = n at *
  have hn1 : (0 : Int) < n := by omega
  go_enter Tryd.func11, Tryd.ntmps11
  go_wp2_with fail
  refine (HWHITE.out _ (by simp; omega) (fun j u hu => by rw [alloc_cell _ _ _ hg]; exact HC.out j u hu)).mono ?_
  rintro e w2 ⟨rfl, hb2⟩
  have hblk := hb2.block w.heap.size (by simp)
  have hb3 : Below w.heap.size w w2 := ((Below.refl _ _).alloc (Nat.le_refl _) _).trans (hb2.mono (by simp))
  have hsz2 := hb2.size
  simp at hsz2
  have hcell : ∀ j u, (bv bs)[j]? = some u → w2.cell? ⟨g, off + j, none⟩ = some u := fun j u hu => by rw [hb3.cell (p := ⟨g, off + j, none⟩) hg]; exact HC.out j u hu
  have hc2 : w2.cell? ⟨g, off, none⟩ = some (.int .u8 (c.toNat : Int)) := hcell 0 _ (by rw [← hbs]; rfl)
  have ht2 := ht.below hb3
  have HC2 := Lib.hid hcell
  have HB2 := Lib.hid hb2
  clear hcell
  have hz : ((0 : Int) == (n : Int)) = false := beq_eq_false_iff_ne.2 (by omega)
  have hcap1 : (0 : Int) < cap := by omega
  go_wp2_with fail
  refine (letter_at c _ rfl _).mono ?_
  rintro e w3 ⟨rfl, rfl⟩
  rw [HL.out]
  go_wp2_with fail
  refine (HWORD.out _ ?_).mono ?_
  · exact .inr ⟨g, off, cap, by rw [hn], by omega, by omega, by unfold maxLen; omega, HC2.out⟩
  rintro e w3 ⟨rfl, rfl⟩
  have hconv : ∀ W : World, (∀ j u, (bv bs)[j]? = some u → W.cell? ⟨g, off + j, none⟩ = some u) → (convert 22 9 (.slice (some ⟨g, off, none⟩) n cap)).run Tryd.prog W = .ok (.string ⟨bs.toArray⟩) W := fun W h => conv_cells g off cap n bs W hn h
  have hcv := hconv w2 HC2.out
  clear hconv
  go_wp2_with fail
  have hrs := fun W ht => reserved ⟨bs.toArray⟩ W ht
  rw [show (ByteArray.mk bs.toArray).data.toList = bs by simp, HRES.out] at hrs
  have ht3 : ∀ o : Obj, Tabs (w2.alloc o) := fun o => ht2.below ((Below.refl _ _).alloc (Nat.le_refl _) o)
  refine (hrs _ (ht3 _)).mono ?_
  rintro e w3 ⟨rfl, rfl⟩
  clear hrs ht3 hcv
  have hcl : ∀ (o : Obj) (k : Nat), (w2.alloc o).cell? ⟨w.heap.size, k, none⟩ = (w.alloc (.cells #[.int .i64 0, .string ⟨#[]⟩, .int .u64 0, .int .i64 0, .int .i64 0] 26)).cell? ⟨w.heap.size, k, none⟩ := by
    intro o k
    rw [alloc_cell _ _ _ (show w.heap.size < w2.heap.size by omega)]
    exact hb2.cell (p := ⟨w.heap.size, k, none⟩) (by simp)
  have hfr : ∀ (o : Obj) (k : Nat), (w2.alloc o).frozen? ⟨w.heap.size, k, none⟩ = (w.alloc (.cells #[.int .i64 0, .string ⟨#[]⟩, .int .u64 0, .int .i64 0, .int .i64 0] 26)).frozen? ⟨w.heap.size, k, none⟩ := by
    intro o k
    rw [World.frozen?_of_block (w := w2) (Below.heap_alloc w2 o w.heap.size (by omega))]
    exact hb2.frozen (p := ⟨w.heap.size, k, none⟩) (by simp)
  clear hblk hb2
  go_wp2_with fail
  obtain ⟨W0, hW0⟩ : ∃ W0, W0 = w2.alloc (Obj.cells #[.int .i64 1, .string ⟨bs.toArray⟩, .int .u64 0, .int .i64 0, .int .i64 (n : Int)] 26) := ⟨_, rfl⟩
  have hcl0 : ∀ k : Nat, k < 5 → ∃ v, W0.cell? ⟨w.heap.size, k, none⟩ = some v := by
    intro k hk
    rw [hW0, hcl _ k]
    simp only [World.cell?, World.alloc, Array.getElem?_push_size]
    have : k = 0 ∨ k = 1 ∨ k = 2 ∨ k = 3 ∨ k = 4 := by omega
    rcases this with rfl | rfl | rfl | rfl | rfl <;> exact ⟨_, rfl⟩
  have hb0 : Below w.heap.size w W0 := by rw [hW0]; exact hb3.alloc (by omega) _
  rw [← hW0]
  obtain ⟨W5, hW5⟩ : ∃ W5, W5 = ((((W0.setCell ⟨w.heap.size, 0, none⟩ (.int .i64 1)).setCell ⟨w.heap.size, 1, none⟩ (.string ⟨bs.toArray⟩)).setCell ⟨w.heap.size, 2, none⟩ (.int .u64 0)).setCell ⟨w.heap.size, 3, none⟩ (.int .i64 0)).setCell ⟨w.heap.size, 4, none⟩ (.int .i64 (n : Int)) := ⟨_, rfl⟩
  have hb5 : Below w.heap.size w W5 := by
    rw [hW5]
    exact ((((hb0.setCell (Nat.le_refl _) _).setCell (Nat.le_refl _) _).setCell (Nat.le_refl _) _).setCell (Nat.le_refl _) _).setCell (Nat.le_refl _) _
  have c0 : W5.cell? ⟨w.heap.size, 0, none⟩ = some (.int .i64 1) := by
    obtain ⟨u, hu⟩ := hcl0 0 (by omega)
    rw [hW5]
    exact (cell_off _ _ 4 0 _ (by decide)).trans ((cell_off _ _ 3 0 _ (by decide)).trans ((cell_off _ _ 2 0 _ (by decide)).trans ((cell_off _ _ 1 0 _ (by decide)).trans (World.cell?_setCell_same _ _ _ (u := u) (hu)))))
  have c1 : W5.cell? ⟨w.heap.size, 1, none⟩ = some (.string ⟨bs.toArray⟩) := by
    obtain ⟨u, hu⟩ := hcl0 1 (by omega)
    rw [hW5]
    exact (cell_off _ _ 4 1 _ (by decide)).trans ((cell_off _ _ 3 1 _ (by decide)).trans ((cell_off _ _ 2 1 _ (by decide)).trans (World.cell?_setCell_same _ _ _ (u := u) ((cell_off _ _ 0 1 _ (by decide)).trans (hu)))))
  have c2 : W5.cell? ⟨w.heap.size, 2, none⟩ = some (.int .u64 0) := by
    obtain ⟨u, hu⟩ := hcl0 2 (by omega)
    rw [hW5]
    exact (cell_off _ _ 4 2 _ (by decide)).trans ((cell_off _ _ 3 2 _ (by decide)).trans (World.cell?_setCell_same _ _ _ (u := u) ((cell_off _ _ 1 2 _ (by decide)).trans ((cell_off _ _ 0 2 _ (by decide)).trans (hu)))))
  have c3 : W5.cell? ⟨w.heap.size, 3, none⟩ = some (.int .i64 0) := by
    obtain ⟨u, hu⟩ := hcl0 3 (by omega)
    rw [hW5]
    exact (cell_off _ _ 4 3 _ (by decide)).trans (World.cell?_setCell_same _ _ _ (u := u) ((cell_off _ _ 2 3 _ (by decide)).trans ((cell_off _ _ 1 3 _ (by decide)).trans ((cell_off _ _ 0 3 _ (by decide)).trans (hu)))))
  have c4 : W5.cell? ⟨w.heap.size, 4, none⟩ = some (.int .i64 (n : Int)) := by
    obtain ⟨u, hu⟩ := hcl0 4 (by omega)
    rw [hW5]
    exact World.cell?_setCell_same _ _ _ (u := u) ((cell_off _ _ 3 4 _ (by decide)).trans ((cell_off _ _ 2 4 _ (by decide)).trans ((cell_off _ _ 1 4 _ (by decide)).trans ((cell_off _ _ 0 4 _ (by decide)).trans (hu)))))
  rw [← hW5]
  clear hW5 hcl hfr hcl0 hb0 hW0
  refine bodyPost_ret (v := .tuple #[.agg #[.int .i64 1, .string ⟨bs.toArray⟩, .int .u64 0, .int .i64 0, .int .i64 (n : Int)], .int .i64 0]) ?_ rfl ⟨rfl, hb5⟩
  simp [results, Tryd.results11, c0, c1, c2, c3, c4, go_sem]
end Go.Proofs.YtaelanpmgckfkaaRRRRDoor
