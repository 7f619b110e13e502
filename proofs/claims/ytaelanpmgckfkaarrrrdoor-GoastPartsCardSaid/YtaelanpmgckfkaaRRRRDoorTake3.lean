/- golex.Take over cells. -/
import Derived.Test.YtaelanpmgckfkaaRRRRDoorTake2
namespace Go.Proofs.YtaelanpmgckfkaaRRRRDoor
open Go.RowKit Go.Av

set_option maxRecDepth 100000 in
set_option maxHeartbeats 1000000 in
theorem take_end (g off cap : Nat) (bs : List UInt8) (k p : Nat) (w : World) (hg : g < w.heap.size) (hcap : bs.length ≤ cap) (hmax : cap ≤ 9223372036854775807) (hk : k ≤ bs.length)
    (hwh : whiteAt bs k = p) (hc : ∀ j u, (bv bs)[j]? = some u → w.cell? ⟨g, off + j, none⟩ = some u) (hp : p = bs.length) :
    Calls Tryd.prog 11 #[.slice (some ⟨g, off, none⟩) bs.length cap, .int .i64 (k : Int)] w (Took (takeAt bs p) w) := by
  have hr : takeAt bs p = (⟨0, [], 0, p, p⟩, 0) := by unfold takeAt; rw [if_pos hp]
  rw [hr]
  have hple : p ≤ bs.length := by rw [← hwh]; exact whiteAt_le bs k
  have hwhite := fun W hg hc => white_cells g off cap bs k W hg hcap (by omega) hk hc
  rw [hwh] at hwhite
  have HWHITE := Lib.hid hwhite
  have HC := Lib.hid hc
  clear hwhite hc hwh
  have hki : (k : Int) ≤ bs.length := by omega
  have hpe : ((p : Int) == (bs.length : Int)) = true := beq_iff_eq.2 (by omega)
  clear hr hp
  go_enter Tryd.func11, Tryd.ntmps11
  go_wp2_with fail
  refine (HWHITE.out _ (by simp; omega) (fun j u hu => by rw [alloc_cell _ _ _ hg]; exact HC.out j u hu)).mono ?_
  rintro e w2 ⟨rfl, hb2⟩
  have hb2' : Below (nought w).heap.size (nought w) w2 := hb2
  clear hb2
  have hb3 : Below w.heap.size w w2 := (nought_below w).trans (hb2'.mono (by rw [nought_size]; omega))
  have hsz2 := hb2'.size
  rw [nought_size] at hsz2
  have hcell : ∀ j u, (bv bs)[j]? = some u → w2.cell? ⟨g, off + j, none⟩ = some u := fun j u hu => by rw [hb3.cell (p := ⟨g, off + j, none⟩) hg]; exact HC.out j u hu
  have HC2 := Lib.hid hcell
  have HB2 := Lib.hid hb2'
  clear hcell
  have hcl := nought_cell w w2 HB2.out
  have hfr := nought_frozen w w2 HB2.out
  clear hb2'
  go_wp2_with fail
  obtain ⟨c0, c1, c2, c3, c4, hb5⟩ := st5_cells w w2 HB2.out (.int .i64 0) (.string ⟨#[]⟩) (.int .u64 0) (.int .i64 (p : Int)) (.int .i64 (p : Int))
  change bodyPost _ _ _ _ _ (st5 w2 w.heap.size (.int .i64 0) (.string ⟨#[]⟩) (.int .u64 0) (.int .i64 (p : Int)) (.int .i64 (p : Int)))
  generalize st5 w2 w.heap.size (.int .i64 0) (.string ⟨#[]⟩) (.int .u64 0) (.int .i64 (p : Int)) (.int .i64 (p : Int)) = W5 at *
  clear hcl hfr
  refine bodyPost_ret (v := .tuple #[.agg (WordS.mk 0 [] 0 p p).cells, .int .i64 0]) ?_ rfl ⟨rfl, hb5⟩
  simp [results, Tryd.results11, WordS.cells, c0, c1, c2, c3, c4, go_sem]

set_option maxRecDepth 100000 in
set_option maxHeartbeats 1000000 in
theorem take_letter (g off cap : Nat) (bs : List UInt8) (k p : Nat) (w : World) (ht : Tabs w) (hg : g < w.heap.size) (hcap : bs.length ≤ cap) (hmax : cap ≤ 9223372036854775807) (hk : k ≤ bs.length)
    (hwh : whiteAt bs k = p) (hc : ∀ j u, (bv bs)[j]? = some u → w.cell? ⟨g, off + j, none⟩ = some u) (hp : p < bs.length) (hl : letterB (bs.getD p 0) = true) :
    Calls Tryd.prog 11 #[.slice (some ⟨g, off, none⟩) bs.length cap, .int .i64 (k : Int)] w (Took (takeAt bs p) w) := by
  obtain ⟨e, he⟩ : ∃ e, runAt wordB bs p = e := ⟨_, rfl⟩
  have heb := runAt_le wordB bs p (by omega)
  rw [he] at heb
  obtain ⟨tx, htx⟩ : ∃ tx, textAt bs p e = tx := ⟨_, rfl⟩
  have htl : tx.length = e - p := by
    rw [← htx]
    unfold textAt
    rw [List.length_take, List.length_drop]
    omega
  have hgetP : bs[p]? = some (bs.getD p 0) := by rw [List.getD_eq_getElem?_getD, List.getElem?_eq_getElem hp]; rfl
  have hbp := bv_at hgetP
  have hsub : ∀ j u, (bv tx)[j]? = some u → (bv bs)[p + j]? = some u := by
    intro j u hu
    rw [← htx] at hu
    unfold textAt bv at hu
    rw [List.map_take, List.map_drop, List.getElem?_take] at hu
    split at hu
    · rw [List.getElem?_drop] at hu
      exact hu
    · cases hu
  have hdig : ∀ (args : Array Value) (w : World), (callFunc 44 args).run Tryd.prog w = .ok (.enter 44 args) w := by
    intro args w
    simp [go_sem]
  have hword := fun W hv => while_any 44 wordB hdig (fun c w => word_at c _ rfl w) W.heap.size (.slice (some ⟨g, off, none⟩) bs.length cap) bs p W hv (by omega) (by omega)
  rw [he] at hword
  have hr : ∀ b : Bool, reservedS tx = b → takeAt bs p = (⟨if b = true then 4 else 1, tx, 0, p, e⟩, 0) := by
    intro b hb
    unfold takeAt
    rw [if_neg (by omega), if_pos hl, he, htx, hb]
  have hpi : (p : Int) < bs.length := by omega
  have hpe : ((p : Int) == (bs.length : Int)) = false := beq_eq_false_iff_ne.2 (by omega)
  have hpc : p < cap := by omega
  have hei1 : (p : Int) ≤ e := by omega
  have hei2 : (e : Int) ≤ cap := by omega
  have hple : p ≤ bs.length := by rw [← hwh]; exact whiteAt_le bs k
  have hwhite := fun W hg hc => white_cells g off cap bs k W hg hcap (by omega) hk hc
  rw [hwh] at hwhite
  have HWHITE := Lib.hid hwhite
  have HC := Lib.hid hc
  clear hwhite hc hwh
  have hki : (k : Int) ≤ bs.length := by omega
  have HBP := Lib.hid hbp
  have HSUB := Lib.hid hsub
  have HWORD := Lib.hid hword
  have HR := Lib.hid hr
  have HL := Lib.hid hl
  have HTL := Lib.hid htl
  clear hbp hsub hword hr hl htl htx he hgetP hdig
  generalize bs.getD p 0 = c at *
  go_enter Tryd.func11, Tryd.ntmps11
  go_wp2_with fail
  refine (HWHITE.out _ (by simp; omega) (fun j u hu => by rw [alloc_cell _ _ _ hg]; exact HC.out j u hu)).mono ?_
  rintro e w2 ⟨rfl, hb2⟩
  have hb2' : Below (nought w).heap.size (nought w) w2 := hb2
  clear hb2
  have hb3 : Below w.heap.size w w2 := (nought_below w).trans (hb2'.mono (by rw [nought_size]; omega))
  have hsz2 := hb2'.size
  rw [nought_size] at hsz2
  have hcell : ∀ j u, (bv bs)[j]? = some u → w2.cell? ⟨g, off + j, none⟩ = some u := fun j u hu => by rw [hb3.cell (p := ⟨g, off + j, none⟩) hg]; exact HC.out j u hu
  have HC2 := Lib.hid hcell
  have HB2 := Lib.hid hb2'
  clear hcell
  have hc2 : w2.cell? ⟨g, off + p, none⟩ = some (.int .u8 (c.toNat : Int)) := HC2.out p _ HBP.out
  have ht2 := ht.below hb3
  clear hb2'
  go_wp2_with fail
  refine (letter_at c _ rfl _).mono ?_
  rintro e' w3 ⟨rfl, rfl⟩
  rw [HL.out]
  go_wp2_with fail
  refine (HWORD.out _ ?_).mono ?_
  · exact .inr ⟨g, off, cap, rfl, by omega, hcap, by unfold maxLen; omega, HC2.out⟩
  rintro e' w3 ⟨rfl, rfl⟩
  have hcv : (convert 22 9 (.slice (some ⟨g, off + p, none⟩) (e - p) (cap - p))).run Tryd.prog w2 = .ok (.string ⟨tx.toArray⟩) w2 := conv_cells g (off + p) (cap - p) (e - p) tx w2 HTL.out (fun j u hu => by rw [show off + p + j = off + (p + j) by omega]; exact HC2.out _ _ (HSUB.out j u hu))
  go_wp2_with fail
  have hrs := fun W ht => reserved ⟨tx.toArray⟩ W ht
  rw [show (ByteArray.mk tx.toArray).data.toList = tx by simp] at hrs
  have HRS := Lib.hid hrs
  have ht3 : ∀ o : Obj, Tabs (w2.alloc o) := fun o => ht2.below ((Below.refl _ _).alloc (Nat.le_refl _) o)
  have hHB : ∀ o : Obj, Below (nought w).heap.size (nought w) (w2.alloc o) := fun o => HB2.out.alloc HB2.out.size o
  have hcl := fun o => nought_cell w (w2.alloc o) (hHB o)
  have hfr := fun o => nought_frozen w (w2.alloc o) (hHB o)
  have HHB := Lib.hid hHB
  clear hrs hHB
  refine (HRS.out _ (ht3 _)).mono ?_
  rintro e' w3 ⟨rfl, rfl⟩
  clear ht3 hcv
  cases hv : reservedS tx
  · have HRF := Lib.hid (HR.out false hv)
    clear HR HRS hv
    go_wp2_with fail
    obtain ⟨c0, c1, c2, c3, c4, hb5⟩ := st5_cells w (w2.alloc (.cells #[.int .i64 1, .string ⟨tx.toArray⟩, .int .u64 0, .int .i64 (p : Int), .int .i64 (e : Int)] 26)) (HHB.out _) (.int .i64 1) (.string ⟨tx.toArray⟩) (.int .u64 0) (.int .i64 (p : Int)) (.int .i64 (e : Int))
    change bodyPost _ _ _ _ _ (st5 (w2.alloc (.cells #[.int .i64 1, .string ⟨tx.toArray⟩, .int .u64 0, .int .i64 (p : Int), .int .i64 (e : Int)] 26)) w.heap.size (.int .i64 1) (.string ⟨tx.toArray⟩) (.int .u64 0) (.int .i64 (p : Int)) (.int .i64 (e : Int)))
    generalize st5 (w2.alloc (.cells #[.int .i64 1, .string ⟨tx.toArray⟩, .int .u64 0, .int .i64 (p : Int), .int .i64 (e : Int)] 26)) w.heap.size (.int .i64 1) (.string ⟨tx.toArray⟩) (.int .u64 0) (.int .i64 (p : Int)) (.int .i64 (e : Int)) = W5 at *
    clear hcl hfr
    refine bodyPost_ret (v := .tuple #[.agg (WordS.mk 1 tx 0 p e).cells, .int .i64 0]) ?_ rfl ?_
    · simp [results, Tryd.results11, WordS.cells, c0, c1, c2, c3, c4, go_sem]
    · rw [HRF.out]
      exact ⟨rfl, hb5⟩
  · have HRF := Lib.hid (HR.out true hv)
    clear HR HRS hv
    go_wp2_with fail
    obtain ⟨c0, c1, c2, c3, c4, hb5⟩ := st5_cells w (w2.alloc (.cells #[.int .i64 4, .string ⟨tx.toArray⟩, .int .u64 0, .int .i64 (p : Int), .int .i64 (e : Int)] 26)) (HHB.out _) (.int .i64 4) (.string ⟨tx.toArray⟩) (.int .u64 0) (.int .i64 (p : Int)) (.int .i64 (e : Int))
    change bodyPost _ _ _ _ _ (st5 (w2.alloc (.cells #[.int .i64 4, .string ⟨tx.toArray⟩, .int .u64 0, .int .i64 (p : Int), .int .i64 (e : Int)] 26)) w.heap.size (.int .i64 4) (.string ⟨tx.toArray⟩) (.int .u64 0) (.int .i64 (p : Int)) (.int .i64 (e : Int)))
    generalize st5 (w2.alloc (.cells #[.int .i64 4, .string ⟨tx.toArray⟩, .int .u64 0, .int .i64 (p : Int), .int .i64 (e : Int)] 26)) w.heap.size (.int .i64 4) (.string ⟨tx.toArray⟩) (.int .u64 0) (.int .i64 (p : Int)) (.int .i64 (e : Int)) = W5 at *
    clear hcl hfr
    refine bodyPost_ret (v := .tuple #[.agg (WordS.mk 4 tx 0 p e).cells, .int .i64 0]) ?_ rfl ?_
    · simp [results, Tryd.results11, WordS.cells, c0, c1, c2, c3, c4, go_sem]
    · rw [HRF.out]
      exact ⟨rfl, hb5⟩
end Go.Proofs.YtaelanpmgckfkaaRRRRDoor
