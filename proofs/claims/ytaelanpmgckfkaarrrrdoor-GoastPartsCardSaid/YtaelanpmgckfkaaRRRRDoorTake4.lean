/- golex.Take at digits and signs. -/
import Derived.Test.YtaelanpmgckfkaaRRRRDoorTake3
namespace Go.Proofs.YtaelanpmgckfkaaRRRRDoor
open Go.RowKit Go.Av

set_option maxRecDepth 100000 in
set_option maxHeartbeats 1000000 in
theorem take_digit (g off cap : Nat) (bs : List UInt8) (k p : Nat) (w : World) (hg : g < w.heap.size) (hcap : bs.length ≤ cap) (hmax : cap ≤ 9223372036854775807) (hk : k ≤ bs.length)
    (hwh : whiteAt bs k = p) (hc : ∀ j u, (bv bs)[j]? = some u → w.cell? ⟨g, off + j, none⟩ = some u) (hp : p < bs.length) (hl : letterB (bs.getD p 0) = false) (hd : digitB (bs.getD p 0) = true) :
    Calls Tryd.prog 11 #[.slice (some ⟨g, off, none⟩) bs.length cap, .int .i64 (k : Int)] w (Took (takeAt bs p) w) := by
  have hgetP : bs[p]? = some (bs.getD p 0) := by rw [List.getD_eq_getElem?_getD, List.getElem?_eq_getElem hp]; rfl
  have hbp := bv_at hgetP
  have hr : ∀ b : Bool, numberOk bs p = b → takeAt bs p = if b = true then (numberW bs p, 0) else (WordS.zero, 50) := by
    intro b hb
    unfold takeAt
    rw [if_neg (by omega), if_neg (by rw [hl]; decide), if_pos hd, hb]
  have hpi : (p : Int) < bs.length := by omega
  have hpe : ((p : Int) == (bs.length : Int)) = false := beq_eq_false_iff_ne.2 (by omega)
  have hpc : p < cap := by omega
  have hnum := fun W hg hc => number_w g off cap bs p W hg hcap hmax hp hc
  have hple : p ≤ bs.length := by rw [← hwh]; exact whiteAt_le bs k
  have hwhite := fun W hg hc => white_cells g off cap bs k W hg hcap (by omega) hk hc
  rw [hwh] at hwhite
  have HWHITE := Lib.hid hwhite
  have HC := Lib.hid hc
  clear hwhite hc hwh
  have hki : (k : Int) ≤ bs.length := by omega
  have HBP := Lib.hid hbp
  have HR := Lib.hid hr
  have HL := Lib.hid hl
  have HD := Lib.hid hd
  have HNUM := Lib.hid hnum
  clear hbp hr hl hd hgetP hnum
  generalize bs.getD p 0 = c at *
  go_enter Tryd.func11, Tryd.ntmps11
  go_wp2_with fail
  refine (HWHITE.out _ (by simp; omega) (fun j u hu => by rw [alloc_cell _ _ _ hg]; exact HC.out j u hu)).mono ?_
  rintro e w2 ⟨rfl, hb2⟩
  have hb2' : Below (nought w).heap.size (nought w) w2 := hb2
  clear hb2
  have hb3 : Below w.heap.size w w2 := (nought_below w).trans (hb2'.mono (by rw [nought_size]; omega))
  have hsz2 := hb2'.size
  rw [nought_size] at hsz2
  have hcell : ∀ j u, (bv bs)[j]? = some u → w2.cell? ⟨g, off + j, none⟩ = some u := fun j u hu => by rw [hb3.cell (p := ⟨g, off + j, none⟩) hg]; exact HC.out j u hu
  have HC2 := Lib.hid hcell
  have HB2 := Lib.hid hb2'
  clear hcell
  have hc2 : w2.cell? ⟨g, off + p, none⟩ = some (.int .u8 (c.toNat : Int)) := HC2.out p _ HBP.out
  clear hb2'
  go_wp2_with fail
  refine (letter_at c _ rfl _).mono ?_
  rintro e' w3 ⟨rfl, rfl⟩
  rw [HL.out]
  go_wp2_with fail
  refine (digit_at c _ rfl _).mono ?_
  rintro e' w3 ⟨rfl, rfl⟩
  rw [HD.out]
  go_wp2_with fail
  refine (HNUM.out _ (by omega) HC2.out).mono ?_
  rintro e' w3 ⟨rfl, hb4⟩
  have hb5 : Below (nought w).heap.size (nought w) w3 := HB2.out.trans (hb4.mono HB2.out.size)
  have hHB : ∀ o : Obj, Below (nought w).heap.size (nought w) (w3.alloc o) := fun o => hb5.alloc hb5.size o
  have hcl := fun o => nought_cell w (w3.alloc o) (hHB o)
  have hfr := fun o => nought_frozen w (w3.alloc o) (hHB o)
  have HHB := Lib.hid hHB
  have hsz3 := hb4.size
  clear hHB hb5 hb4
  cases hv : numberOk bs p
  · have HRF := Lib.hid (HR.out false hv)
    rw [if_neg (by decide)] at HRF
    rw [if_neg (by decide)]
    simp only [WordS.zero, WordS.cells]
    clear HR hv
    go_wp2_with fail
    obtain ⟨c0, c1, c2, c3, c4, hb5⟩ := st5_cells w (w3.alloc (.cells #[.int .i64 0, .string ⟨#[]⟩, .int .u64 0, .int .i64 0, .int .i64 0] 26)) (HHB.out _) (.int .i64 0) (.string ⟨#[]⟩) (.int .u64 0) (.int .i64 0) (.int .i64 0)
    change bodyPost _ _ _ _ _ (st5 (w3.alloc (.cells #[.int .i64 0, .string ⟨#[]⟩, .int .u64 0, .int .i64 0, .int .i64 0] 26)) w.heap.size (.int .i64 0) (.string ⟨#[]⟩) (.int .u64 0) (.int .i64 0) (.int .i64 0))
    generalize st5 (w3.alloc (.cells #[.int .i64 0, .string ⟨#[]⟩, .int .u64 0, .int .i64 0, .int .i64 0] 26)) w.heap.size (.int .i64 0) (.string ⟨#[]⟩) (.int .u64 0) (.int .i64 0) (.int .i64 0) = W5 at *
    clear hcl hfr
    refine bodyPost_ret (v := .tuple #[.agg WordS.zero.cells, .int .i64 50]) ?_ rfl ?_
    · simp [results, Tryd.results11, WordS.cells, WordS.zero, c0, c1, c2, c3, c4, go_sem]
    · rw [HRF.out]
      exact ⟨rfl, hb5⟩
  · have HRF := Lib.hid (HR.out true hv)
    rw [if_pos rfl] at HRF
    rw [if_pos rfl]
    generalize numberW bs p = nw at *
    obtain ⟨k1, t1, n1, a1, x1⟩ := nw
    simp only [WordS.cells]
    clear HR hv
    go_wp2_with fail
    obtain ⟨c0, c1, c2, c3, c4, hb5⟩ := st5_cells w (w3.alloc (.cells #[.int .i64 (k1 : Int), .string ⟨t1.toArray⟩, .int .u64 (n1 : Int), .int .i64 (a1 : Int), .int .i64 (x1 : Int)] 26)) (HHB.out _) (.int .i64 (k1 : Int)) (.string ⟨t1.toArray⟩) (.int .u64 (n1 : Int)) (.int .i64 (a1 : Int)) (.int .i64 (x1 : Int))
    change bodyPost _ _ _ _ _ (st5 (w3.alloc (.cells #[.int .i64 (k1 : Int), .string ⟨t1.toArray⟩, .int .u64 (n1 : Int), .int .i64 (a1 : Int), .int .i64 (x1 : Int)] 26)) w.heap.size (.int .i64 (k1 : Int)) (.string ⟨t1.toArray⟩) (.int .u64 (n1 : Int)) (.int .i64 (a1 : Int)) (.int .i64 (x1 : Int)))
    generalize st5 (w3.alloc (.cells #[.int .i64 (k1 : Int), .string ⟨t1.toArray⟩, .int .u64 (n1 : Int), .int .i64 (a1 : Int), .int .i64 (x1 : Int)] 26)) w.heap.size (.int .i64 (k1 : Int)) (.string ⟨t1.toArray⟩) (.int .u64 (n1 : Int)) (.int .i64 (a1 : Int)) (.int .i64 (x1 : Int)) = W5 at *
    clear hcl hfr
    refine bodyPost_ret (v := .tuple #[.agg (WordS.mk k1 t1 n1 a1 x1).cells, .int .i64 0]) ?_ rfl ?_
    · simp [results, Tryd.results11, WordS.cells, c0, c1, c2, c3, c4, go_sem]
    · rw [HRF.out]
      exact ⟨rfl, hb5⟩

def signFrom (l : List UInt8) (m : Nat) : Option (List UInt8) := (signsL.drop m).find? fun s => hasPre l s
theorem signFrom_step (l : List UInt8) (m : Nat) (hm : m < 29) : signFrom l m = if hasPre l (signsL.getD m []) = true then some (signsL.getD m []) else signFrom l (m + 1) := by
  unfold signFrom
  have : signsL.drop m = signsL.getD m [] :: signsL.drop (m + 1) := by
    have h : m < signsL.length := hm
    rw [List.drop_eq_getElem_cons h]
    simp [List.getD, h]
  rw [this, List.find?_cons]
  split <;> simp_all
theorem signs_len (m : Nat) (hm : m < 29) : 1 ≤ (signsL.getD m []).length ∧ (signsL.getD m []).length ≤ 2 := by
  have h : ∀ s ∈ signsL, 1 ≤ s.length ∧ s.length ≤ 2 := by decide
  refine h _ ?_
  have hl : m < signsL.length := hm
  have : signsL.getD m [] = signsL[m] := by simp [List.getD, hl]
  rw [this]
  exact List.getElem_mem hl

set_option maxRecDepth 100000 in
set_option maxHeartbeats 1000000 in
theorem take_sign (g off cap : Nat) (bs : List UInt8) (k p : Nat) (w : World) (ht : Tabs w) (hg : g < w.heap.size) (hcap : bs.length ≤ cap) (hmax : cap ≤ 9223372036854775807) (hk : k ≤ bs.length)
    (hwh : whiteAt bs k = p) (hc : ∀ j u, (bv bs)[j]? = some u → w.cell? ⟨g, off + j, none⟩ = some u) (hp : p < bs.length) (hl : letterB (bs.getD p 0) = false) (hd : digitB (bs.getD p 0) = false) :
    Calls Tryd.prog 11 #[.slice (some ⟨g, off, none⟩) bs.length cap, .int .i64 (k : Int)] w (Took (takeAt bs p) w) := by
  have hgetP : bs[p]? = some (bs.getD p 0) := by rw [List.getD_eq_getElem?_getD, List.getElem?_eq_getElem hp]; rfl
  have hbp := bv_at hgetP
  have hr : ∀ b, signFrom (bs.drop p) 0 = b → takeAt bs p = match b with | some s => (⟨3, s, 0, p, p + s.length⟩, 0) | none => (WordS.zero, 50) := by
    intro b hb
    unfold takeAt
    rw [if_neg (by omega), if_neg (by rw [hl]; decide), if_neg (by rw [hd]; decide)]
    have : signAt (bs.drop p) = b := hb
    rw [this]
    cases b <;> rfl
  have hdl : (bs.drop p).length = bs.length - p := List.length_drop
  have hsub : ∀ j u, (bv (bs.drop p))[j]? = some u → (bv bs)[p + j]? = some u := by
    intro j u hu
    unfold bv at hu
    rw [List.map_drop, List.getElem?_drop] at hu
    exact hu
  have hpi : (p : Int) < bs.length := by omega
  have hpe : ((p : Int) == (bs.length : Int)) = false := beq_eq_false_iff_ne.2 (by omega)
  have hpc : p < cap := by omega
  have hple : p ≤ bs.length := by rw [← hwh]; exact whiteAt_le bs k
  have hwhite := fun W hg hc => white_cells g off cap bs k W hg hcap (by omega) hk hc
  rw [hwh] at hwhite
  have HWHITE := Lib.hid hwhite
  have HC := Lib.hid hc
  clear hwhite hc hwh
  have hki : (k : Int) ≤ bs.length := by omega
  have HBP := Lib.hid hbp
  have HR := Lib.hid hr
  have HL := Lib.hid hl
  have HD := Lib.hid hd
  have HSUB := Lib.hid hsub
  have HDL := Lib.hid hdl
  clear hbp hr hl hd hgetP hsub hdl
  generalize bs.getD p 0 = c at *
  generalize bs.drop p = l at *
  have hi := idx_signs
  obtain ⟨sv, hsv⟩ : ∃ sv, tabV signsL = sv := ⟨_, rfl⟩
  rw [hsv] at hi
  have hsz : (Tryd.prog.info? 67).map (·.size) = some sv.size := by rw [← hsv]; kernel_rfl
  have HS := Lib.hid hsz
  have HI := Lib.hid hi
  have HSV := Lib.hid hsv
  clear hsz hi hsv
  go_enter Tryd.func11, Tryd.ntmps11
  go_wp2_with fail
  refine (HWHITE.out _ (by simp; omega) (fun j u hu => by rw [alloc_cell _ _ _ hg]; exact HC.out j u hu)).mono ?_
  rintro e w2 ⟨rfl, hb2⟩
  have hb2' : Below (nought w).heap.size (nought w) w2 := hb2
  clear hb2
  have hb3 : Below w.heap.size w w2 := (nought_below w).trans (hb2'.mono (by rw [nought_size]; omega))
  have hsz2 := hb2'.size
  rw [nought_size] at hsz2
  have hcell : ∀ j u, (bv bs)[j]? = some u → w2.cell? ⟨g, off + j, none⟩ = some u := fun j u hu => by rw [hb3.cell (p := ⟨g, off + j, none⟩) hg]; exact HC.out j u hu
  have HC2 := Lib.hid hcell
  have HB2 := Lib.hid hb2'
  clear hcell
  have hc2 : w2.cell? ⟨g, off + p, none⟩ = some (.int .u8 (c.toNat : Int)) := HC2.out p _ HBP.out
  obtain ⟨tt, fr, hrow⟩ := (ht.below hb3).signs
  rw [HSV.out] at hrow
  have HK := Lib.hid hrow
  clear hb2' hrow
  go_wp2_with fail
  refine (letter_at c _ rfl _).mono ?_
  rintro e' w3 ⟨rfl, rfl⟩
  rw [HL.out]
  go_wp2_with fail
  refine (digit_at c _ rfl _).mono ?_
  rintro e' w3 ⟨rfl, rfl⟩
  rw [HD.out]
  clear hc2
  go_wp2_with (refine wpList_load_row rfl 67 _ rfl 0 rfl _ sv _ _ HK.out Tryd.underlying67 rfl HS.out ?_)
  go_loopw [71] (fun i wr => ∃ m : Nat, i = .int .i64 m ∧ m ≤ 29 ∧ Hid (signFrom l 0 = signFrom l m) ∧ Below w2.heap.size w2 wr) (fun i _ => (29 - intOf i).toNat)
  case atStart => exact ⟨0, rfl, by omega, Lib.hid rfl, Below.refl _ _⟩
  case round =>
    obtain ⟨m, rfl, hm, HM, hbr⟩ := hrel
    have HBR := Lib.hid (HB2.out.trans (hbr.mono HB2.out.size))
    have hszr := hbr.size
    by_cases hlt : m < 29
    · have hik := HI.out m hlt
      have hst := signFrom_step l m hlt
      have hql := signs_len m hlt
      generalize signsL.getD m [] = q at *
      have HST := Lib.hid hst
      clear hst
      have hqsz : (ByteArray.mk q.toArray).size = q.length := by simp [ByteArray.size]
      have hqd : (ByteArray.mk q.toArray).data.toList = q := by simp
      have kc := Lib.run_convert_string_bytes (P := Tryd.prog) wr 9 22 5 ⟨q.toArray⟩ Tryd.underlying9 Tryd.underlying22 Tryd.underlying5
      rw [hqsz] at kc
      have ho := own_bytesWorld wr wr.heap.size 5 ⟨q.toArray⟩ (Nat.le_refl _) (by rw [hqsz]; unfold maxLen; omega)
      rw [hqsz, hqd] at ho
      have hbq := below_bytesWorld wr wr.heap.size 5 ⟨q.toArray⟩ (Nat.le_refl _)
      have hcq := ho.cells rfl
      generalize grownCap wr q.length 0 5 = qcap at *
      generalize Lib.bytesWorld wr 5 ⟨q.toArray⟩ = wb at *
      have hbb := hbr.trans (hbq.mono hbr.size)
      have hBB := HB2.out.trans (hbb.mono HB2.out.size)
      have hpre := bytes_HasPrefix g (off + p) (bs.length - p) (cap - p) wr.heap.size 0 qcap l q wb HDL.out (by omega) (by omega) (by omega) (by omega)
        (fun j u hu => by
          have h1 := HC2.out _ _ (HSUB.out j u hu)
          rw [← hbb.cell (p := ⟨g, off + (p + j), none⟩) (by show g < _; omega)] at h1
          rw [show off + p + j = off + (p + j) by omega]
          exact h1) hcq
      have HPRE := Lib.hid hpre
      have hcl := nought_cell w wb hBB
      have hfr := nought_frozen w wb hBB
      have HBB := Lib.hid hBB
      have HHBB := Lib.hid hbb
      clear ho hcq hqsz hqd hpre hbb hBB hbq
      cases hv : hasPre l q
      · rw [hv] at HPRE HST
        have HN : Hid (signFrom l 0 = signFrom l (m + 1)) := by
          unfold Hid
          rw [HM.out, HST.out]
          rfl
        clear hv HST hcl hfr
        go_wp2_with fail
        refine HPRE.out.mono ?_
        rintro e' w3 ⟨rfl, rfl⟩
        go_wp2_with fail
        go_roundw
        case rel => exact ⟨m + 1, by go_num, by omega, HN, HHBB.out⟩
        case measure => simp [intOf]; omega
      · rw [hv] at HPRE HST
        have HRF := Lib.hid (HR.out (some q) (by rw [HM.out, HST.out]; rfl))
        simp only at HRF
        have hqn := (List.isPrefixOf_iff_prefix.1 hv).length_le
        rw [HDL.out] at hqn
        clear hv HST HR
        have hpq : (p : Int) + (q.length : Int) ≤ 9223372036854775807 := by omega
        go_wp2_with fail
        refine HPRE.out.mono ?_
        rintro e' w3 ⟨rfl, rfl⟩
        go_wp2_with fail
        obtain ⟨c0, c1, c2, c3, c4, hb5⟩ := st5_cells w wb HBB.out (.int .i64 3) (.string ⟨q.toArray⟩) (.int .u64 0) (.int .i64 (p : Int)) (.int .i64 ((p : Int) + (q.length : Int)))
        change bodyPost _ _ _ _ _ (st5 wb w.heap.size (.int .i64 3) (.string ⟨q.toArray⟩) (.int .u64 0) (.int .i64 (p : Int)) (.int .i64 ((p : Int) + (q.length : Int))))
        generalize st5 wb w.heap.size (.int .i64 3) (.string ⟨q.toArray⟩) (.int .u64 0) (.int .i64 (p : Int)) (.int .i64 ((p : Int) + (q.length : Int))) = W5 at *
        clear hcl hfr
        refine bodyPost_ret (v := .tuple #[.agg (WordS.mk 3 q 0 p (p + q.length)).cells, .int .i64 0]) ?_ rfl ?_
        · simp [results, Tryd.results11, WordS.cells, c0, c1, c2, c3, c4, go_sem]
        · rw [HRF.out]
          exact ⟨rfl, hb5⟩
    · obtain rfl : m = 29 := by omega
      have HRF := Lib.hid (HR.out none (by rw [HM.out]; rfl))
      simp only at HRF
      clear HR
      have hcl := nought_cell w wr HBR.out
      have hfr := nought_frozen w wr HBR.out
      go_wp2_with fail
      obtain ⟨c0, c1, c2, c3, c4, hb5⟩ := st5_cells w wr HBR.out (.int .i64 0) (.string ⟨#[]⟩) (.int .u64 0) (.int .i64 0) (.int .i64 0)
      change bodyPost _ _ _ _ _ (st5 wr w.heap.size (.int .i64 0) (.string ⟨#[]⟩) (.int .u64 0) (.int .i64 0) (.int .i64 0))
      generalize st5 wr w.heap.size (.int .i64 0) (.string ⟨#[]⟩) (.int .u64 0) (.int .i64 0) (.int .i64 0) = W5 at *
      clear hcl hfr
      refine bodyPost_ret (v := .tuple #[.agg WordS.zero.cells, .int .i64 50]) ?_ rfl ?_
      · simp [results, Tryd.results11, WordS.cells, WordS.zero, c0, c1, c2, c3, c4, go_sem]
      · rw [HRF.out]
        exact ⟨rfl, hb5⟩
end Go.Proofs.YtaelanpmgckfkaaRRRRDoor
