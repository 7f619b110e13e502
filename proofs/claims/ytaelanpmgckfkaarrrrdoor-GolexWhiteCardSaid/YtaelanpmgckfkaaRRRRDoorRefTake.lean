/- The document's Take. -/
import Derived.Test.YtaelanpmgckfkaaRRRRDoorRefLex
import Derived.Test.YtaelanpmgckfkaaRRRRDoorNumRule
namespace Go.Proofs.YtaelanpmgckfkaaRRRRDoor
open Go.RowKit Go.Av

/-- The world that holds the result's five cells, at first rnought. -/
def rnought (w : World) : World := w.alloc (.cells #[.int .i64 0, .string ⟨#[]⟩, .int .u64 0, .int .i64 0, .int .i64 0] 30)
theorem rnought_size (w : World) : (rnought w).heap.size = w.heap.size + 1 := by simp [rnought]
theorem rnought_below (w : World) : Below w.heap.size w (rnought w) := (Below.refl _ _).alloc (Nat.le_refl _) _
theorem rst5_cells (w W : World) (hb : Below (rnought w).heap.size (rnought w) W) (v0 v1 v2 v3 v4 : Value) :
    (st5 W w.heap.size v0 v1 v2 v3 v4).cell? ⟨w.heap.size, 0, none⟩ = some v0 ∧ (st5 W w.heap.size v0 v1 v2 v3 v4).cell? ⟨w.heap.size, 1, none⟩ = some v1 ∧ (st5 W w.heap.size v0 v1 v2 v3 v4).cell? ⟨w.heap.size, 2, none⟩ = some v2 ∧
    (st5 W w.heap.size v0 v1 v2 v3 v4).cell? ⟨w.heap.size, 3, none⟩ = some v3 ∧ (st5 W w.heap.size v0 v1 v2 v3 v4).cell? ⟨w.heap.size, 4, none⟩ = some v4 ∧ Below w.heap.size w (st5 W w.heap.size v0 v1 v2 v3 v4) := by
  have hcl0 : ∀ k : Nat, k < 5 → ∃ v, W.cell? ⟨w.heap.size, k, none⟩ = some v := by
    intro k hk
    rw [hb.cell (p := ⟨w.heap.size, k, none⟩) (by rw [rnought_size]; exact Nat.lt_succ_self _)]
    simp only [rnought, World.cell?, World.alloc, Array.getElem?_push_size]
    have : k = 0 ∨ k = 1 ∨ k = 2 ∨ k = 3 ∨ k = 4 := by omega
    rcases this with rfl | rfl | rfl | rfl | rfl <;> exact ⟨_, rfl⟩
  obtain ⟨u0, h0⟩ := hcl0 0 (by omega)
  obtain ⟨u1, h1⟩ := hcl0 1 (by omega)
  obtain ⟨u2, h2⟩ := hcl0 2 (by omega)
  obtain ⟨u3, h3⟩ := hcl0 3 (by omega)
  obtain ⟨u4, h4⟩ := hcl0 4 (by omega)
  have hb0 : Below w.heap.size w W := (rnought_below w).trans (hb.mono (by rw [rnought_size]; omega))
  unfold st5
  refine ⟨?_, ?_, ?_, ?_, ?_, ?_⟩
  · exact (cell_off _ _ 4 0 _ (by decide)).trans ((cell_off _ _ 3 0 _ (by decide)).trans ((cell_off _ _ 2 0 _ (by decide)).trans ((cell_off _ _ 1 0 _ (by decide)).trans (World.cell?_setCell_same _ _ _ (u := u0) (h0)))))
  · exact (cell_off _ _ 4 1 _ (by decide)).trans ((cell_off _ _ 3 1 _ (by decide)).trans ((cell_off _ _ 2 1 _ (by decide)).trans (World.cell?_setCell_same _ _ _ (u := u1) ((cell_off _ _ 0 1 _ (by decide)).trans (h1)))))
  · exact (cell_off _ _ 4 2 _ (by decide)).trans ((cell_off _ _ 3 2 _ (by decide)).trans (World.cell?_setCell_same _ _ _ (u := u2) ((cell_off _ _ 1 2 _ (by decide)).trans ((cell_off _ _ 0 2 _ (by decide)).trans (h2)))))
  · exact (cell_off _ _ 4 3 _ (by decide)).trans (World.cell?_setCell_same _ _ _ (u := u3) ((cell_off _ _ 2 3 _ (by decide)).trans ((cell_off _ _ 1 3 _ (by decide)).trans ((cell_off _ _ 0 3 _ (by decide)).trans (h3)))))
  · exact World.cell?_setCell_same _ _ _ (u := u4) ((cell_off _ _ 3 4 _ (by decide)).trans ((cell_off _ _ 2 4 _ (by decide)).trans ((cell_off _ _ 1 4 _ (by decide)).trans ((cell_off _ _ 0 4 _ (by decide)).trans h4))))
  · exact ((((hb0.setCell (Nat.le_refl _) _).setCell (Nat.le_refl _) _).setCell (Nat.le_refl _) _).setCell (Nat.le_refl _) _).setCell (Nat.le_refl _) _
theorem rnought_cell (w W : World) (hb : Below (rnought w).heap.size (rnought w) W) (k : Nat) : W.cell? ⟨w.heap.size, k, none⟩ = (w.alloc (.cells #[.int .i64 0, .string ⟨#[]⟩, .int .u64 0, .int .i64 0, .int .i64 0] 30)).cell? ⟨w.heap.size, k, none⟩ :=
  hb.cell (p := ⟨w.heap.size, k, none⟩) (by rw [rnought_size]; exact Nat.lt_succ_self _)
theorem rnought_frozen (w W : World) (hb : Below (rnought w).heap.size (rnought w) W) (k : Nat) : W.frozen? ⟨w.heap.size, k, none⟩ = (w.alloc (.cells #[.int .i64 0, .string ⟨#[]⟩, .int .u64 0, .int .i64 0, .int .i64 0] 30)).frozen? ⟨w.heap.size, k, none⟩ :=
  hb.frozen (p := ⟨w.heap.size, k, none⟩) (by rw [rnought_size]; exact Nat.lt_succ_self _)


set_option maxRecDepth 100000 in
set_option maxHeartbeats 1000000 in
theorem rfTake_arg (v : Value) (n : Nat) (i : Int) (w : World) (hv : ∃ a cap, v = .slice a n cap) (hi : i < 0 ∨ (¬ i < 0 ∧ i > n)) : Calls Tryd.prog 12 #[v, .int .i64 i] w (Took (WordS.zero, 2) w) := by
  obtain ⟨a, cap, rfl⟩ := hv
  rcases hi with h | ⟨h, h'⟩
  all_goals
    go_enter Tryd.func12, Tryd.ntmps12
    go_wp2_with fail
    exact bodyPost_ret (v := .tuple #[.agg WordS.zero.cells, .int .i64 2]) (by simp [results, Tryd.results12, WordS.cells, WordS.zero, go_sem]) rfl ⟨rfl, (Below.refl _ _).alloc (Nat.le_refl _) _⟩

set_option maxRecDepth 100000 in
set_option maxHeartbeats 2000000 in
theorem rfTake_cells (g off cap : Nat) (bs : List UInt8) (k : Nat) (w : World) (hg : g < w.heap.size) (hcap : bs.length ≤ cap) (hmax : cap ≤ 9223372036854775807) (hk : k ≤ bs.length) (hlen : bs.length ≤ 1099511627)
    (hc : ∀ j u, (bv bs)[j]? = some u → w.cell? ⟨g, off + j, none⟩ = some u) :
    Calls Tryd.prog 12 #[.slice (some ⟨g, off, none⟩) bs.length cap, .int .i64 (k : Int)] w (Took (takeAt bs (whiteAt bs k)) w) := by
  have HSIGN := Lib.hid (fun m W hg hm hc => rfSign g off cap bs m W hg hcap hmax hm hlen hc)
  have HHAS := Lib.hid (fun m W hm hc => rfHas g off cap bs m [47, 47] W hcap hmax hm hlen (by decide) (by decide) hc)
  have HC := Lib.hid hc
  clear hc
  have hki : (k : Int) ≤ bs.length := by omega
  go_enter Tryd.func12, Tryd.ntmps12
  go_wp2_with fail
  obtain ⟨W, hW⟩ : ∃ W, W = w.alloc (Obj.cells #[.int .i64 0, .string ⟨#[]⟩, .int .u64 0, .int .i64 0, .int .i64 0] 30) := ⟨_, rfl⟩
  rw [← hW]
  have hd1 : decide (bs.length < k) = false := decide_eq_false (by omega)
  have hd2 : decide ((k : Int) < 0) = false := decide_eq_false (by omega)
  simp only [hd1, hd2, Bool.or_false]
  clear hd1 hd2
  have hcw : ∀ j u, (bv bs)[j]? = some u → W.cell? ⟨g, off + j, none⟩ = some u := fun j u hu => by rw [hW, alloc_cell _ _ _ hg]; exact HC.out j u hu
  have HCW := Lib.hid hcw
  have HW := Lib.hid hW
  clear hcw hW
  go_loopw [1] (fun i wr => ∃ m : Nat, i = .int .i64 m ∧ k ≤ m ∧ m ≤ bs.length ∧ Hid (skipM false (bs.drop k) = skipM false (bs.drop m)) ∧ Hid (wr = W)) (fun i _ => (bs.length - intOf i).toNat)
  case atStart => exact ⟨k, rfl, by omega, hk, Lib.hid rfl, Lib.hid rfl⟩
  case round =>
    obtain ⟨m, rfl, hkm, hm, HM, HWR⟩ := hrel
    have HWR2 := HWR.out
    subst HWR2
    by_cases hlt : m < bs.length
    · have hget : bs[m]? = some (bs.getD m 0) := by rw [List.getD_eq_getElem?_getD, List.getElem?_eq_getElem hlt]; rfl
      have hdr := drop_cons_of hget
      have hcm := HCW.out m _ (bv_at hget)
      have hhas := HHAS.out m _ hm HCW.out
      have hps := pre_slash (bs.drop m) (bs.getD m 0) (bs.drop (m + 1)) hdr
      obtain ⟨c, hcc⟩ : ∃ c, bs.getD m 0 = c := ⟨_, rfl⟩
      rw [hcc] at hget hdr hcm hps
      have HDR := Lib.hid hdr
      have HGET := Lib.hid hget
      have HCC := Lib.hid hcc
      have hc256 : (c.toNat : Int) < 256 := by have := c.toNat_lt; omega
      have hmcap : m < cap := by omega
      clear hdr hget hcc
      by_cases hw : whiteB c = true
      · have hnp : hasPre (bs.drop m) [47, 47] = false := by
          rw [Bool.eq_false_iff]
          intro e
          have := (hps.1 e).1
          unfold whiteB at hw
          rw [decide_eq_true_iff] at hw
          omega
        rw [hnp] at hhas
        have HN : Hid (skipM false (bs.drop k) = skipM false (bs.drop (m + 1))) := by
          unfold Hid
          rw [HM.out, HDR.out, skip_white _ _ hw]
        have hww : (c.toNat : Int) = 32 ∨ (c.toNat : Int) = 9 ∨ (c.toNat : Int) = 10 ∨ (c.toNat : Int) = 13 := by
          unfold whiteB at hw
          rw [decide_eq_true_iff] at hw
          omega
        have HH := Lib.hid hhas
        clear hhas hps hnp hw hc256
        rcases hww with e | e | e | e
        all_goals
          rw [e] at hcm
          clear e
          go_wp2_with fail
          refine HH.out.mono ?_
          rintro e' w3 ⟨rfl, rfl⟩
          go_wp2_with fail
          go_roundw
          case rel => exact ⟨m + 1, by go_num, by omega, by omega, HN, HWR⟩
          case measure => simp [intOf]; omega
      · have e32 : ((c.toNat : Int) == 32) = false := beq_eq_false_iff_ne.2 (fun h => hw (by unfold whiteB; rw [decide_eq_true_iff]; omega))
        have e9 : ((c.toNat : Int) == 9) = false := beq_eq_false_iff_ne.2 (fun h => hw (by unfold whiteB; rw [decide_eq_true_iff]; omega))
        have e10 : ((c.toNat : Int) == 10) = false := beq_eq_false_iff_ne.2 (fun h => hw (by unfold whiteB; rw [decide_eq_true_iff]; omega))
        have e13 : ((c.toNat : Int) == 13) = false := beq_eq_false_iff_ne.2 (fun h => hw (by unfold whiteB; rw [decide_eq_true_iff]; omega))
        have HH := Lib.hid hhas
        have HPS := Lib.hid hps
        clear hhas hps
        cases hv : hasPre (bs.drop m) [47, 47]
        · rw [hv] at HH
          have hwa : whiteAt bs k = m := by
            refine whiteAt_of bs k m hm ?_
            rw [HM.out, HDR.out, skip_stop c _ hw]
            intro h
            have := HPS.out.2 h
            rw [hv] at this
            cases this
          clear hw
          go_wp2_with fail
          refine HH.out.mono ?_
          rintro e' w3 ⟨rfl, rfl⟩
          go_wp2_with fail
          refine (rfLetter c _ rfl _).mono ?_
          rintro e' w3 ⟨rfl, rfl⟩
          cases hL : letterB c
          · have HL := Lib.hid hL
            go_wp2_with fail
            refine (rfDigit c _ rfl _).mono ?_
            rintro e' w3 ⟨rfl, rfl⟩
            cases hD : digitB c
            · have hsg := HSIGN.out m wr (by rw [HW.out]; simp; omega) hlt HCW.out
              have hsl2 : ∀ q, signFrom (bs.drop m) 0 = some q → hasPre (bs.drop m) q = true := fun q h => List.find?_some (show signAt (bs.drop m) = some q from h)
              cases hq : signFrom (bs.drop m) 0 with
              | none =>
                have hn0 := signLen_none hq
                have hr : takeAt bs m = (WordS.zero, 50) := by
                  unfold takeAt
                  rw [if_neg (by omega), HCC.out, if_neg (by rw [HL.out]; decide), if_neg (by rw [hD]; decide), show signAt (bs.drop m) = none from hq]
                rw [hn0] at hsg
                clear hsl2 hq hn0 hcm
                go_wp2_with fail
                refine hsg.mono ?_
                rintro e' w4 ⟨rfl, hb4⟩
                have hbn : Below (rnought w).heap.size (rnought w) w4 := by
                  have h := hb4
                  rw [HW.out] at h
                  exact h
                have hcl := rnought_cell w w4 hbn
                have hfr := rnought_frozen w w4 hbn
                clear hsg
                go_wp2_with fail
                obtain ⟨c0, c1, c2, c3, c4, hb5⟩ := rst5_cells w w4 hbn (.int .i64 0) (.string ⟨#[]⟩) (.int .u64 0) (.int .i64 0) (.int .i64 0)
                change bodyPost _ _ _ _ _ (st5 w4 w.heap.size (.int .i64 0) (.string ⟨#[]⟩) (.int .u64 0) (.int .i64 0) (.int .i64 0))
                generalize st5 w4 w.heap.size (.int .i64 0) (.string ⟨#[]⟩) (.int .u64 0) (.int .i64 0) (.int .i64 0) = W5 at *
                clear hcl hfr
                refine bodyPost_ret (v := .tuple #[.agg WordS.zero.cells, .int .i64 50]) ?_ rfl ?_
                · simp [results, Tryd.results12, WordS.cells, WordS.zero, c0, c1, c2, c3, c4, go_sem]
                · first | rw [hwa, hr] | rw [hr] | skip
                  exact ⟨rfl, hb5⟩
              | some q =>
                have hnq := signLen_some hq
                have hpq := hsl2 q hq
                have hpre := List.isPrefixOf_iff_prefix.1 hpq
                have hql := hpre.length_le
                rw [List.length_drop] at hql
                have hq1 : 1 ≤ q.length := by
                  have h3 : ∀ s ∈ signsL, 1 ≤ s.length := by decide
                  exact h3 q (List.mem_of_find?_eq_some (show signAt (bs.drop m) = some q from hq))
                have hr : takeAt bs m = (⟨3, q, 0, m, m + q.length⟩, 0) := by
                  unfold takeAt
                  rw [if_neg (by omega), HCC.out, if_neg (by rw [HL.out]; decide), if_neg (by rw [hD]; decide), show signAt (bs.drop m) = some q from hq]
                have htk : (bs.drop m).take q.length = q := (List.prefix_iff_eq_take.1 hpre).symm
                rw [hnq] at hsg
                have hq0 : ((q.length : Int) == 0) = false := beq_eq_false_iff_ne.2 (by omega)
                have hmq : (m : Int) + (q.length : Int) ≤ cap := by omega
                have hmq2 : m + q.length ≤ cap := by omega
                have HSG := Lib.hid hsg
                have HTK := Lib.hid htk
                have HRR := Lib.hid hr
                clear hsl2 hq hnq hcm hpq hpre hsg htk hr
                go_wp2_with fail
                refine HSG.out.mono ?_
                rintro e' w4 ⟨rfl, hb4⟩
                have hbn : Below (rnought w).heap.size (rnought w) w4 := by
                  have h := hb4
                  rw [HW.out] at h
                  exact h
                have hcl := rnought_cell w w4 hbn
                have hfr := rnought_frozen w w4 hbn
                have hcv : (convert 22 9 (.slice (some ⟨g, off + m, none⟩) q.length (cap - m))).run Tryd.prog w4 = .ok (.string ⟨q.toArray⟩) w4 := conv_cells g (off + m) (cap - m) q.length q w4 rfl (fun j u hu => by
                  have h1 : (bv bs)[m + j]? = some u := by
                    rw [← HTK.out] at hu
                    unfold bv at hu ⊢
                    rw [List.map_take, List.map_drop, List.getElem?_take] at hu
                    split at hu
                    · rw [List.getElem?_drop] at hu
                      exact hu
                    · cases hu
                  have h2 := HCW.out _ _ h1
                  rw [← hb4.cell (p := ⟨g, off + (m + j), none⟩) (by rw [HW.out]; simp; omega)] at h2
                  rw [show off + m + j = off + (m + j) by omega]
                  exact h2)
                have HBN := Lib.hid hbn
                clear hbn hb4 HSG
                go_wp2_with fail
                have hr := HRR.out
                obtain ⟨c0, c1, c2, c3, c4, hb5⟩ := rst5_cells w w4 HBN.out (.int .i64 3) (.string ⟨q.toArray⟩) (.int .u64 0) (.int .i64 (m : Int)) (.int .i64 ((m : Int) + (q.length : Int)))
                change bodyPost _ _ _ _ _ (st5 w4 w.heap.size (.int .i64 3) (.string ⟨q.toArray⟩) (.int .u64 0) (.int .i64 (m : Int)) (.int .i64 ((m : Int) + (q.length : Int))))
                generalize st5 w4 w.heap.size (.int .i64 3) (.string ⟨q.toArray⟩) (.int .u64 0) (.int .i64 (m : Int)) (.int .i64 ((m : Int) + (q.length : Int))) = W5 at *
                clear hcl hfr
                refine bodyPost_ret (v := .tuple #[.agg (WordS.mk 3 q 0 m (m + q.length)).cells, .int .i64 0]) ?_ rfl ?_
                · simp [results, Tryd.results12, WordS.cells, c0, c1, c2, c3, c4, go_sem]
                · first | rw [hwa, hr] | rw [hr] | skip
                  exact ⟨rfl, hb5⟩
            · have hd0 : digitB (bs.getD m 0) = true := by rw [HCC.out]; exact hD
              obtain ⟨hdl, hdat, hdall⟩ := digits_at bs m (by omega)
              have hgt := runAt_gt digitB bs m hlt hd0
              have hle2 := (runAt_le digitB bs m (by omega)).2
              have hrule := number_rule bs m hlt hd0
              have hnot := runAt_not digitB bs m
              have hval := number_le bs m
              have hr : ∀ b : Bool, numberOk bs m = b → takeAt bs m = if b = true then (⟨2, digitsAt bs m, valD (digitsAt bs m), m, runAt digitB bs m⟩, 0) else (WordS.zero, 50) := by
                intro b hb
                unfold takeAt
                rw [if_neg (by omega), if_neg (by rw [HCC.out, HL.out]; decide), if_pos hd0, hb]
                rfl
              rw [HCC.out] at hrule
              have hc48 : decide (c = 48) = ((c.toNat : Int) == 48) := by
                rw [Bool.eq_iff_iff, decide_eq_true_iff, beq_iff_eq]
                constructor
                · intro h; rw [h]; rfl
                · intro h
                  apply UInt8.toNat.inj
                  show _ = 48
                  omega
              rw [hc48] at hrule
              obtain ⟨e, hE⟩ : ∃ e, runAt digitB bs m = e := ⟨_, rfl⟩
              obtain ⟨ds, hDS⟩ : ∃ ds, digitsAt bs m = ds := ⟨_, rfl⟩
              rw [hE] at hgt hle2 hdl hdat hrule hnot
              rw [hDS] at hdl hdat hdall hrule hval
              rw [hE, hDS] at hr
              have hco : ∀ (o : Obj) (q : Nat) (a : UInt8), bs[q]? = some a → (w.alloc o).cell? ⟨g, off + q, none⟩ = some (.int .u8 (a.toNat : Int)) := by
                intro o q a hq
                rw [alloc_cell _ _ _ hg]
                exact HC.out q _ (bv_at hq)
              have hcK : ∀ o : Obj, (w.alloc o).cell? ⟨g, off + m, none⟩ = some (.int .u8 (c.toNat : Int)) := fun o => hco o m c HGET.out
              have hconv : ∀ o : Obj, (convert 22 9 (.slice (some ⟨g, off + m, none⟩) (e - m) (cap - m))).run Tryd.prog (w.alloc o) = .ok (.string ⟨ds.toArray⟩) (w.alloc o) := by
                intro o
                refine conv_cells g (off + m) (cap - m) (e - m) ds _ hdl ?_
                intro j u hu
                have hj : j < e - m := by
                  have := (List.getElem?_eq_some_iff.1 hu).1
                  rw [bv_length] at this
                  omega
                obtain ⟨a, ha, _, hba⟩ := hdat j hj
                rw [bv_at ha] at hu
                rw [show off + m + j = off + (m + j) by omega, ← hu]
                exact hco o _ _ hba
              have HCO := Lib.hid hco
              have HDAT := Lib.hid hdat
              have HDL := Lib.hid hdl
              have HRU := Lib.hid hrule
              have HNOT := Lib.hid hnot
              have HVAL := Lib.hid hval
              have HR := Lib.hid hr
              have HCV := Lib.hid hconv
              have HCK := Lib.hid hcK
              clear hd0 hdl hdat hdall hrule hnot hval hr hc48 hE hDS hco hcK hconv hcm
              rw [HW.out]
              go_wp2_with fail
              go_loop [6] (fun i => ∃ j : Nat, i = .int .i64 j ∧ m ≤ j ∧ j ≤ e) (fun i => (e - intOf i).toNat)
              case atStart => exact ⟨m, rfl, by omega, by omega⟩
              case round =>
                obtain ⟨j, rfl, hmj, hje⟩ := hrel
                by_cases hjl : j < e
                · obtain ⟨a, _, had, hba⟩ := HDAT.out (j - m) (by omega)
                  rw [show m + (j - m) = j by omega] at hba
                  have hca := fun o => HCO.out o j a hba
                  have hjc : j < cap := by omega
                  have hjb : j < bs.length := by omega
                  clear hba
                  go_wp2_with fail
                  refine (rfDigit a _ rfl _).mono ?_
                  rintro e' w3 ⟨rfl, rfl⟩
                  rw [had]
                  go_wp2_with fail
                  exact ⟨⟨j + 1, by go_num, by omega, by omega⟩, by simp [intOf]; omega⟩
                · obtain rfl : j = e := by omega
                  clear hjl
                  have hcE : j < bs.length → ∀ o : Obj, (w.alloc o).cell? ⟨g, off + j, none⟩ = some (.int .u8 ((bs.getD j 0).toNat : Int)) := fun h o => HCO.out o j _ (by rw [List.getD_eq_getElem?_getD, List.getElem?_eq_getElem h]; rfl)
                  have hru := HRU.out
                  have hnot := HNOT.out
                  have HR0 := Lib.hid (HR.out false)
                  have HR1 := Lib.hid (HR.out true)
                  generalize bs.getD j 0 = cE at *
                  generalize numberOk bs m = nk at *
                  have hE3 : (¬ (j : Int) < bs.length ∧ (decide (j < bs.length) && letterB cE) = false) ∨ ((j : Int) < bs.length ∧ j < cap ∧ digitB cE = false ∧ letterB cE = true ∧ ∀ o : Obj, (w.alloc o).cell? ⟨g, off + j, none⟩ = some (.int .u8 (cE.toNat : Int))) ∨
                      ((j : Int) < bs.length ∧ j < cap ∧ digitB cE = false ∧ letterB cE = false ∧ ∀ o : Obj, (w.alloc o).cell? ⟨g, off + j, none⟩ = some (.int .u8 (cE.toNat : Int))) := by
                    by_cases h : j < bs.length
                    · cases hx : letterB cE
                      · exact .inr (.inr ⟨by omega, by omega, hnot h, rfl, hcE h⟩)
                      · exact .inr (.inl ⟨by omega, by omega, hnot h, rfl, hcE h⟩)
                    · exact .inl ⟨by omega, by rw [decide_eq_false h]; rfl⟩
                  have hru2 : letterB cE = false ∨ ¬ j < bs.length → (decide (j < bs.length) && letterB cE) = false := by
                    rintro (h | h)
                    · rw [h, Bool.and_false]
                    · rw [decide_eq_false h]; rfl
                  have HT : Hid ((decide (j < bs.length) && letterB cE) = false → (((c.toNat : Int) == 48) = true ∧ (j : Int) > m + 1 ∧ nk = false) ∨ (((c.toNat : Int) == 48) = true ∧ ¬ (j : Int) > m + 1 ∧ ¬ (j : Int) - m > 20 ∧ ((j : Int) - m == 20) = false ∧ nk = true) ∨
                      (((c.toNat : Int) == 48) = false ∧ (j : Int) - m > 20 ∧ nk = false) ∨ (((c.toNat : Int) == 48) = false ∧ ¬ (j : Int) - m > 20 ∧ ((j : Int) - m == 20) = true ∧ Op.bytesLess ds [49, 56, 52, 52, 54, 55, 52, 52, 48, 55, 51, 55, 48, 57, 53, 53, 49, 54, 49, 53] = false ∧ (ds == [49, 56, 52, 52, 54, 55, 52, 52, 48, 55, 51, 55, 48, 57, 53, 53, 49, 54, 49, 53]) = false ∧ nk = false) ∨
                      (((c.toNat : Int) == 48) = false ∧ ¬ (j : Int) - m > 20 ∧ ((j : Int) - m == 20) = true ∧ Op.bytesLess ds [49, 56, 52, 52, 54, 55, 52, 52, 48, 55, 51, 55, 48, 57, 53, 53, 49, 54, 49, 53] = true ∧ nk = true) ∨ (((c.toNat : Int) == 48) = false ∧ ¬ (j : Int) - m > 20 ∧ ((j : Int) - m == 20) = true ∧ Op.bytesLess ds [49, 56, 52, 52, 54, 55, 52, 52, 48, 55, 51, 55, 48, 57, 53, 53, 49, 54, 49, 53] = false ∧ (ds == [49, 56, 52, 52, 54, 55, 52, 52, 48, 55, 51, 55, 48, 57, 53, 53, 49, 54, 49, 53]) = true ∧ nk = true) ∨ (((c.toNat : Int) == 48) = false ∧ ¬ (j : Int) - m > 20 ∧ ((j : Int) - m == 20) = false ∧ nk = true)) := by
                    unfold Hid
                    intro h1
                    rw [h1] at hru
                    cases h48 : ((c.toNat : Int) == 48)
                    · rw [h48] at hru
                      right; right
                      by_cases h20 : 20 < j - m
                      · exact .inl ⟨rfl, by omega, by rw [hru, decide_eq_true h20]; simp⟩
                      · right
                        by_cases he20 : j - m = 20
                        · rw [decide_eq_false h20, decide_eq_true he20] at hru
                          have he : ((j : Int) - m == 20) = true := beq_iff_eq.2 (by omega)
                          have hov : overS ds = !(Op.bytesLess ds [49, 56, 52, 52, 54, 55, 52, 52, 48, 55, 51, 55, 48, 57, 53, 53, 49, 54, 49, 53] || ds == [49, 56, 52, 52, 54, 55, 52, 52, 48, 55, 51, 55, 48, 57, 53, 53, 49, 54, 49, 53]) := rfl
                          rw [hov] at hru
                          cases hA : Op.bytesLess ds [49, 56, 52, 52, 54, 55, 52, 52, 48, 55, 51, 55, 48, 57, 53, 53, 49, 54, 49, 53]
                          · cases hB : (ds == [49, 56, 52, 52, 54, 55, 52, 52, 48, 55, 51, 55, 48, 57, 53, 53, 49, 54, 49, 53])
                            · exact .inl ⟨rfl, by omega, he, rfl, rfl, by rw [hru, hA, hB]; rfl⟩
                            · exact .inr (.inr (.inl ⟨rfl, by omega, he, rfl, rfl, by rw [hru, hA, hB]; rfl⟩))
                          · exact .inr (.inl ⟨rfl, by omega, he, rfl, by rw [hru, hA]; rfl⟩)
                        · exact .inr (.inr (.inr ⟨rfl, by omega, beq_eq_false_iff_ne.2 (by omega), by rw [hru, decide_eq_false h20, decide_eq_false he20]; rfl⟩))
                    · rw [h48] at hru
                      by_cases h1 : m + 1 < j
                      · exact .inl ⟨rfl, by omega, by rw [hru, decide_eq_true h1]; simp⟩
                      · exact .inr (.inl ⟨rfl, by omega, by omega, beq_eq_false_iff_ne.2 (by omega), by rw [hru, decide_eq_false h1, decide_eq_false (show ¬ 20 < j - m by omega), decide_eq_false (show ¬ j - m = 20 by omega)]; simp⟩)
                  have HRU3 := Lib.hid hru
                  have HE3 := Lib.hid hE3
                  have HRU2 := Lib.hid hru2
                  have hcv := HCV.out
                  have hcK := HCK.out
                  clear hcE hru hnot HRU HNOT HR hE3 hru2
                  rcases HE3.out with ⟨he1, he2⟩ | ⟨he1, hjc, he2, he3, he4⟩ | ⟨he1, hjc, he2, he3, he4⟩
                  · clear HE3 HRU2 HRU3
                    have HT2 := Lib.hid (HT.out he2)
                    clear HT he2
                    rcases HT2.out with ⟨t1, t2, hn⟩ | ⟨t1, t2, t3, t4, hn⟩ | ⟨t1, t2, hn⟩ | ⟨t1, t2, t3, t4, t5, hn⟩ | ⟨t1, t2, t3, t4, hn⟩ | ⟨t1, t2, t3, t4, t5, hn⟩ | ⟨t1, t2, t3, hn⟩
                    · have HN := Lib.hid hn
                      clear hn HT2
                      go_wp2_with fail
                      refine bodyPost_ret (v := .tuple #[.agg WordS.zero.cells, .int .i64 50]) (by simp [results, Tryd.results12, WordS.cells, WordS.zero, go_sem]) rfl ?_
                      have hr := HR0.out HN.out
                      rw [if_neg (by decide)] at hr
                      first | rw [hwa, hr] | rw [hr]
                      refine ⟨rfl, ?_⟩
                      repeat' (first | exact Below.refl _ _ | refine Below.setCell ?_ ?_ _ | refine Below.alloc ?_ ?_ _ | (simp; done) | (simp; omega))
                    · have HN := Lib.hid hn
                      clear hn HT2
                      have hr := HR1.out HN.out
                      rw [if_pos rfl] at hr
                      have HRR := Lib.hid hr
                      have hv0 := HVAL.out HN.out
                      have HV0 := Lib.hid hv0
                      clear hr hv0 HR1 HR0
                      go_wp2_with fail
                      go_loop [8, 9] (fun n i => ∃ q : Nat, i = .int .i64 (q : Int) ∧ m ≤ q ∧ q ≤ j ∧ n = .int .u64 (valD (ds.take (q - m)) : Int)) (fun _ i => (j - intOf i).toNat)
                      case atStart => exact ⟨m, rfl, by omega, by omega, by simp [valD]⟩
                      case round =>
                        obtain ⟨q, rfl, hmq, hqj, rfl⟩ := hrel
                        by_cases hq : q < j
                        · obtain ⟨a, hda, had, hba⟩ := HDAT.out (q - m) (by omega)
                          rw [show m + (q - m) = q by omega] at hba
                          have hca := fun o => HCO.out o q a hba
                          have hst : valD (ds.take (q + 1 - m)) = valD (ds.take (q - m)) * 10 + (a.toNat - 48) := by
                            obtain ⟨hl, rfl⟩ := List.getElem?_eq_some_iff.1 hda
                            rw [show q + 1 - m = (q - m) + 1 by omega, List.take_succ_eq_append_getElem hl, valD_snoc]
                          have hb := of_decide_eq_true had
                          obtain ⟨d, hd⟩ : ∃ d, a.toNat = 48 + d := ⟨a.toNat - 48, by omega⟩
                          have hd9 : d ≤ 9 := by omega
                          have had' : (a.toNat : Int) = 48 + d := by omega
                          have HST : Hid (valD (ds.take (q + 1 - m)) = valD (ds.take (q - m)) * 10 + d) := by unfold Hid; rw [hst, hd]; omega
                          have hvt := valD_take_le ds (q + 1 - m)
                          rw [HST.out] at hvt
                          have hvm := HV0.out
                          have hmx : maxU = 18446744073709551615 := rfl
                          generalize valD (ds.take (q - m)) = n at *
                          have hnn : (n : Int) * 10 + d ≤ 18446744073709551615 := by omega
                          rw [had'] at hca
                          have hqc : q < cap := by omega
                          have hqb : q < bs.length := by omega
                          clear hba hda had hst hb hd had' hvt hvm hmx
                          go_wp2_with fail
                          exact ⟨⟨q + 1, by go_num, by omega, by omega, by rw [HST.out]; congr 1; omega⟩, by simp [intOf]; omega⟩
                        · have hqj2 : q = j := by omega
                          subst hqj2
                          have hfull : ds.take (q - m) = ds := List.take_of_length_le (by have := HDL.out; omega)
                          rw [hfull]
                          clear hfull
                          go_wp2_with fail
                          refine bodyPost_ret (v := .tuple #[.agg (WordS.mk 2 ds (valD ds) m q).cells, .int .i64 0]) (by simp [results, Tryd.results12, WordS.cells, go_sem]) rfl ?_
                          first | rw [hwa, HRR.out] | rw [HRR.out]
                          refine ⟨rfl, ?_⟩
                          repeat' (first | exact Below.refl _ _ | refine Below.setCell ?_ ?_ _ | refine Below.alloc ?_ ?_ _ | (simp; done) | (simp; omega))
                    · have HN := Lib.hid hn
                      clear hn HT2
                      go_wp2_with fail
                      refine bodyPost_ret (v := .tuple #[.agg WordS.zero.cells, .int .i64 50]) (by simp [results, Tryd.results12, WordS.cells, WordS.zero, go_sem]) rfl ?_
                      have hr := HR0.out HN.out
                      rw [if_neg (by decide)] at hr
                      first | rw [hwa, hr] | rw [hr]
                      refine ⟨rfl, ?_⟩
                      repeat' (first | exact Below.refl _ _ | refine Below.setCell ?_ ?_ _ | refine Below.alloc ?_ ?_ _ | (simp; done) | (simp; omega))
                    · have HN := Lib.hid hn
                      clear hn HT2
                      go_wp2_with fail
                      refine bodyPost_ret (v := .tuple #[.agg WordS.zero.cells, .int .i64 50]) (by simp [results, Tryd.results12, WordS.cells, WordS.zero, go_sem]) rfl ?_
                      have hr := HR0.out HN.out
                      rw [if_neg (by decide)] at hr
                      first | rw [hwa, hr] | rw [hr]
                      refine ⟨rfl, ?_⟩
                      repeat' (first | exact Below.refl _ _ | refine Below.setCell ?_ ?_ _ | refine Below.alloc ?_ ?_ _ | (simp; done) | (simp; omega))
                    · have HN := Lib.hid hn
                      clear hn HT2
                      have hr := HR1.out HN.out
                      rw [if_pos rfl] at hr
                      have HRR := Lib.hid hr
                      have hv0 := HVAL.out HN.out
                      have HV0 := Lib.hid hv0
                      clear hr hv0 HR1 HR0
                      go_wp2_with fail
                      go_loop [8, 9] (fun n i => ∃ q : Nat, i = .int .i64 (q : Int) ∧ m ≤ q ∧ q ≤ j ∧ n = .int .u64 (valD (ds.take (q - m)) : Int)) (fun _ i => (j - intOf i).toNat)
                      case atStart => exact ⟨m, rfl, by omega, by omega, by simp [valD]⟩
                      case round =>
                        obtain ⟨q, rfl, hmq, hqj, rfl⟩ := hrel
                        by_cases hq : q < j
                        · obtain ⟨a, hda, had, hba⟩ := HDAT.out (q - m) (by omega)
                          rw [show m + (q - m) = q by omega] at hba
                          have hca := fun o => HCO.out o q a hba
                          have hst : valD (ds.take (q + 1 - m)) = valD (ds.take (q - m)) * 10 + (a.toNat - 48) := by
                            obtain ⟨hl, rfl⟩ := List.getElem?_eq_some_iff.1 hda
                            rw [show q + 1 - m = (q - m) + 1 by omega, List.take_succ_eq_append_getElem hl, valD_snoc]
                          have hb := of_decide_eq_true had
                          obtain ⟨d, hd⟩ : ∃ d, a.toNat = 48 + d := ⟨a.toNat - 48, by omega⟩
                          have hd9 : d ≤ 9 := by omega
                          have had' : (a.toNat : Int) = 48 + d := by omega
                          have HST : Hid (valD (ds.take (q + 1 - m)) = valD (ds.take (q - m)) * 10 + d) := by unfold Hid; rw [hst, hd]; omega
                          have hvt := valD_take_le ds (q + 1 - m)
                          rw [HST.out] at hvt
                          have hvm := HV0.out
                          have hmx : maxU = 18446744073709551615 := rfl
                          generalize valD (ds.take (q - m)) = n at *
                          have hnn : (n : Int) * 10 + d ≤ 18446744073709551615 := by omega
                          rw [had'] at hca
                          have hqc : q < cap := by omega
                          have hqb : q < bs.length := by omega
                          clear hba hda had hst hb hd had' hvt hvm hmx
                          go_wp2_with fail
                          exact ⟨⟨q + 1, by go_num, by omega, by omega, by rw [HST.out]; congr 1; omega⟩, by simp [intOf]; omega⟩
                        · have hqj2 : q = j := by omega
                          subst hqj2
                          have hfull : ds.take (q - m) = ds := List.take_of_length_le (by have := HDL.out; omega)
                          rw [hfull]
                          clear hfull
                          go_wp2_with fail
                          refine bodyPost_ret (v := .tuple #[.agg (WordS.mk 2 ds (valD ds) m q).cells, .int .i64 0]) (by simp [results, Tryd.results12, WordS.cells, go_sem]) rfl ?_
                          first | rw [hwa, HRR.out] | rw [HRR.out]
                          refine ⟨rfl, ?_⟩
                          repeat' (first | exact Below.refl _ _ | refine Below.setCell ?_ ?_ _ | refine Below.alloc ?_ ?_ _ | (simp; done) | (simp; omega))
                    · have HN := Lib.hid hn
                      clear hn HT2
                      have hr := HR1.out HN.out
                      rw [if_pos rfl] at hr
                      have HRR := Lib.hid hr
                      have hv0 := HVAL.out HN.out
                      have HV0 := Lib.hid hv0
                      clear hr hv0 HR1 HR0
                      go_wp2_with fail
                      go_loop [8, 9] (fun n i => ∃ q : Nat, i = .int .i64 (q : Int) ∧ m ≤ q ∧ q ≤ j ∧ n = .int .u64 (valD (ds.take (q - m)) : Int)) (fun _ i => (j - intOf i).toNat)
                      case atStart => exact ⟨m, rfl, by omega, by omega, by simp [valD]⟩
                      case round =>
                        obtain ⟨q, rfl, hmq, hqj, rfl⟩ := hrel
                        by_cases hq : q < j
                        · obtain ⟨a, hda, had, hba⟩ := HDAT.out (q - m) (by omega)
                          rw [show m + (q - m) = q by omega] at hba
                          have hca := fun o => HCO.out o q a hba
                          have hst : valD (ds.take (q + 1 - m)) = valD (ds.take (q - m)) * 10 + (a.toNat - 48) := by
                            obtain ⟨hl, rfl⟩ := List.getElem?_eq_some_iff.1 hda
                            rw [show q + 1 - m = (q - m) + 1 by omega, List.take_succ_eq_append_getElem hl, valD_snoc]
                          have hb := of_decide_eq_true had
                          obtain ⟨d, hd⟩ : ∃ d, a.toNat = 48 + d := ⟨a.toNat - 48, by omega⟩
                          have hd9 : d ≤ 9 := by omega
                          have had' : (a.toNat : Int) = 48 + d := by omega
                          have HST : Hid (valD (ds.take (q + 1 - m)) = valD (ds.take (q - m)) * 10 + d) := by unfold Hid; rw [hst, hd]; omega
                          have hvt := valD_take_le ds (q + 1 - m)
                          rw [HST.out] at hvt
                          have hvm := HV0.out
                          have hmx : maxU = 18446744073709551615 := rfl
                          generalize valD (ds.take (q - m)) = n at *
                          have hnn : (n : Int) * 10 + d ≤ 18446744073709551615 := by omega
                          rw [had'] at hca
                          have hqc : q < cap := by omega
                          have hqb : q < bs.length := by omega
                          clear hba hda had hst hb hd had' hvt hvm hmx
                          go_wp2_with fail
                          exact ⟨⟨q + 1, by go_num, by omega, by omega, by rw [HST.out]; congr 1; omega⟩, by simp [intOf]; omega⟩
                        · have hqj2 : q = j := by omega
                          subst hqj2
                          have hfull : ds.take (q - m) = ds := List.take_of_length_le (by have := HDL.out; omega)
                          rw [hfull]
                          clear hfull
                          go_wp2_with fail
                          refine bodyPost_ret (v := .tuple #[.agg (WordS.mk 2 ds (valD ds) m q).cells, .int .i64 0]) (by simp [results, Tryd.results12, WordS.cells, go_sem]) rfl ?_
                          first | rw [hwa, HRR.out] | rw [HRR.out]
                          refine ⟨rfl, ?_⟩
                          repeat' (first | exact Below.refl _ _ | refine Below.setCell ?_ ?_ _ | refine Below.alloc ?_ ?_ _ | (simp; done) | (simp; omega))
                    · have HN := Lib.hid hn
                      clear hn HT2
                      have hr := HR1.out HN.out
                      rw [if_pos rfl] at hr
                      have HRR := Lib.hid hr
                      have hv0 := HVAL.out HN.out
                      have HV0 := Lib.hid hv0
                      clear hr hv0 HR1 HR0
                      go_wp2_with fail
                      go_loop [8, 9] (fun n i => ∃ q : Nat, i = .int .i64 (q : Int) ∧ m ≤ q ∧ q ≤ j ∧ n = .int .u64 (valD (ds.take (q - m)) : Int)) (fun _ i => (j - intOf i).toNat)
                      case atStart => exact ⟨m, rfl, by omega, by omega, by simp [valD]⟩
                      case round =>
                        obtain ⟨q, rfl, hmq, hqj, rfl⟩ := hrel
                        by_cases hq : q < j
                        · obtain ⟨a, hda, had, hba⟩ := HDAT.out (q - m) (by omega)
                          rw [show m + (q - m) = q by omega] at hba
                          have hca := fun o => HCO.out o q a hba
                          have hst : valD (ds.take (q + 1 - m)) = valD (ds.take (q - m)) * 10 + (a.toNat - 48) := by
                            obtain ⟨hl, rfl⟩ := List.getElem?_eq_some_iff.1 hda
                            rw [show q + 1 - m = (q - m) + 1 by omega, List.take_succ_eq_append_getElem hl, valD_snoc]
                          have hb := of_decide_eq_true had
                          obtain ⟨d, hd⟩ : ∃ d, a.toNat = 48 + d := ⟨a.toNat - 48, by omega⟩
                          have hd9 : d ≤ 9 := by omega
                          have had' : (a.toNat : Int) = 48 + d := by omega
                          have HST : Hid (valD (ds.take (q + 1 - m)) = valD (ds.take (q - m)) * 10 + d) := by unfold Hid; rw [hst, hd]; omega
                          have hvt := valD_take_le ds (q + 1 - m)
                          rw [HST.out] at hvt
                          have hvm := HV0.out
                          have hmx : maxU = 18446744073709551615 := rfl
                          generalize valD (ds.take (q - m)) = n at *
                          have hnn : (n : Int) * 10 + d ≤ 18446744073709551615 := by omega
                          rw [had'] at hca
                          have hqc : q < cap := by omega
                          have hqb : q < bs.length := by omega
                          clear hba hda had hst hb hd had' hvt hvm hmx
                          go_wp2_with fail
                          exact ⟨⟨q + 1, by go_num, by omega, by omega, by rw [HST.out]; congr 1; omega⟩, by simp [intOf]; omega⟩
                        · have hqj2 : q = j := by omega
                          subst hqj2
                          have hfull : ds.take (q - m) = ds := List.take_of_length_le (by have := HDL.out; omega)
                          rw [hfull]
                          clear hfull
                          go_wp2_with fail
                          refine bodyPost_ret (v := .tuple #[.agg (WordS.mk 2 ds (valD ds) m q).cells, .int .i64 0]) (by simp [results, Tryd.results12, WordS.cells, go_sem]) rfl ?_
                          first | rw [hwa, HRR.out] | rw [HRR.out]
                          refine ⟨rfl, ?_⟩
                          repeat' (first | exact Below.refl _ _ | refine Below.setCell ?_ ?_ _ | refine Below.alloc ?_ ?_ _ | (simp; done) | (simp; omega))
                  · clear HE3 HT
                    have hnk : nk = false := by rw [HRU3.out, he3, decide_eq_true (show j < bs.length by omega)]; rfl
                    clear HRU2 HRU3
                    go_wp2_with fail
                    refine (rfDigit cE _ rfl _).mono ?_
                    rintro e' w3 ⟨rfl, rfl⟩
                    rw [he2]
                    go_wp2_with fail
                    refine (rfLetter cE _ rfl _).mono ?_
                    rintro e' w3 ⟨rfl, rfl⟩
                    rw [he3]
                    go_wp2_with fail
                    refine bodyPost_ret (v := .tuple #[.agg WordS.zero.cells, .int .i64 50]) (by simp [results, Tryd.results12, WordS.cells, WordS.zero, go_sem]) rfl ?_
                    have hr := HR0.out hnk
                    rw [if_neg (by decide)] at hr
                    first | rw [hwa, hr] | rw [hr]
                    refine ⟨rfl, ?_⟩
                    repeat' (first | exact Below.refl _ _ | refine Below.setCell ?_ ?_ _ | refine Below.alloc ?_ ?_ _ | (simp; done) | (simp; omega))
                  · clear HE3
                    have HT2 := Lib.hid (HT.out (HRU2.out (.inl he3)))
                    clear HT HRU2 HRU3
                    rcases HT2.out with ⟨t1, t2, hn⟩ | ⟨t1, t2, t3, t4, hn⟩ | ⟨t1, t2, hn⟩ | ⟨t1, t2, t3, t4, t5, hn⟩ | ⟨t1, t2, t3, t4, hn⟩ | ⟨t1, t2, t3, t4, t5, hn⟩ | ⟨t1, t2, t3, hn⟩
                    · have HN := Lib.hid hn
                      clear hn HT2
                      go_wp2_with fail
                      refine (rfDigit cE _ rfl _).mono ?_
                      rintro e' w3 ⟨rfl, rfl⟩
                      rw [he2]
                      go_wp2_with fail
                      refine (rfLetter cE _ rfl _).mono ?_
                      rintro e' w3 ⟨rfl, rfl⟩
                      rw [he3]
                      go_wp2_with fail
                      refine bodyPost_ret (v := .tuple #[.agg WordS.zero.cells, .int .i64 50]) (by simp [results, Tryd.results12, WordS.cells, WordS.zero, go_sem]) rfl ?_
                      have hr := HR0.out HN.out
                      rw [if_neg (by decide)] at hr
                      first | rw [hwa, hr] | rw [hr]
                      refine ⟨rfl, ?_⟩
                      repeat' (first | exact Below.refl _ _ | refine Below.setCell ?_ ?_ _ | refine Below.alloc ?_ ?_ _ | (simp; done) | (simp; omega))
                    · have HN := Lib.hid hn
                      clear hn HT2
                      have hr := HR1.out HN.out
                      rw [if_pos rfl] at hr
                      have HRR := Lib.hid hr
                      have hv0 := HVAL.out HN.out
                      have HV0 := Lib.hid hv0
                      clear hr hv0 HR1 HR0
                      go_wp2_with fail
                      refine (rfDigit cE _ rfl _).mono ?_
                      rintro e' w3 ⟨rfl, rfl⟩
                      rw [he2]
                      go_wp2_with fail
                      refine (rfLetter cE _ rfl _).mono ?_
                      rintro e' w3 ⟨rfl, rfl⟩
                      rw [he3]
                      go_wp2_with fail
                      go_loop [8, 9] (fun n i => ∃ q : Nat, i = .int .i64 (q : Int) ∧ m ≤ q ∧ q ≤ j ∧ n = .int .u64 (valD (ds.take (q - m)) : Int)) (fun _ i => (j - intOf i).toNat)
                      case atStart => exact ⟨m, rfl, by omega, by omega, by simp [valD]⟩
                      case round =>
                        obtain ⟨q, rfl, hmq, hqj, rfl⟩ := hrel
                        by_cases hq : q < j
                        · obtain ⟨a, hda, had, hba⟩ := HDAT.out (q - m) (by omega)
                          rw [show m + (q - m) = q by omega] at hba
                          have hca := fun o => HCO.out o q a hba
                          have hst : valD (ds.take (q + 1 - m)) = valD (ds.take (q - m)) * 10 + (a.toNat - 48) := by
                            obtain ⟨hl, rfl⟩ := List.getElem?_eq_some_iff.1 hda
                            rw [show q + 1 - m = (q - m) + 1 by omega, List.take_succ_eq_append_getElem hl, valD_snoc]
                          have hb := of_decide_eq_true had
                          obtain ⟨d, hd⟩ : ∃ d, a.toNat = 48 + d := ⟨a.toNat - 48, by omega⟩
                          have hd9 : d ≤ 9 := by omega
                          have had' : (a.toNat : Int) = 48 + d := by omega
                          have HST : Hid (valD (ds.take (q + 1 - m)) = valD (ds.take (q - m)) * 10 + d) := by unfold Hid; rw [hst, hd]; omega
                          have hvt := valD_take_le ds (q + 1 - m)
                          rw [HST.out] at hvt
                          have hvm := HV0.out
                          have hmx : maxU = 18446744073709551615 := rfl
                          generalize valD (ds.take (q - m)) = n at *
                          have hnn : (n : Int) * 10 + d ≤ 18446744073709551615 := by omega
                          rw [had'] at hca
                          have hqc : q < cap := by omega
                          have hqb : q < bs.length := by omega
                          clear hba hda had hst hb hd had' hvt hvm hmx
                          go_wp2_with fail
                          exact ⟨⟨q + 1, by go_num, by omega, by omega, by rw [HST.out]; congr 1; omega⟩, by simp [intOf]; omega⟩
                        · have hqj2 : q = j := by omega
                          subst hqj2
                          have hfull : ds.take (q - m) = ds := List.take_of_length_le (by have := HDL.out; omega)
                          rw [hfull]
                          clear hfull
                          go_wp2_with fail
                          refine bodyPost_ret (v := .tuple #[.agg (WordS.mk 2 ds (valD ds) m q).cells, .int .i64 0]) (by simp [results, Tryd.results12, WordS.cells, go_sem]) rfl ?_
                          first | rw [hwa, HRR.out] | rw [HRR.out]
                          refine ⟨rfl, ?_⟩
                          repeat' (first | exact Below.refl _ _ | refine Below.setCell ?_ ?_ _ | refine Below.alloc ?_ ?_ _ | (simp; done) | (simp; omega))
                    · have HN := Lib.hid hn
                      clear hn HT2
                      go_wp2_with fail
                      refine (rfDigit cE _ rfl _).mono ?_
                      rintro e' w3 ⟨rfl, rfl⟩
                      rw [he2]
                      go_wp2_with fail
                      refine (rfLetter cE _ rfl _).mono ?_
                      rintro e' w3 ⟨rfl, rfl⟩
                      rw [he3]
                      go_wp2_with fail
                      refine bodyPost_ret (v := .tuple #[.agg WordS.zero.cells, .int .i64 50]) (by simp [results, Tryd.results12, WordS.cells, WordS.zero, go_sem]) rfl ?_
                      have hr := HR0.out HN.out
                      rw [if_neg (by decide)] at hr
                      first | rw [hwa, hr] | rw [hr]
                      refine ⟨rfl, ?_⟩
                      repeat' (first | exact Below.refl _ _ | refine Below.setCell ?_ ?_ _ | refine Below.alloc ?_ ?_ _ | (simp; done) | (simp; omega))
                    · have HN := Lib.hid hn
                      clear hn HT2
                      go_wp2_with fail
                      refine (rfDigit cE _ rfl _).mono ?_
                      rintro e' w3 ⟨rfl, rfl⟩
                      rw [he2]
                      go_wp2_with fail
                      refine (rfLetter cE _ rfl _).mono ?_
                      rintro e' w3 ⟨rfl, rfl⟩
                      rw [he3]
                      go_wp2_with fail
                      refine bodyPost_ret (v := .tuple #[.agg WordS.zero.cells, .int .i64 50]) (by simp [results, Tryd.results12, WordS.cells, WordS.zero, go_sem]) rfl ?_
                      have hr := HR0.out HN.out
                      rw [if_neg (by decide)] at hr
                      first | rw [hwa, hr] | rw [hr]
                      refine ⟨rfl, ?_⟩
                      repeat' (first | exact Below.refl _ _ | refine Below.setCell ?_ ?_ _ | refine Below.alloc ?_ ?_ _ | (simp; done) | (simp; omega))
                    · have HN := Lib.hid hn
                      clear hn HT2
                      have hr := HR1.out HN.out
                      rw [if_pos rfl] at hr
                      have HRR := Lib.hid hr
                      have hv0 := HVAL.out HN.out
                      have HV0 := Lib.hid hv0
                      clear hr hv0 HR1 HR0
                      go_wp2_with fail
                      refine (rfDigit cE _ rfl _).mono ?_
                      rintro e' w3 ⟨rfl, rfl⟩
                      rw [he2]
                      go_wp2_with fail
                      refine (rfLetter cE _ rfl _).mono ?_
                      rintro e' w3 ⟨rfl, rfl⟩
                      rw [he3]
                      go_wp2_with fail
                      go_loop [8, 9] (fun n i => ∃ q : Nat, i = .int .i64 (q : Int) ∧ m ≤ q ∧ q ≤ j ∧ n = .int .u64 (valD (ds.take (q - m)) : Int)) (fun _ i => (j - intOf i).toNat)
                      case atStart => exact ⟨m, rfl, by omega, by omega, by simp [valD]⟩
                      case round =>
                        obtain ⟨q, rfl, hmq, hqj, rfl⟩ := hrel
                        by_cases hq : q < j
                        · obtain ⟨a, hda, had, hba⟩ := HDAT.out (q - m) (by omega)
                          rw [show m + (q - m) = q by omega] at hba
                          have hca := fun o => HCO.out o q a hba
                          have hst : valD (ds.take (q + 1 - m)) = valD (ds.take (q - m)) * 10 + (a.toNat - 48) := by
                            obtain ⟨hl, rfl⟩ := List.getElem?_eq_some_iff.1 hda
                            rw [show q + 1 - m = (q - m) + 1 by omega, List.take_succ_eq_append_getElem hl, valD_snoc]
                          have hb := of_decide_eq_true had
                          obtain ⟨d, hd⟩ : ∃ d, a.toNat = 48 + d := ⟨a.toNat - 48, by omega⟩
                          have hd9 : d ≤ 9 := by omega
                          have had' : (a.toNat : Int) = 48 + d := by omega
                          have HST : Hid (valD (ds.take (q + 1 - m)) = valD (ds.take (q - m)) * 10 + d) := by unfold Hid; rw [hst, hd]; omega
                          have hvt := valD_take_le ds (q + 1 - m)
                          rw [HST.out] at hvt
                          have hvm := HV0.out
                          have hmx : maxU = 18446744073709551615 := rfl
                          generalize valD (ds.take (q - m)) = n at *
                          have hnn : (n : Int) * 10 + d ≤ 18446744073709551615 := by omega
                          rw [had'] at hca
                          have hqc : q < cap := by omega
                          have hqb : q < bs.length := by omega
                          clear hba hda had hst hb hd had' hvt hvm hmx
                          go_wp2_with fail
                          exact ⟨⟨q + 1, by go_num, by omega, by omega, by rw [HST.out]; congr 1; omega⟩, by simp [intOf]; omega⟩
                        · have hqj2 : q = j := by omega
                          subst hqj2
                          have hfull : ds.take (q - m) = ds := List.take_of_length_le (by have := HDL.out; omega)
                          rw [hfull]
                          clear hfull
                          go_wp2_with fail
                          refine bodyPost_ret (v := .tuple #[.agg (WordS.mk 2 ds (valD ds) m q).cells, .int .i64 0]) (by simp [results, Tryd.results12, WordS.cells, go_sem]) rfl ?_
                          first | rw [hwa, HRR.out] | rw [HRR.out]
                          refine ⟨rfl, ?_⟩
                          repeat' (first | exact Below.refl _ _ | refine Below.setCell ?_ ?_ _ | refine Below.alloc ?_ ?_ _ | (simp; done) | (simp; omega))
                    · have HN := Lib.hid hn
                      clear hn HT2
                      have hr := HR1.out HN.out
                      rw [if_pos rfl] at hr
                      have HRR := Lib.hid hr
                      have hv0 := HVAL.out HN.out
                      have HV0 := Lib.hid hv0
                      clear hr hv0 HR1 HR0
                      go_wp2_with fail
                      refine (rfDigit cE _ rfl _).mono ?_
                      rintro e' w3 ⟨rfl, rfl⟩
                      rw [he2]
                      go_wp2_with fail
                      refine (rfLetter cE _ rfl _).mono ?_
                      rintro e' w3 ⟨rfl, rfl⟩
                      rw [he3]
                      go_wp2_with fail
                      go_loop [8, 9] (fun n i => ∃ q : Nat, i = .int .i64 (q : Int) ∧ m ≤ q ∧ q ≤ j ∧ n = .int .u64 (valD (ds.take (q - m)) : Int)) (fun _ i => (j - intOf i).toNat)
                      case atStart => exact ⟨m, rfl, by omega, by omega, by simp [valD]⟩
                      case round =>
                        obtain ⟨q, rfl, hmq, hqj, rfl⟩ := hrel
                        by_cases hq : q < j
                        · obtain ⟨a, hda, had, hba⟩ := HDAT.out (q - m) (by omega)
                          rw [show m + (q - m) = q by omega] at hba
                          have hca := fun o => HCO.out o q a hba
                          have hst : valD (ds.take (q + 1 - m)) = valD (ds.take (q - m)) * 10 + (a.toNat - 48) := by
                            obtain ⟨hl, rfl⟩ := List.getElem?_eq_some_iff.1 hda
                            rw [show q + 1 - m = (q - m) + 1 by omega, List.take_succ_eq_append_getElem hl, valD_snoc]
                          have hb := of_decide_eq_true had
                          obtain ⟨d, hd⟩ : ∃ d, a.toNat = 48 + d := ⟨a.toNat - 48, by omega⟩
                          have hd9 : d ≤ 9 := by omega
                          have had' : (a.toNat : Int) = 48 + d := by omega
                          have HST : Hid (valD (ds.take (q + 1 - m)) = valD (ds.take (q - m)) * 10 + d) := by unfold Hid; rw [hst, hd]; omega
                          have hvt := valD_take_le ds (q + 1 - m)
                          rw [HST.out] at hvt
                          have hvm := HV0.out
                          have hmx : maxU = 18446744073709551615 := rfl
                          generalize valD (ds.take (q - m)) = n at *
                          have hnn : (n : Int) * 10 + d ≤ 18446744073709551615 := by omega
                          rw [had'] at hca
                          have hqc : q < cap := by omega
                          have hqb : q < bs.length := by omega
                          clear hba hda had hst hb hd had' hvt hvm hmx
                          go_wp2_with fail
                          exact ⟨⟨q + 1, by go_num, by omega, by omega, by rw [HST.out]; congr 1; omega⟩, by simp [intOf]; omega⟩
                        · have hqj2 : q = j := by omega
                          subst hqj2
                          have hfull : ds.take (q - m) = ds := List.take_of_length_le (by have := HDL.out; omega)
                          rw [hfull]
                          clear hfull
                          go_wp2_with fail
                          refine bodyPost_ret (v := .tuple #[.agg (WordS.mk 2 ds (valD ds) m q).cells, .int .i64 0]) (by simp [results, Tryd.results12, WordS.cells, go_sem]) rfl ?_
                          first | rw [hwa, HRR.out] | rw [HRR.out]
                          refine ⟨rfl, ?_⟩
                          repeat' (first | exact Below.refl _ _ | refine Below.setCell ?_ ?_ _ | refine Below.alloc ?_ ?_ _ | (simp; done) | (simp; omega))
                    · have HN := Lib.hid hn
                      clear hn HT2
                      have hr := HR1.out HN.out
                      rw [if_pos rfl] at hr
                      have HRR := Lib.hid hr
                      have hv0 := HVAL.out HN.out
                      have HV0 := Lib.hid hv0
                      clear hr hv0 HR1 HR0
                      go_wp2_with fail
                      refine (rfDigit cE _ rfl _).mono ?_
                      rintro e' w3 ⟨rfl, rfl⟩
                      rw [he2]
                      go_wp2_with fail
                      refine (rfLetter cE _ rfl _).mono ?_
                      rintro e' w3 ⟨rfl, rfl⟩
                      rw [he3]
                      go_wp2_with fail
                      go_loop [8, 9] (fun n i => ∃ q : Nat, i = .int .i64 (q : Int) ∧ m ≤ q ∧ q ≤ j ∧ n = .int .u64 (valD (ds.take (q - m)) : Int)) (fun _ i => (j - intOf i).toNat)
                      case atStart => exact ⟨m, rfl, by omega, by omega, by simp [valD]⟩
                      case round =>
                        obtain ⟨q, rfl, hmq, hqj, rfl⟩ := hrel
                        by_cases hq : q < j
                        · obtain ⟨a, hda, had, hba⟩ := HDAT.out (q - m) (by omega)
                          rw [show m + (q - m) = q by omega] at hba
                          have hca := fun o => HCO.out o q a hba
                          have hst : valD (ds.take (q + 1 - m)) = valD (ds.take (q - m)) * 10 + (a.toNat - 48) := by
                            obtain ⟨hl, rfl⟩ := List.getElem?_eq_some_iff.1 hda
                            rw [show q + 1 - m = (q - m) + 1 by omega, List.take_succ_eq_append_getElem hl, valD_snoc]
                          have hb := of_decide_eq_true had
                          obtain ⟨d, hd⟩ : ∃ d, a.toNat = 48 + d := ⟨a.toNat - 48, by omega⟩
                          have hd9 : d ≤ 9 := by omega
                          have had' : (a.toNat : Int) = 48 + d := by omega
                          have HST : Hid (valD (ds.take (q + 1 - m)) = valD (ds.take (q - m)) * 10 + d) := by unfold Hid; rw [hst, hd]; omega
                          have hvt := valD_take_le ds (q + 1 - m)
                          rw [HST.out] at hvt
                          have hvm := HV0.out
                          have hmx : maxU = 18446744073709551615 := rfl
                          generalize valD (ds.take (q - m)) = n at *
                          have hnn : (n : Int) * 10 + d ≤ 18446744073709551615 := by omega
                          rw [had'] at hca
                          have hqc : q < cap := by omega
                          have hqb : q < bs.length := by omega
                          clear hba hda had hst hb hd had' hvt hvm hmx
                          go_wp2_with fail
                          exact ⟨⟨q + 1, by go_num, by omega, by omega, by rw [HST.out]; congr 1; omega⟩, by simp [intOf]; omega⟩
                        · have hqj2 : q = j := by omega
                          subst hqj2
                          have hfull : ds.take (q - m) = ds := List.take_of_length_le (by have := HDL.out; omega)
                          rw [hfull]
                          clear hfull
                          go_wp2_with fail
                          refine bodyPost_ret (v := .tuple #[.agg (WordS.mk 2 ds (valD ds) m q).cells, .int .i64 0]) (by simp [results, Tryd.results12, WordS.cells, go_sem]) rfl ?_
                          first | rw [hwa, HRR.out] | rw [HRR.out]
                          refine ⟨rfl, ?_⟩
                          repeat' (first | exact Below.refl _ _ | refine Below.setCell ?_ ?_ _ | refine Below.alloc ?_ ?_ _ | (simp; done) | (simp; omega))
          · have HL := Lib.hid hL
            clear hL hcm
            go_wp2_with fail
            go_loopw [6] (fun i wq => ∃ e : Nat, i = .int .i64 e ∧ m ≤ e ∧ e ≤ bs.length ∧ Hid (runAt wordB bs m = runAt wordB bs e) ∧ Hid (wq = wr)) (fun i _ => (bs.length - intOf i).toNat)
            case atStart => exact ⟨m, rfl, by omega, hm, Lib.hid rfl, Lib.hid rfl⟩
            case round =>
              obtain ⟨e, rfl, hme, he, HE, HWQ⟩ := hrel
              have HWQ2 := HWQ.out
              subst HWQ2
              by_cases hle : e < bs.length
              · have hgete : bs[e]? = some (bs.getD e 0) := by rw [List.getD_eq_getElem?_getD, List.getElem?_eq_getElem hle]; rfl
                have hce := HCW.out e _ (bv_at hgete)
                have hecap : e < cap := by omega
                generalize bs.getD e 0 = d at *
                have hnext := fun h => runAt_next wordB bs e d hgete h
                have hstop := fun h => runAt_stop wordB bs e d hgete h
                have HNX := Lib.hid hnext
                have HST := Lib.hid hstop
                clear hgete hnext hstop
                cases hld : letterB d
                · cases hdd : digitB d
                  · have hrun : runAt wordB bs m = e := by rw [HE.out, HST.out (by unfold wordB; rw [hld, hdd]; decide)]
                    go_wp2_with fail
                    refine (rfLetter d _ rfl _).mono ?_
                    rintro e' w3 ⟨rfl, rfl⟩
                    rw [hld]
                    go_wp2_with fail
                    refine (rfDigit d _ rfl _).mono ?_
                    rintro e' w3 ⟨rfl, rfl⟩
                    rw [hdd]
                    clear hld hdd HNX HST hce
                    obtain ⟨tx, htx⟩ : ∃ tx, textAt bs m e = tx := ⟨_, rfl⟩
                    have htl : tx.length = e - m := by
                      rw [← htx]
                      unfold textAt
                      rw [List.length_take, List.length_drop]
                      omega
                    have hr : ∀ b : Bool, reservedS tx = b → takeAt bs m = (⟨if b = true then 4 else 1, tx, 0, m, e⟩, 0) := by
                      intro b hb
                      unfold takeAt
                      rw [if_neg (by omega), HCC.out, if_pos HL.out, hrun, htx, hb]
                    have hcv : (convert 22 9 (.slice (some ⟨g, off + m, none⟩) (e - m) (cap - m))).run Tryd.prog wr = .ok (.string ⟨tx.toArray⟩) wr := conv_cells g (off + m) (cap - m) (e - m) tx wr htl (fun j u hu => by
                      rw [show off + m + j = off + (m + j) by omega]
                      refine HCW.out _ _ ?_
                      rw [← htx] at hu
                      unfold textAt bv at hu
                      rw [List.map_take, List.map_drop, List.getElem?_take] at hu
                      split at hu
                      · rw [List.getElem?_drop] at hu
                        exact hu
                      · cases hu)
                    have hei2 : (e : Int) ≤ cap := by omega
                    have HR := Lib.hid hr
                    clear hr htl htx hrun
                    go_wp2_with fail
                    have hrs := fun W => rReserved ⟨tx.toArray⟩ W
                    rw [show (ByteArray.mk tx.toArray).data.toList = tx by simp] at hrs
                    cases hv2 : reservedS tx
                    · have HRF := Lib.hid (HR.out false hv2)
                      rw [hv2] at hrs
                      refine (hrs _).mono ?_
                      rintro e' w3 ⟨rfl, rfl⟩
                      clear hrs hcv
                      rw [HW.out]
                      go_wp2_with fail
                      refine bodyPost_ret (v := .tuple #[.agg (WordS.mk 1 tx 0 m e).cells, .int .i64 0]) (by simp [results, Tryd.results12, WordS.cells, go_sem]) rfl ?_
                      first | rw [hwa, HRF.out] | rw [HRF.out]
                      refine ⟨rfl, ?_⟩
                      repeat' (first | exact Below.refl _ _ | refine Below.setCell ?_ ?_ _ | refine Below.alloc ?_ ?_ _ | (simp; done) | (simp; omega))
                    · have HRF := Lib.hid (HR.out true hv2)
                      rw [hv2] at hrs
                      refine (hrs _).mono ?_
                      rintro e' w3 ⟨rfl, rfl⟩
                      clear hrs hcv
                      rw [HW.out]
                      go_wp2_with fail
                      refine bodyPost_ret (v := .tuple #[.agg (WordS.mk 4 tx 0 m e).cells, .int .i64 0]) (by simp [results, Tryd.results12, WordS.cells, go_sem]) rfl ?_
                      first | rw [hwa, HRF.out] | rw [HRF.out]
                      refine ⟨rfl, ?_⟩
                      repeat' (first | exact Below.refl _ _ | refine Below.setCell ?_ ?_ _ | refine Below.alloc ?_ ?_ _ | (simp; done) | (simp; omega))
                  · have HN : Hid (runAt wordB bs m = runAt wordB bs (e + 1)) := by unfold Hid; rw [HE.out, HNX.out (by unfold wordB; rw [hld, hdd]; rfl)]
                    go_wp2_with fail
                    refine (rfLetter d _ rfl _).mono ?_
                    rintro e' w3 ⟨rfl, rfl⟩
                    rw [hld]
                    go_wp2_with fail
                    refine (rfDigit d _ rfl _).mono ?_
                    rintro e' w3 ⟨rfl, rfl⟩
                    rw [hdd]
                    clear hld hdd HNX HST
                    go_wp2_with fail
                    go_roundw
                    case rel => first | exact ⟨e + 1, by go_num, by omega, by omega, HN, HWQ⟩ | exact ⟨e + 1, by go_num, by omega, by omega, HN⟩
                    case measure => simp [intOf]; omega
                · have HN : Hid (runAt wordB bs m = runAt wordB bs (e + 1)) := by unfold Hid; rw [HE.out, HNX.out (by unfold wordB; rw [hld]; rfl)]
                  go_wp2_with fail
                  refine (rfLetter d _ rfl _).mono ?_
                  rintro e' w3 ⟨rfl, rfl⟩
                  rw [hld]
                  clear hld HNX HST
                  go_wp2_with fail
                  go_roundw
                  case rel => first | exact ⟨e + 1, by go_num, by omega, by omega, HN, HWQ⟩ | exact ⟨e + 1, by go_num, by omega, by omega, HN⟩
                  case measure => simp [intOf]; omega
              · have hrun : runAt wordB bs m = e := by rw [HE.out, runAt_end wordB bs e (by omega)]
                obtain ⟨tx, htx⟩ : ∃ tx, textAt bs m e = tx := ⟨_, rfl⟩
                have htl : tx.length = e - m := by
                  rw [← htx]
                  unfold textAt
                  rw [List.length_take, List.length_drop]
                  omega
                have hr : ∀ b : Bool, reservedS tx = b → takeAt bs m = (⟨if b = true then 4 else 1, tx, 0, m, e⟩, 0) := by
                  intro b hb
                  unfold takeAt
                  rw [if_neg (by omega), HCC.out, if_pos HL.out, hrun, htx, hb]
                have hcv : (convert 22 9 (.slice (some ⟨g, off + m, none⟩) (e - m) (cap - m))).run Tryd.prog wr = .ok (.string ⟨tx.toArray⟩) wr := conv_cells g (off + m) (cap - m) (e - m) tx wr htl (fun j u hu => by
                  rw [show off + m + j = off + (m + j) by omega]
                  refine HCW.out _ _ ?_
                  rw [← htx] at hu
                  unfold textAt bv at hu
                  rw [List.map_take, List.map_drop, List.getElem?_take] at hu
                  split at hu
                  · rw [List.getElem?_drop] at hu
                    exact hu
                  · cases hu)
                have hei2 : (e : Int) ≤ cap := by omega
                have HR := Lib.hid hr
                clear hr htl htx hrun
                go_wp2_with fail
                have hrs := fun W => rReserved ⟨tx.toArray⟩ W
                rw [show (ByteArray.mk tx.toArray).data.toList = tx by simp] at hrs
                cases hv2 : reservedS tx
                · have HRF := Lib.hid (HR.out false hv2)
                  rw [hv2] at hrs
                  refine (hrs _).mono ?_
                  rintro e' w3 ⟨rfl, rfl⟩
                  clear hrs hcv
                  rw [HW.out]
                  go_wp2_with fail
                  refine bodyPost_ret (v := .tuple #[.agg (WordS.mk 1 tx 0 m e).cells, .int .i64 0]) (by simp [results, Tryd.results12, WordS.cells, go_sem]) rfl ?_
                  first | rw [hwa, HRF.out] | rw [HRF.out]
                  refine ⟨rfl, ?_⟩
                  repeat' (first | exact Below.refl _ _ | refine Below.setCell ?_ ?_ _ | refine Below.alloc ?_ ?_ _ | (simp; done) | (simp; omega))
                · have HRF := Lib.hid (HR.out true hv2)
                  rw [hv2] at hrs
                  refine (hrs _).mono ?_
                  rintro e' w3 ⟨rfl, rfl⟩
                  clear hrs hcv
                  rw [HW.out]
                  go_wp2_with fail
                  refine bodyPost_ret (v := .tuple #[.agg (WordS.mk 4 tx 0 m e).cells, .int .i64 0]) (by simp [results, Tryd.results12, WordS.cells, go_sem]) rfl ?_
                  first | rw [hwa, HRF.out] | rw [HRF.out]
                  refine ⟨rfl, ?_⟩
                  repeat' (first | exact Below.refl _ _ | refine Below.setCell ?_ ?_ _ | refine Below.alloc ?_ ?_ _ | (simp; done) | (simp; omega))
        · rw [hv] at HH
          have hsl := HPS.out.1 hv
          have HOP : Hid (skipM false (bs.drop k) = skipM true (bs.drop m)) := by
            unfold Hid
            rw [HM.out, HDR.out]
            exact skip_open c _ hsl.1 hsl.2
          have hn10 : ¬ c.toNat = 10 := by omega
          clear hw
          go_wp2_with fail
          refine HH.out.mono ?_
          rintro e' w3 ⟨rfl, rfl⟩
          go_wp2_with fail
          refine HH.out.mono ?_
          rintro e' w3 ⟨rfl, rfl⟩
          go_wp2_with fail
          have HCM := Lib.hid hcm
          clear hcm
          go_loop [1] (fun i => ∃ n : Nat, i = .int .i64 n ∧ m ≤ n ∧ n ≤ bs.length ∧ Hid (skipM true (bs.drop m) = skipM true (bs.drop n)) ∧ Hid (n = m → ¬ (bs.getD n 0).toNat = 10)) (fun i => (bs.length - intOf i).toNat)
          case atStart => exact ⟨m, rfl, by omega, hm, Lib.hid rfl, Lib.hid (fun _ => by rw [HCC.out]; exact hn10)⟩
          case round =>
            obtain ⟨n, rfl, hmn, hn, HNN, HFST⟩ := hrel
            by_cases hln : n < bs.length
            · have hgetn : bs[n]? = some (bs.getD n 0) := by rw [List.getD_eq_getElem?_getD, List.getElem?_eq_getElem hln]; rfl
              have hdn := drop_cons_of hgetn
              have hcn := HCW.out n _ (bv_at hgetn)
              have hfst := HFST.out
              generalize bs.getD n 0 = d at *
              have hncap : n < cap := by omega
              by_cases h10 : d.toNat = 10
              · have e10' : ((d.toNat : Int) == 10) = true := beq_iff_eq.2 (by omega)
                have hnm : m < n := by
                  rcases Nat.lt_or_ge m n with h | h
                  · exact h
                  · exact absurd h10 (hfst (by omega))
                have HN : Hid (skipM false (bs.drop k) = skipM false (bs.drop n)) := by
                  unfold Hid
                  rw [HOP.out, HNN.out, hdn, skip_line _ _ h10]
                clear hgetn hdn hfst HFST
                go_wp2_with fail
                go_roundw
                case rel => first | exact ⟨n, by go_num, by omega, by omega, HN, HWR⟩ | exact ⟨n, by go_num, by omega, by omega, HN⟩
                case measure => simp [intOf]; omega
              · have e10' : ((d.toNat : Int) == 10) = false := beq_eq_false_iff_ne.2 (by omega)
                have HN : Hid (skipM true (bs.drop m) = skipM true (bs.drop (n + 1))) := by
                  unfold Hid
                  rw [HNN.out, hdn, skip_in _ _ h10]
                clear hgetn hdn hfst HFST
                go_wp2_with fail
                go_roundw
                case rel => exact ⟨n + 1, by go_num, by omega, by omega, HN, Lib.hid (fun h => by omega)⟩
                case measure => simp [intOf]; omega
            · obtain rfl : n = bs.length := by omega
              have HN : Hid (skipM false (bs.drop k) = skipM false (bs.drop bs.length)) := by
                unfold Hid
                rw [HOP.out, HNN.out, List.drop_length, skipM_nil, skipM_nil]
              clear HFST
              go_wp2_with fail
              go_roundw
              case rel => first | exact ⟨bs.length, by go_num, by omega, by omega, HN, HWR⟩ | exact ⟨bs.length, by go_num, by omega, by omega, HN⟩
              case measure => simp [intOf]; omega
    · obtain rfl : m = bs.length := by omega
      have hwa : whiteAt bs k = bs.length := by
        refine whiteAt_of bs k _ (Nat.le_refl _) ?_
        rw [HM.out, List.drop_length]
        rfl
      have hr : takeAt bs bs.length = (⟨0, [], 0, bs.length, bs.length⟩, 0) := by unfold takeAt; rw [if_pos rfl]
      rw [HW.out]
      go_wp2_with fail
      refine bodyPost_ret (v := .tuple #[.agg (WordS.mk 0 [] 0 bs.length bs.length).cells, .int .i64 0]) (by simp [results, Tryd.results12, WordS.cells, go_sem]) rfl ?_
      first | rw [hwa, hr] | rw [hr] | skip
      exact ⟨rfl, (Below.refl _ _).alloc (Nat.le_refl _) _⟩
end Go.Proofs.YtaelanpmgckfkaaRRRRDoor
