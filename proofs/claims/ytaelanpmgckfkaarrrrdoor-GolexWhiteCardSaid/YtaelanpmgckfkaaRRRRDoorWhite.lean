/- GolexWhite, walked. -/
import Derived.Test.YtaelanpmgckfkaaRRRRDoorTakes
import Derived.Test.YtaelanpmgckfkaaRRRRDoorWhitePlain
import Derived.BigQuiet
import Derived.Test.YtaelanpmgckfkaaRRRRDoorStep
import Derived.Test.YtaelanpmgckfkaaRRRRDoorRev
namespace Go.Proofs.YtaelanpmgckfkaaRRRRDoor
open Go.RowKit Go.Av

theorem all_err_nil (bs : List UInt8) (f k : Nat) (h : (allFrom bs f k).2 ≠ 0) : (allFrom bs f k).1 = [] := by
  cases f with
  | zero => rfl
  | succ f =>
    revert h
    unfold allFrom
    split
    · intro _; rfl
    · split
      · intro _; rfl
      · split
        · intro _; rfl
        · intro h; exact absurd rfl h

/-- Which white text stands ahead of a word. -/
def wIdx (n : Int) (j : Nat) : Int := (IntKind.u64.wrap (IntKind.u64.wrap n + IntKind.u64.wrap (j : Int))).tmod 5
theorem wIdx_in (n : Int) (j : Nat) : 0 ≤ wIdx n j ∧ wIdx n j < 5 := by
  unfold wIdx
  have h : 0 ≤ IntKind.u64.wrap (IntKind.u64.wrap n + IntKind.u64.wrap (j : Int)) := by
    rw [IntKind.wrap_u64]
    omega
  exact ⟨Int.tmod_nonneg _ h, Int.tmod_lt_of_pos _ (by omega)⟩
def wTxt (n : Int) (j : Nat) : List UInt8 := whitesL.getD (wIdx n j).toNat []
theorem wTxt_mem (n : Int) (j : Nat) : wTxt n j ∈ whitesL := by
  have h := wIdx_in n j
  unfold wTxt
  have h5 : (wIdx n j).toNat < 5 := by omega
  revert h5
  generalize (wIdx n j).toNat = k
  intro h5
  have : k = 0 ∨ k = 1 ∨ k = 2 ∨ k = 3 ∨ k = 4 := by omega
  rcases this with rfl | rfl | rfl | rfl | rfl <;> decide
theorem wTxt_cell {w : World} {g : Nat} (n : Int) (j : Nat) (h0 : w.cell? ⟨g, 0, none⟩ = some (.string ⟨#[32]⟩)) (h1 : w.cell? ⟨g, 1, none⟩ = some (.string ⟨#[9]⟩)) (h2 : w.cell? ⟨g, 2, none⟩ = some (.string ⟨#[10]⟩)) (h3 : w.cell? ⟨g, 3, none⟩ = some (.string ⟨#[13, 10]⟩))
    (h4 : w.cell? ⟨g, 4, none⟩ = some (.string ⟨#[32, 47, 47, 32, 97, 32, 119, 111, 114, 100, 10]⟩)) : w.cell? ⟨g, (wIdx n j).toNat, none⟩ = some (.string ⟨(wTxt n j).toArray⟩) := by
  have h := wIdx_in n j
  unfold wTxt
  have h5 : (wIdx n j).toNat < 5 := by omega
  revert h5
  generalize (wIdx n j).toNat = k
  intro h5
  have : k = 0 ∨ k = 1 ∨ k = 2 ∨ k = 3 ∨ k = 4 := by omega
  rcases this with rfl | rfl | rfl | rfl | rfl
  · exact h0
  · exact h1
  · exact h2
  · exact h3
  · exact h4
theorem own_rd {w : World} {B e : Nat} {v : Value} {n : Nat} {xs : List UInt8} (h : Own w B e 1 v n (bv xs)) : RdB w.heap.size w v xs := by
  have hl := h.1
  rw [bv_length, Nat.mul_one] at hl
  rcases h.2 with ⟨rfl, hn⟩ | ⟨g, off, cap, cur, fz, rfl, _, hgg, hc, hm, _⟩
  · exact .inl ⟨rfl, List.eq_nil_of_length_eq_zero (by omega)⟩
  · exact .inr ⟨g, off, cap, by rw [hl], (Array.getElem?_eq_some_iff.1 hgg).1, by omega, hm, h.cells rfl⟩
/-- A cell of a block that is not the slice's own stays. -/
theorem grew_cell {w w' : World} {v v' : Value} {g k : Nat} (h : Grew w v w' v') (hg : g < w.heap.size) (hne : ∀ b, v.ownBlock = some b → b ≠ g) : w'.cell? ⟨g, k, none⟩ = w.cell? ⟨g, k, none⟩ := by
  refine World.cell?_of_block (a := ⟨g, k, none⟩) (h.grown.block g hg ?_)
  intro e
  exact hne g e.symm rfl

set_option maxRecDepth 100000 in
set_option maxHeartbeats 1000000 in
theorem white_at (v : Value) (bs : List UInt8) (n : Int) (w : World) (ht : Tabs w) (hv : RdB w.heap.size w v bs) :
    Calls Tryd.prog 4 #[v, .int .i64 n] w fun e w' => e = .returned (.bool true) ∧ Below w.heap.size w w' := by
  have HT := Lib.hid ht
  have HV := Lib.hid hv
  have hvs : ∃ a cap, v = .slice a bs.length cap ∧ bs.length ≤ 9223372036854775807 := by
    rcases hv with ⟨rfl, rfl⟩ | ⟨g, off, cap, rfl, _, h1, h2, _⟩
    · exact ⟨_, _, rfl, Nat.zero_le _⟩
    · exact ⟨_, _, rfl, by unfold maxLen at h2; omega⟩
  obtain ⟨a, cap, hva, hbl⟩ := hvs
  subst hva
  clear hv ht
  by_cases h1 : bs.length > 1000
  · go_enter Tryd.func4, Tryd.ntmps4
    go_wp2_with fail
    refine (works23 _ HT.out).mono ?_
    rintro e w1 ⟨rfl, hb1⟩
    go_wp2_with fail
    go_ret
    exact ⟨rfl, hb1⟩
  · have hbl2 : bs.length ≤ 1000 := by omega
    have HA := Lib.hid (fun W (hb : Below w.heap.size w W) => gAll w.heap.size _ bs W (HT.out.below hb) (HV.out.below hb) hb.size (by omega))
    have HER := Lib.hid (all_err_nil bs (bs.length + 1) 0)
    have HWS := Lib.hid (allS_words bs)
    have HER2 : Hid ((allS bs).2 ≠ 0 → (allS bs).1 = []) := HER
    generalize allS bs = la at *
    obtain ⟨ws, ea⟩ := la
    by_cases hea : ea = 0
    · subst hea
      go_enter Tryd.func4, Tryd.ntmps4
      go_wp2_with fail
      refine (works23 _ HT.out).mono ?_
      rintro e w1 ⟨rfl, hb1⟩
      go_wp2_with fail
      refine (HA.out _ hb1).mono ?_
      rintro e w2 ⟨v1, rfl, ho1, hb2⟩
      have hb3 := hb1.trans (hb2.mono hb1.size)
      obtain ⟨o1, c1, rfl, hc1, hm1, hw1⟩ := words_open ho1
      have HW1 := Lib.hid hw1
      have HO1 := Lib.hid ho1
      clear ho1 hw1
      simp only at hm1 hc1
      go_wp2_with fail
      obtain ⟨wb, hwb⟩ : ∃ wb, wb = w2.alloc (Obj.cells #[.string ⟨#[32]⟩, .string ⟨#[9]⟩, .string ⟨#[10]⟩, .string ⟨#[13, 10]⟩, .string ⟨#[32, 47, 47, 32, 97, 32, 119, 111, 114, 100, 10]⟩] 9) := ⟨_, rfl⟩
      rw [← hwb]
      have hb4 : Below w.heap.size w wb := by rw [hwb]; exact hb3.alloc hb3.size _
      have hsb : w2.heap.size < wb.heap.size := by rw [hwb, World.size_alloc]; omega
      have hb5 : Below w2.heap.size w2 wb := by rw [hwb]; exact (Below.refl _ _).alloc (Nat.le_refl _) _
      have hwc : ∀ W, Below wb.heap.size wb W → W.cell? ⟨w2.heap.size, 0, none⟩ = some (.string ⟨#[32]⟩) ∧ W.cell? ⟨w2.heap.size, 1, none⟩ = some (.string ⟨#[9]⟩) ∧ W.cell? ⟨w2.heap.size, 2, none⟩ = some (.string ⟨#[10]⟩) ∧ W.cell? ⟨w2.heap.size, 3, none⟩ = some (.string ⟨#[13, 10]⟩) ∧
          W.cell? ⟨w2.heap.size, 4, none⟩ = some (.string ⟨#[32, 47, 47, 32, 97, 32, 119, 111, 114, 100, 10]⟩) := fun W hb => five_at w2 W 9 _ _ _ _ _ (by rw [← hwb]; exact hb)
      have HWC := Lib.hid hwc
      have HWB := Lib.hid hwb
      clear hwc hwb
      go_loopw [8, 34] (fun c i wr => ∃ (j : Nat) (xs : List UInt8), i = .int .i64 j ∧ j ≤ ws.length ∧ Hid (Own wr wb.heap.size 5 1 c xs.length (bv xs)) ∧ xs.length ≤ 1100 * j ∧ Hid (xs = joinW (wTxt n) 0 ((ws.take j).map strip)) ∧ Below wb.heap.size wb wr) (fun _ i _ => (ws.length - intOf i).toNat)
      case atStart => exact ⟨0, [], rfl, Nat.zero_le _, Lib.hid (Own.nil _ _ _ _), Nat.zero_le _, Lib.hid rfl, Below.refl _ _⟩
      case round =>
        obtain ⟨j, xs, rfl, hj, HX, hxl, HJ, hbr⟩ := hrel
        by_cases hlt : j < ws.length
        · obtain ⟨x, hx⟩ : ∃ x, ws[j]? = some x := ⟨_, List.getElem?_eq_getElem hlt⟩
          obtain ⟨g1, f1, rfl, l1, p0, p1, p2, p3, p4⟩ := HW1.out j x hx
          obtain ⟨xk, xt, xn, xa, xx⟩ := x
          simp only at p0 p1 p2 p3 p4
          have key1 : ∀ k : Nat, w2.cell? ⟨g1, k, none⟩ = wr.cell? ⟨g1, k, none⟩ := fun k => ((hbr.cell (p := ⟨g1, k, none⟩) (show g1 < _ by omega)).trans (hb5.cell (p := ⟨g1, k, none⟩) l1)).symm
          rw [key1] at p0 p1 p2 p3 p4
          clear key1
          obtain ⟨hisw, hle1, hle2, htx⟩ := HWS.out.1 _ (List.mem_of_getElem? hx)
          simp only at hle1 hle2 htx
          have htne : xt ≠ [] := (word_again hisw [] (.inl rfl)).1
          have htl : xt.length = xx - xa := by rw [htx, List.length_take, List.length_drop]; omega
          have htl0 : 0 < xt.length := List.length_pos_iff.2 htne
          rcases HV.out with ⟨_, hb0⟩ | ⟨gb, ob, cb, hva, hgb, hcb, hmb, hcells⟩
          · rw [hb0] at hle2
            simp at hle2
            omega
          obtain ⟨rfl, _, rfl⟩ := Value.slice.inj hva
          obtain ⟨hal1, hal2⟩ := allS_alone ⟨xk, xt, xn, xa, xx⟩ hisw
          simp only at hal1 hal2
          obtain ⟨y1, y2, hy⟩ : ∃ y1 y2, allS xt = ([⟨xk, xt, xn, y1, y2⟩], 0) := by
            revert hal1 hal2
            generalize allS xt = q
            obtain ⟨l, e⟩ := q
            intro hal1 hal2
            simp only at hal1 hal2
            subst hal2
            match l, hal1 with
            | [⟨k', t', n', a', x'⟩], hal1 =>
              simp only [strip, List.map_cons, List.map_nil, List.cons.injEq, Prod.mk.injEq, and_true] at hal1
              obtain ⟨rfl, rfl, rfl⟩ := hal1
              exact ⟨_, _, rfl⟩
          have hcx : ∀ W, Below w.heap.size w W → ∀ j u, (bv xt)[j]? = some u → W.cell? ⟨gb, ob + xa + j, none⟩ = some u := by
            intro W hb j u hu
            rw [hb.cell (p := ⟨gb, ob + xa + j, none⟩) hgb, Nat.add_assoc]
            refine hcells _ _ ?_
            rw [htx] at hu
            unfold bv at hu ⊢
            rw [List.map_take, List.map_drop, List.getElem?_take] at hu
            split at hu
            · rw [List.getElem?_drop] at hu; exact hu
            · cases hu
          have hmb' : cap ≤ 9223372036854775807 := hmb
          have HALL := Lib.hid (fun W (hb : Below w.heap.size w W) => gAll w.heap.size (.slice (some ⟨gb, ob + xa, none⟩) (xx - xa) (cap - xa)) xt W (HT.out.below hb) (.inr ⟨gb, ob + xa, cap - xa, by rw [htl], hgb, by omega, Nat.le_trans (Nat.sub_le _ _) hmb, hcx W hb⟩) hb.size (by omega))
          rw [hy] at HALL
          have HCV : Hid (∀ W, Below w.heap.size w W → ∀ n, (convert 22 9 (.slice (some ⟨gb, ob + xa, none⟩) (xx - xa) (cap - xa))).run Tryd.prog (W.drewN n) = .ok (.string ⟨xt.toArray⟩) (W.drewN n)) := fun W hb n => conv_cells gb (ob + xa) (cap - xa) (xx - xa) xt (W.drewN n) htl (hcx W hb)
          have hbw := hb4.trans (hbr.mono hb4.size)
          have hj1000 : j ≤ 1000 := by have : ws.length ≤ bs.length := HWS.out.2; omega
          have hxl2 : xs.length ≤ 1100000 := by omega
          have hxt1 : xt.length ≤ 1000 := by omega
          have e1 : ¬ (xx : Int) < xa := by omega
          have e2 : ¬ (bs.length : Int) < xx := by omega
          have e3 : xx ≤ cap := by omega
          have ett : (xt == xt) = true := beq_self_eq_true _
          clear hal1 hal2 hy hcx hcells hva htx htne
          go_wp2_with fail
          obtain ⟨wA, hwA⟩ : ∃ wA, wA = wr.alloc (Obj.cells #[.int .i64 (xk : Int), .string ⟨xt.toArray⟩, .int .u64 (xn : Int), .int .i64 (xa : Int), .int .i64 (xx : Int)] 26) := ⟨_, rfl⟩
          rw [← hwA]
          have hbA : Below w.heap.size w wA := by rw [hwA]; exact hbw.alloc hbw.size _
          have hbrA : Below wb.heap.size wb wA := by rw [hwA]; exact hbr.alloc hbr.size _
          have hA := fun W hb => five_at wr W 26 (.int .i64 (xk : Int)) (.string ⟨xt.toArray⟩) (.int .u64 (xn : Int)) (.int .i64 (xa : Int)) (.int .i64 (xx : Int)) hb
          rw [← hwA] at hA
          have HCA := Lib.hid hA
          have HXA : Hid (Own wA wb.heap.size 5 1 u8 xs.length (bv xs)) := by rw [hwA]; exact HX.out.alloc _
          have hsA : wr.heap.size < wA.heap.size := by rw [hwA, World.size_alloc]; omega
          have HLT0 := Lib.hid HX.out.lt
          clear hA hwA HX p0 p1 p2 p3 p4
          refine (HALL.out _ hbA).mono ?_
          rintro e w3 ⟨v2, rfl, ho2, hb6⟩
          obtain ⟨o2, c2, rfl, hc2, hm2, hw2⟩ := words_open ho2
          obtain ⟨g2, f2, rfl, l2, q0, q1, q2, q3, q4⟩ := hw2 0 _ rfl
          simp only [Nat.zero_mul, Nat.add_zero] at q0 q1 q2 q3 q4
          simp only at hm2 hc2
          have hb7 := hbA.trans (hb6.mono hbA.size)
          have hcv := HCV.out w3 hb7
          obtain ⟨a0, a1, a2, a3, a4⟩ := HCA.out w3 hb6
          have HX3 := Lib.hid (HXA.out.below hb6)
          clear ho2 hw2 HXA
          clear HALL HCV HCA HWS HW1 HO1 HA
          go_wp2_with fail
          go_quiet (fail)
          clear hcv q0 q1 q2 q3 q4
          obtain ⟨b0, b1, b2, b3, b4⟩ := HWC.out w3 (hbrA.trans (hb6.mono hbrA.size))
          have hcw := wTxt_cell n j b0 b1 b2 b3 b4
          have hwi := wIdx_in n j
          have hql := whites_len _ (wTxt_mem n j)
          have hqe : wTxt n j = wTxt n j := rfl
          unfold wIdx at hcw hwi
          generalize hqt : wTxt n j = qt at hcw hql hqe
          have HQT := Lib.hid hqt
          have hqs : (ByteArray.mk qt.toArray).size = qt.length := by simp [ByteArray.size]
          have hxs : (ByteArray.mk xt.toArray).size = xt.length := by simp [ByteArray.size]
          have hqd : (ByteArray.mk qt.toArray).data.toList = qt := by simp
          have hxd : (ByteArray.mk xt.toArray).data.toList = xt := by simp
          have HJ2 : Hid (xs ++ qt ++ xt = joinW (wTxt n) 0 ((ws.take (j + 1)).map strip)) := by
            unfold Hid
            obtain ⟨hl, hxe⟩ := List.getElem?_eq_some_iff.1 hx
            rw [List.take_succ_eq_append_getElem hl, List.map_append, List.map_cons, List.map_nil, joinW_snoc, hxe, ← HJ.out, List.length_map, List.length_take, Nat.min_eq_left hj, Nat.zero_add, HQT.out, List.append_assoc]
            rfl
          have HLT : Hid (∀ b, u8.ownBlock = some b → b < wr.heap.size) := fun b hb => (HLT0.out b hb).2
          have hs3 := hb6.size
          have hwb3 : wb.heap.size ≤ w3.heap.size := Nat.le_trans hbrA.size hs3
          clear b0 b1 b2 b3 b4 a0 a2 a3 a4 hqe hqt
          have HA1 : Hid (∀ (v5 : Value) (w5 : World) (k : Nat), Grew (w3.drewN k) u8 w5 v5 → w5.cell? ⟨wr.heap.size, 1, none⟩ = some (.string ⟨xt.toArray⟩)) := fun v5 w5 k hg => by
            rw [grew_cell hg (by simp; omega) (fun b hb => by have := HLT.out b hb; omega)]
            exact a1
          go_wp2_with fail
          go_region_law (first
            | (refine step_app_string rfl slBytes Tryd.underlying9 (.tmp 112) (.tmp 121) rfl wb.heap.size u8 _ _ rfl (by exact (HX3.out.below (Below.mono ⟨rfl, rfl, rfl, Nat.le_refl _, fun _ _ => rfl⟩ (Nat.le_refl _)))) _ rfl (by rw [hqs]; omega) (by simp; omega) ?_; intro v5 w5 ho5 hg5; have ha1 := HA1.out v5 w5 _ hg5)
            | (refine step_app_string rfl slBytes Tryd.underlying9 (.tmp 122) (.tmp 124) rfl wb.heap.size v5 _ _ rfl (by exact ho5) _ rfl (by rw [hqs, hxs]; omega) (by have := hg5.grown.size; simp at this; omega) ?_; intro v6 w6 ho6 hg6))
          all_goals
            have hB5 := hg5.to_below (B := wb.heap.size) (by simp; omega) (fun b hb => (HX3.out.lt b hb).1)
            have hB6 := hg6.to_below (B := wb.heap.size) (by have := hB5.size; simp at this; omega) (fun b hb => (ho5.lt b hb).1)
            have hB3 := (hbrA.trans (hb6.mono hbrA.size)).trans ((below_drewN (Below.refl _ w3) _).trans (hB5.trans hB6))
            have HO6 : Hid (Own w6 wb.heap.size 5 1 v6 (xs ++ qt ++ xt).length (bv (xs ++ qt ++ xt))) := by
              unfold Hid
              rw [bv_append, bv_append, List.length_append, List.length_append]
              have h := ho6
              simp only [ByteArray.size, List.size_toArray] at h
              exact h
            clear ho6 hg6 hg5 ho5 ha1 hB5 hB6
            go_wp2_with fail
            go_roundw
            case rel => exact ⟨j + 1, xs ++ qt ++ xt, by go_num, by omega, HO6, by rw [List.length_append, List.length_append]; omega, HJ2, hB3⟩
            case measure => simp [intOf]; omega
        · obtain rfl : j = ws.length := by omega
          have hj1000 : ws.length ≤ 1000 := by have : ws.length ≤ bs.length := HWS.out.2; omega
          have hjj := HJ.out
          rw [List.take_length] at hjj
          obtain ⟨hal1, hal2⟩ := allS_join (wTxt n) (wTxt_mem n) ws (fun x hx => (HWS.out.1 x hx).1)
          rw [← hjj] at hal1 hal2
          have hle : (ByteArray.mk #[32, 47, 47, 32, 101, 110, 100]).size = 7 := rfl
          have hbw := hb4.trans (hbr.mono hb4.size)
          have HAL1 := Lib.hid hal1
          have HAL2 := Lib.hid hal2
          clear hjj hal1 hal2
          go_wp2_with (at_builtin; refine wpList_app_string rfl slBytes Tryd.underlying9 (.tmp 128) (.const (.string ⟨#[32, 47, 47, 32, 101, 110, 100]⟩)) rfl wb.heap.size _ _ _ rfl HX.out _ rfl (by rw [hle]; omega) hbr.size ?_; intro v6 w6 ho6 hg6)
          have hB6 := hg6.to_below (B := wb.heap.size) hbr.size (fun b hb => (HX.out.lt b hb).1)
          have hbw6 := hbw.trans (hB6.mono hb4.size)
          have ho7 : Own w6 wb.heap.size 5 1 v6 (xs.length + 7) (bv (xs ++ endS)) := by
            rw [bv_append]
            exact ho6
          have hrd := own_rd ho7
          have hlen : (xs ++ endS).length ≤ 1099511627 := by
            rw [List.length_append]
            have : endS.length = 7 := rfl
            omega
          have hcall := gAll w6.heap.size v6 (xs ++ endS) w6 (HT.out.below hbw6) hrd (Nat.le_refl _) hlen
          have hal1 := HAL1.out
          have hal2 := HAL2.out
          obtain ⟨ms, em, hms⟩ : ∃ ms em, allS (xs ++ endS) = (ms, em) := ⟨_, _, rfl⟩
          rw [hms] at hal1 hal2 hcall
          simp only at hal1 hal2
          subst hal2
          have hml : ms.length = ws.length := by have := congrArg List.length hal1; simpa using this
          have HM1 := Lib.hid hal1
          clear hms hal1 HAL1 HAL2 ho6 ho7 hrd hlen hg6
          refine hcall.mono ?_
          rintro e w7 ⟨v8, rfl, ho8, hb8⟩
          obtain ⟨o3, c3, rfl, hc3, hm3, hw3⟩ := words_open ho8
          have HW3 := Lib.hid hw3
          have hb9 := hbw6.trans (hb8.mono hbw6.size)
          have hb10 : Below w2.heap.size w2 w7 := (hb5.trans ((hbr.trans hB6).mono hb5.size)).trans (hb8.mono (by have := hB6.size; have := hbr.size; omega))
          clear ho8 hw3 hcall
          simp only at hm3 hc3
          rw [hml] at hc3
          simp only [hml]
          go_wp2_with fail
          go_loopw [144] (fun i wq => ∃ j : Nat, i = .int .i64 j ∧ j ≤ ws.length ∧ Below w7.heap.size w7 wq) (fun i _ => (ws.length - intOf i).toNat)
          case atStart => exact ⟨0, rfl, Nat.zero_le _, Below.refl _ _⟩
          case round =>
            obtain ⟨j, rfl, hj2, hbq⟩ := hrel
            by_cases hlt2 : j < ws.length
            · obtain ⟨x, hx⟩ : ∃ x, ws[j]? = some x := ⟨_, List.getElem?_eq_getElem hlt2⟩
              obtain ⟨y, hy⟩ : ∃ y, ms[j]? = some y := ⟨_, List.getElem?_eq_getElem (by omega)⟩
              have hsx : strip y = strip x := by
                have h := congrArg (fun l => l[j]?) HM1.out
                simpa [hx, hy] using h
              obtain ⟨g1, f1, rfl, l1, p0, p1, p2, p3, p4⟩ := HW1.out j x hx
              obtain ⟨g3, f3, rfl, l3, q0, q1, q2, q3, q4⟩ := HW3.out j y hy
              have key1 : ∀ k : Nat, w2.cell? ⟨g1, k, none⟩ = wr.cell? ⟨g1, k, none⟩ := fun k => ((hbq.cell (p := ⟨g1, k, none⟩) (show g1 < _ by have := hb10.size; omega)).trans (hb10.cell (p := ⟨g1, k, none⟩) l1)).symm
              have key3 : ∀ k : Nat, w7.cell? ⟨g3, k, none⟩ = wr.cell? ⟨g3, k, none⟩ := fun k => (hbq.cell (p := ⟨g3, k, none⟩) l3).symm
              rw [key1] at p0 p1 p2 p3 p4
              rw [key3] at q0 q1 q2 q3 q4
              obtain ⟨xk, xt, xn, xa, xx⟩ := x
              obtain ⟨yk, yt, yn, ya, yx⟩ := y
              simp only [strip, Prod.mk.injEq] at hsx
              obtain ⟨rfl, rfl, rfl⟩ := hsx
              simp only at p0 p1 p2 p3 p4 q0 q1 q2 q3 q4
              have ett : (yt == yt) = true := beq_self_eq_true _
              clear key1 key3 hx hy HW1 HW3 HA HWS HO1 HM1 HJ HX HWC p3 p4 q3 q4
              go_wp2_with fail
              go_quiet (fail)
              go_wp2_with fail
              go_roundw
              case rel => exact ⟨j + 1, by go_num, by omega, below_drewN hbq _⟩
              case measure => simp [intOf]; omega
            · obtain rfl : j = ws.length := by omega
              go_wp2_with fail
              go_ret
              exact ⟨rfl, hb9.trans (hbq.mono hb9.size)⟩
    · have hea' : ((ea : Int) == 0) = false := beq_eq_false_iff_ne.2 (by omega)
      obtain rfl : ws = [] := HER2.out hea
      go_enter Tryd.func4, Tryd.ntmps4
      go_wp2_with fail
      refine (works23 _ HT.out).mono ?_
      rintro e w1 ⟨rfl, hb1⟩
      go_wp2_with fail
      refine (HA.out _ hb1).mono ?_
      rintro e w2 ⟨v1, rfl, ho1, hb2⟩
      have hb3 := hb1.trans (hb2.mono hb1.size)
      obtain ⟨o1, c1, rfl, hc1, hm1, hw1⟩ := words_open ho1
      clear ho1 hw1
      simp only at hm1 hc1
      go_wp2_with fail
      go_ret
      exact ⟨rfl, hb3⟩
end Go.Proofs.YtaelanpmgckfkaaRRRRDoor
