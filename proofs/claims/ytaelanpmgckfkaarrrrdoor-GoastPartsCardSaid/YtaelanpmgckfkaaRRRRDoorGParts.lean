/- GoastParts, walked. -/
import Derived.Test.YtaelanpmgckfkaaRRRRDoorCount3
import Derived.Test.YtaelanpmgckfkaaRRRRDoorStep
import Derived.Deep.Cut
import Derived.Deep.CutRange
import Derived.WalkKit
import Derived.StillTailTactics
import Derived.Deep.QuietTactic
namespace Go.Proofs.YtaelanpmgckfkaaRRRRDoor
open Go.RowKit Go.Av

def zeroE : Array Value := #[.int .i64 0, .string ⟨#[]⟩, .int .u64 0, .int .i64 0, .string ⟨#[]⟩, nilV, nilV, nilV]
theorem slExprs : SlTy Tryd.prog 54 56 8 128 (.agg #[.int .i64 0, .string ⟨#[]⟩, .int .u64 0, .int .i64 0, .string ⟨#[]⟩, .slice none 0 0, .slice none 0 0, .slice none 0 0]) := ⟨Tryd.underlying54, by kernel_rfl, rfl⟩
/-- Cells of elements in a row. -/
def flatK (n : Nat) (F : Nat → Array Value) : List Value := (List.range n).flatMap fun j => (F j).toList
theorem flatK_succ (n : Nat) (F : Nat → Array Value) : flatK (n + 1) F = flatK n F ++ (F n).toList := by
  unfold flatK
  rw [List.range_succ, List.flatMap_append]
  simp
theorem flatK_length (F : Nat → Array Value) (hF : ∀ j, (F j).size = 8) : ∀ n, (flatK n F).length = n * 8
  | 0 => rfl
  | n + 1 => by
    rw [flatK_succ, List.length_append, flatK_length F hF n, Array.length_toList, hF]
    omega
theorem flatK_at (F : Nat → Array Value) (hF : ∀ j, (F j).size = 8) : ∀ n j q, j < n → q < 8 → (flatK n F)[j * 8 + q]? = (F j)[q]?
  | 0, j, q, h, _ => by omega
  | n + 1, j, q, h, hq => by
    rw [flatK_succ]
    have hl := flatK_length F hF n
    by_cases hj : j < n
    · rw [List.getElem?_append_left (by omega)]
      exact flatK_at F hF n j q hj hq
    · obtain rfl : j = n := by omega
      rw [List.getElem?_append_right (by omega), show j * 8 + q - (flatK j F).length = q by omega]
      simp
/-- A slice of the call's own that holds something, taken apart. -/
theorem own_some {w : World} {B e size : Nat} {v : Value} {n : Nat} {xs : List Value} (h : Own w B e size v (n + 1) xs) : ∃ g off cap, v = .slice (some ⟨g, off, none⟩) (n + 1) cap ∧ B ≤ g ∧ g < w.heap.size ∧ n + 1 ≤ cap ∧ cap ≤ 9223372036854775807 ∧
    ∀ j u, xs[j]? = some u → w.cell? ⟨g, off + j, none⟩ = some u := by
  rcases h.2 with ⟨_, hn⟩ | ⟨g, off, cap, cur, fz, rfl, hB, hgg, hc, hm, _⟩
  · omega
  · exact ⟨g, off, cap, rfl, hB, (Array.getElem?_eq_some_iff.1 hgg).1, hc, hm, h.cells rfl⟩
/-- The cells of the kids, and of one more. -/
def kidF (x : ExT) (f1 f2 f3 : Nat → Value) (j : Nat) : Array Value := if h : j < x.kids.length then exCells x.kids[j] (f1 j) (f2 j) (f3 j) else exCells truT nilV nilV nilV
theorem kidF_size (x : ExT) (f1 f2 f3 : Nat → Value) (j : Nat) : (kidF x f1 f2 f3 j).size = 8 := by
  unfold kidF
  split <;> rfl
theorem kidF_old (x : ExT) (f1 f2 f3 : Nat → Value) (j : Nat) (h : j < x.kids.length) : kidF x f1 f2 f3 j = exCells x.kids[j] (f1 j) (f2 j) (f3 j) := by unfold kidF; rw [dif_pos h]
theorem kidF_new (x : ExT) (f1 f2 f3 : Nat → Value) : kidF x f1 f2 f3 x.kids.length = exCells truT nilV nilV nilV := by unfold kidF; rw [dif_neg (by omega)]
theorem flatK_one (n : Nat) (F : Nat → Array Value) (h : ∀ j < n, ∀ u ∈ (F j).toList, u.oneCell' = true) : ∀ u ∈ flatK n F, u.oneCell' = true := by
  intro u hu
  obtain ⟨j, hj, hu⟩ := List.mem_flatMap.1 hu
  exact h j (List.mem_range.1 hj) u hu
theorem ex_one (x : ExT) {a b c : Value} (ha : a.oneCell' = true) (hb : b.oneCell' = true) (hc : c.oneCell' = true) : ∀ u ∈ (exCells x a b c).toList, u.oneCell' = true := by
  intro u hu
  have : u ∈ [Value.int .i64 x.kind, .string ⟨x.text.toArray⟩, .int .u64 x.int, .int .i64 x.type.kind, .string ⟨x.type.name.toArray⟩, a, b, c] := hu
  simp only [List.mem_cons, List.not_mem_nil, or_false] at this
  rcases this with rfl | rfl | rfl | rfl | rfl | rfl | rfl | rfl <;> first | rfl | assumption
theorem more_rd {B : Nat} {W : World} {x : ExT} {a b : Value} {f1 f2 f3 : Nat → Value} {g off cap : Nat} (hty : RdTy B W x.type a) (hns : RdSs B W x.names b) (hkr : ∀ j (h : j < x.kids.length), RdEx B W x.kids[j] (f1 j) (f2 j) (f3 j))
    (ht : x.text.length ≤ 9223372036854775807) (hi : 0 ≤ x.int ∧ x.int ≤ 18446744073709551615) (hg : g < B) (hc : x.kids.length + 1 ≤ cap) (hm : cap ≤ 9223372036854775807)
    (hcell : ∀ j q, j < x.kids.length + 1 → q < 8 → W.cell? ⟨g, off + (j * 8 + q), none⟩ = (kidF x f1 f2 f3 j)[q]?) : RdEx B W (moreT x) a b (.slice (some ⟨g, off, none⟩) (x.kids.length + 1) cap) := by
  have hlen : (x.kids ++ [truT]).length = x.kids.length + 1 := by simp
  have h := RdEx.mk (B := B) (W := W) x.kind x.text x.int x.type x.names (x.kids ++ [truT]) a b (some ⟨g, off, none⟩) cap (fun j => if j < x.kids.length then f1 j else nilV) (fun j => if j < x.kids.length then f2 j else nilV) (fun j => if j < x.kids.length then f3 j else nilV)
    (by rw [hlen]; exact hc) hm ht hi hty hns (fun _ => ⟨g, off, rfl, hg, fun j hj => ?_⟩) (fun j hj => ?_)
  · rw [hlen] at h
    exact h
  · rw [hlen] at hj
    have hcj := fun q hq => hcell j q hj hq
    by_cases hjk : j < x.kids.length
    · rw [List.getElem_append_left hjk]
      simp only [if_pos hjk]
      rw [kidF_old x f1 f2 f3 j hjk] at hcj
      exact ⟨hcj 0 (by omega), hcj 1 (by omega), hcj 2 (by omega), hcj 3 (by omega), hcj 4 (by omega), hcj 5 (by omega), hcj 6 (by omega), hcj 7 (by omega)⟩
    · obtain rfl : j = x.kids.length := by omega
      rw [kidF_new] at hcj
      have hlast : (x.kids ++ [truT])[x.kids.length]'(by rw [hlen]; omega) = truT := by simp
      rw [hlast]
      simp only [if_neg hjk]
      exact ⟨hcj 0 (by omega), hcj 1 (by omega), hcj 2 (by omega), hcj 3 (by omega), hcj 4 (by omega), hcj 5 (by omega), hcj 6 (by omega), hcj 7 (by omega)⟩
  · rw [hlen] at hj
    by_cases hjk : j < x.kids.length
    · rw [List.getElem_append_left hjk]
      simp only [if_pos hjk]
      exact hkr j hjk
    · obtain rfl : j = x.kids.length := by omega
      have hlast : (x.kids ++ [truT])[x.kids.length]'(by rw [hlen]; omega) = truT := by simp
      rw [hlast]
      simp only [if_neg hjk]
      exact rd_leaf B W (3, [], 0) (by decide) (by decide)
theorem slice_one (o : Option Addr) (n m : Nat) : (Value.slice o n m).oneCell' = true := rfl
/-- The kids' cells, as append reads them. -/
theorem first_kids {w0 W : World} {x : ExT} {o : Option Addr} {f1 f2 f3 : Nat → Value} {cap : Nat} (hks : KidsAt w0.heap.size w0 x.kids o f1 f2 f3) (hb : ∀ g k : Nat, g < w0.heap.size → W.cell? ⟨g, k, none⟩ = w0.cell? ⟨g, k, none⟩) :
    (Builtin.firstCells 8 x.kids.length (.slice o x.kids.length cap)).run Tryd.prog W = .ok (flatK x.kids.length (kidF x f1 f2 f3)).toArray W := by
  by_cases hk : x.kids = []
  · have hl : x.kids.length = 0 := by rw [hk]; rfl
    rw [hl]
    cases o <;> simp [Builtin.firstCells, loadCells, loadCellsFrom, flatK, go_sem]
  · obtain ⟨g, off, rfl, hg, hcl⟩ := hks hk
    refine run_firstCells_some (P := Tryd.prog) W 8 x.kids.length ⟨g, off, none⟩ x.kids.length cap _ (flatK_length _ (kidF_size x f1 f2 f3) _) ?_
    intro j v hv
    rw [Addr.add_plain]
    have hjl : j < x.kids.length * 8 := by
      have := (List.getElem?_eq_some_iff.1 hv).1
      rwa [flatK_length _ (kidF_size x f1 f2 f3)] at this
    have hj8 : j / 8 < x.kids.length := by omega
    have hq8 : j % 8 < 8 := by omega
    have hjj : j = (j / 8) * 8 + j % 8 := by omega
    rw [hjj, flatK_at _ (kidF_size x f1 f2 f3) _ _ _ hj8 hq8, kidF_old x f1 f2 f3 _ hj8] at hv
    rw [hb g (off + j) hg, hjj]
    obtain ⟨c0, c1, c2, c3, c4, c5, c6, c7⟩ := hcl (j / 8) hj8
    generalize x.kids[j / 8] = y at *
    generalize j % 8 = q at *
    have hq : q = 0 ∨ q = 1 ∨ q = 2 ∨ q = 3 ∨ q = 4 ∨ q = 5 ∨ q = 6 ∨ q = 7 := by omega
    rw [← Nat.add_assoc]
    rcases hq with rfl | rfl | rfl | rfl | rfl | rfl | rfl | rfl
    · exact c0.trans hv
    · exact c1.trans hv
    · exact c2.trans hv
    · exact c3.trans hv
    · exact c4.trans hv
    · exact c5.trans hv
    · exact c6.trans hv
    · exact c7.trans hv

theorem grew_cell2 {w w' : World} {v v' : Value} {g : Nat} (h : Grew w v w' v') (hg : g < w.heap.size) (hne : ∀ b, v.ownBlock = some b → b ≠ g) (k : Nat) : w'.cell? ⟨g, k, none⟩ = w.cell? ⟨g, k, none⟩ ∧ w'.frozen? ⟨g, k, none⟩ = w.frozen? ⟨g, k, none⟩ := by
  have hb := h.grown.block g hg (by intro e; exact hne g e.symm rfl)
  exact ⟨World.cell?_of_block (a := ⟨g, k, none⟩) hb, World.frozen?_of_block (a := ⟨g, k, none⟩) hb⟩
theorem own_empty (w : World) (e : TypeId) : Own (w.alloc (Obj.cells #[] e)) w.heap.size e 8 (.slice (some ⟨w.heap.size, 0, none⟩) 0 0) 0 [] := by
  refine ⟨rfl, .inr ⟨w.heap.size, 0, 0, #[], (0, 0), rfl, Nat.le_refl _, ?_, Nat.le_refl _, Nat.zero_le _, by simp, .inr (Nat.le_refl _), by simp⟩⟩
  simp only [World.alloc, Array.getElem?_push_size]

set_option maxRecDepth 100000 in
set_option maxHeartbeats 2000000 in
theorem parts_walk (x : ExT) (a b c : Value) (w : World) (h : RdEx w.heap.size w x a b c) (ht : Tabs w) (h2 : 2 ≤ w.heap.size) :
    Calls Tryd.prog 7 #[.agg (exCells x a b c)] w fun e w' => e = .returned (.bool true) ∧ Below w.heap.size w w' := by
  have HT := Lib.hid ht
  have HX := Lib.hid h
  obtain ⟨⟨oa, na, ma, hva⟩, ⟨ob, nb, mb, hvb⟩, _⟩ := h.slices
  obtain ⟨o, cap, f1, f2, f3, rfl, hc, hm, _, _, hks, hkr⟩ := h.open
  subst hva hvb
  have HKS := Lib.hid hks
  have HKR := Lib.hid hkr
  clear h ht hks hkr
  have HEP := Lib.hid (fun W (hb : Below w.heap.size w W) => expressions_at w.heap.size w x _ _ _ HX.out W hb hb.size)
  have HGO := Lib.hid (fun W (hb : Below w.heap.size w W) => goExpr w.heap.size w x _ _ _ HX.out W h2 hb hb.size (HT.out.below hb))
  rw [exCells_eq] at HEP HGO ⊢
  obtain ⟨wx, hwx⟩ : ∃ wx, wx = w.alloc (Obj.cells #[.int .i64 x.kind, .string ⟨x.text.toArray⟩, .int .u64 x.int, .int .i64 x.type.kind, .string ⟨x.type.name.toArray⟩, .slice oa na ma, .slice ob nb mb, .slice o x.kids.length cap] 56) := ⟨_, rfl⟩
  have hbx : Below w.heap.size w wx := by rw [hwx]; exact (Below.refl _ _).alloc (Nat.le_refl _) _
  have hsx : wx.heap.size = w.heap.size + 1 := by rw [hwx, World.size_alloc]
  have hC : ∀ W, Below wx.heap.size wx W → _ := fun W hb => eight_at w W 56 (.int .i64 x.kind) (.string ⟨x.text.toArray⟩) (.int .u64 x.int) (.int .i64 x.type.kind) (.string ⟨x.type.name.toArray⟩) (.slice oa na ma) (.slice ob nb mb) (.slice o x.kids.length cap) (key_below w W _ (by rw [hwx] at hb; exact hb))
  have HC := Lib.hid hC
  have HWX := Lib.hid hwx
  clear hC hwx
  by_cases hbig : epS [x] 0 2500 > 2500
  · go_enter Tryd.func7, Tryd.ntmps7
    go_wp2_with fail
    rw [← HWX.out]
    refine (works24 _ (HT.out.below hbx) (by omega)).mono ?_
    rintro e w1 ⟨rfl, hb1⟩
    have hb2 := hbx.trans (hb1.mono hbx.size)
    obtain ⟨m0, m1, m2, m3, m4, m5, m6, m7⟩ := HC.out w1 hb1
    go_wp2_with fail
    refine (HEP.out w1 hb2).mono ?_
    rintro e w2 ⟨rfl, hb3⟩
    have hb4 := hb2.trans (hb3.mono hb2.size)
    go_wp2_with fail
    go_ret
    exact ⟨rfl, hb4⟩
  · cases hmay : (exS x 0 0).1
    · rw [hmay] at HGO
      go_enter Tryd.func7, Tryd.ntmps7
      go_wp2_with fail
      rw [← HWX.out]
      refine (works24 _ (HT.out.below hbx) (by omega)).mono ?_
      rintro e w1 ⟨rfl, hb1⟩
      have hb2 := hbx.trans (hb1.mono hbx.size)
      obtain ⟨m0, m1, m2, m3, m4, m5, m6, m7⟩ := HC.out w1 hb1
      go_wp2_with fail
      refine (HEP.out w1 hb2).mono ?_
      rintro e w2 ⟨rfl, hb3⟩
      have hb4 := hb2.trans (hb3.mono hb2.size)
      have hbz := hb1.trans (hb3.mono hb1.size)
      clear m0 m1 m2 m3 m4 m5 m6 m7
      obtain ⟨m0, m1, m2, m3, m4, m5, m6, m7⟩ := HC.out w2 hbz
      go_wp2_with fail
      refine (HGO.out w2 hb4).mono ?_
      rintro e w3 ⟨rfl, hb5⟩
      go_wp2_with fail
      go_ret
      exact ⟨rfl, hb4.trans (hb5.mono hb4.size)⟩
    · rw [hmay] at HGO
      have HMAY := Lib.hid hmay
      have hcnt : ecS x ≤ 2500 := by
        have h1 := epS_eq [x] 0 2500 (by omega)
        unfold ecsS ecsS at h1
        omega
      have hmany : x.kids.length ≤ 30000 := by
        obtain ⟨k, t, i, ty, ns, ks⟩ := x
        obtain ⟨_, hq, _, _⟩ := exS_open hmay
        have : mostS k ≤ 30000 := by unfold mostS; split <;> omega
        have : ¬ mostS k < (ks.length : Int) := fun e => hq (.inl e)
        show ks.length ≤ 30000
        omega
      have HCNT := Lib.hid hcnt
      clear hmay hcnt
      go_enter Tryd.func7, Tryd.ntmps7
      go_wp2_with fail
      rw [← HWX.out]
      refine (works24 _ (HT.out.below hbx) (by omega)).mono ?_
      rintro e w1 ⟨rfl, hb1⟩
      have hb2 := hbx.trans (hb1.mono hbx.size)
      obtain ⟨m0, m1, m2, m3, m4, m5, m6, m7⟩ := HC.out w1 hb1
      go_wp2_with fail
      refine (HEP.out w1 hb2).mono ?_
      rintro e w2 ⟨rfl, hb3⟩
      have hb4 := hb2.trans (hb3.mono hb2.size)
      have hbz := hb1.trans (hb3.mono hb1.size)
      clear m0 m1 m2 m3 m4 m5 m6 m7
      obtain ⟨m0, m1, m2, m3, m4, m5, m6, m7⟩ := HC.out w2 hbz
      go_wp2_with fail
      refine (HGO.out w2 hb4).mono ?_
      rintro e w3 ⟨rfl, hb5⟩
      have hb6 := hb4.trans (hb5.mono hb4.size)
      have hbx3 := hbz.trans (hb5.mono hbz.size)
      clear m0 m1 m2 m3 m4 m5 m6 m7
      obtain ⟨m0, m1, m2, m3, m4, m5, m6, m7⟩ := HC.out w3 hbx3
      go_wp2_with fail
      go_loopw [20] (fun i wr => ∃ j : Nat, i = .int .i64 j ∧ j ≤ x.kids.length ∧ Below wx.heap.size wx wr ∧ Below w.heap.size w wr) (fun i _ => (x.kids.length - intOf i).toNat)
      case atStart => exact ⟨0, rfl, Nat.zero_le _, hbx3, hb6⟩
      case round =>
        clear m0 m1 m2 m3 m4 m5 m6 m7
        obtain ⟨j, rfl, hj, hbr, hbw⟩ := hrel
        by_cases hl : j < x.kids.length
        · obtain ⟨g1, p1, rfl, hg1, hcl⟩ := HKS.out (by intro e; rw [e] at hl; simp at hl)
          obtain ⟨q0, q1, q2, q3, q4, q5, q6, q7⟩ := hcl j hl
          have key : ∀ a : Nat, w.cell? ⟨g1, a, none⟩ = wr.cell? ⟨g1, a, none⟩ := fun a => (hbw.cell (p := ⟨g1, a, none⟩) hg1).symm
          rw [key] at q0 q1 q2 q3 q4 q5 q6 q7
          have hy := HKR.out j hl
          have hym := kids_may x HMAY.out x.kids[j] (List.getElem_mem hl)
          obtain ⟨⟨oa', na', ma', hva'⟩, ⟨ob', nb', mb', hvb'⟩, ⟨oc', mc', hvc'⟩⟩ := hy.slices
          generalize x.kids[j] = y at *
          generalize f1 j = v1 at *
          generalize f2 j = v2 at *
          generalize f3 j = v3 at *
          subst hva' hvb' hvc'
          have HGY := Lib.hid (fun W (hb : Below w.heap.size w W) => goExpr w.heap.size w y _ _ _ hy W h2 hb hb.size (HT.out.below hb))
          have HSY := Lib.hid (fun W (hb : Below w.heap.size w W) => sameExpr_at w.heap.size w y _ _ _ hy y _ _ _ W hy hb hb.size)
          rw [hym] at HGY
          rw [sameE_self] at HSY
          simp only [exCells_eq] at HGY HSY
          have hjc : j < cap := by omega
          have hE8 := fun W key => eight_at wr W 56 (.int .i64 y.kind) (.string ⟨y.text.toArray⟩) (.int .u64 y.int) (.int .i64 y.type.kind) (.string ⟨y.type.name.toArray⟩) (.slice oa' na' ma') (.slice ob' nb' mb') (.slice oc' y.kids.length mc') key
          have HE8 := Lib.hid hE8
          have hal : ∀ o : Obj, Below w.heap.size w (wr.alloc o) := fun o => hbw.alloc hbw.size o
          have halx : ∀ o : Obj, Below wx.heap.size wx (wr.alloc o) := fun o => hbr.alloc hbr.size o
          have HAL := Lib.hid hal
          have HALX := Lib.hid halx
          clear hcl key hy hym hE8 hal halx HKS HKR HX
          go_wp2_with fail
          refine (HGY.out _ (HAL.out _)).mono ?_
          rintro e w5 ⟨rfl, hb7⟩
          obtain ⟨y0, y1, y2, y3, y4, y5, y6, y7⟩ := HE8.out w5 (key_below wr w5 _ hb7)
          have hb8 := (HAL.out _).trans (hb7.mono (HAL.out _).size)
          have hb8x := (HALX.out _).trans (hb7.mono (HALX.out _).size)
          go_wp2_with fail
          refine (HSY.out w5 hb8).mono ?_
          rintro e w6 ⟨rfl, hb9⟩
          go_wp2_with fail
          go_roundw
          case rel => exact ⟨j + 1, by go_num, by omega, hb8x.trans (hb9.mono hb8x.size), hb8.trans (hb9.mono hb8.size)⟩
          case measure => simp [intOf]; omega
        · obtain rfl : j = x.kids.length := by omega
          obtain ⟨m0, m1, m2, m3, m4, m5, m6, m7⟩ := HC.out wr hbr
          have hb2o : ∀ o o2 : Obj, Below wx.heap.size wx ((wr.alloc o).alloc o2) := fun o o2 => (hbr.alloc hbr.size o).alloc (by rw [World.size_alloc]; have := hbr.size; omega) o2
          have n7 := fun o o2 : Obj => (HC.out _ (hb2o o o2)).2.2.2.2.2.2.2
          obtain ⟨wm, hwm⟩ : ∃ wm, wm = wr.alloc (Obj.cells #[.int .i64 x.kind, .string ⟨x.text.toArray⟩, .int .u64 x.int, .int .i64 x.type.kind, .string ⟨x.type.name.toArray⟩, .slice oa na ma, .slice ob nb mb, .slice o x.kids.length cap] 56) := ⟨_, rfl⟩
          have hsm : wm.heap.size = wr.heap.size + 1 := by rw [hwm, World.size_alloc]
          have hbm : Below w.heap.size w wm := by rw [hwm]; exact hbw.alloc hbw.size _
          have hown := own_empty wm 56
          have hcl1 : ∀ W : World, W.heap = (wm.alloc (Obj.cells #[] 56)).heap → ∀ g k : Nat, g < w.heap.size → W.cell? ⟨g, k, none⟩ = w.cell? ⟨g, k, none⟩ := fun W hW g k hg => by
            have h1 : W.cell? ⟨g, k, none⟩ = (wm.alloc (Obj.cells #[] 56)).cell? ⟨g, k, none⟩ := by simp [World.cell?, hW]
            rw [h1, alloc_cell _ _ _ (by have := hbm.size; show g < _; omega)]
            exact hbm.cell (p := ⟨g, k, none⟩) hg
          have hfirst := fun (W : World) hW => first_kids (cap := cap) HKS.out (hcl1 W hW)
          have hone : ∀ u ∈ flatK x.kids.length (kidF x f1 f2 f3), u.oneCell' = true := flatK_one _ _ (fun j hj u hu => by
            rw [kidF_old x f1 f2 f3 j hj] at hu
            obtain ⟨⟨o1, n1, p1, e1⟩, ⟨o2, n2, p2, e2⟩, ⟨o3, p3, e3⟩⟩ := (HKR.out j hj).slices
            rw [e1, e2, e3] at hu
            exact ex_one _ rfl rfl rfl u hu)
          have hbx0 : ∀ k : Nat, (wm.alloc (Obj.cells #[] 56)).cell? ⟨wr.heap.size, k, none⟩ = wm.cell? ⟨wr.heap.size, k, none⟩ := fun k => alloc_cell _ _ _ (by show wr.heap.size < _; omega)
          rw [hsm] at hown
          have HOWN := Lib.hid hown
          have HFIRST := Lib.hid hfirst
          have HONE := Lib.hid hone
          have HWM := Lib.hid hwm
          clear hown hfirst hone hcl1 hwm
          go_upto_region 12 with fail
          rw [← HWM.out]
          have hbxm : Below wx.heap.size wx wm := by rw [HWM.out]; exact hbr.alloc hbr.size _
          have p7 := fun o2 : Obj => (HC.out (wm.alloc o2) (hbxm.alloc hbxm.size o2)).2.2.2.2.2.2.2
          have hmore := fun W key => eight_at wr W 56 (.int .i64 x.kind) (.string ⟨x.text.toArray⟩) (.int .u64 x.int) (.int .i64 x.type.kind) (.string ⟨x.type.name.toArray⟩) (.slice oa na ma) (.slice ob nb mb) (.slice o x.kids.length cap) key
          have HMORE := Lib.hid hmore
          have hlenF : (flatK x.kids.length (kidF x f1 f2 f3)).length = x.kids.length * 8 := flatK_length _ (kidF_size x f1 f2 f3) _
          have HLENF := Lib.hid hlenF
          have hlen0 : ∀ W, (Builtin.lenOf (.slice o x.kids.length cap)).run Tryd.prog W = .ok x.kids.length W := fun W => by simp [Builtin.lenOf, go_sem]
          have HLEN0 := Lib.hid hlen0
          clear hlen0
          have hfz : ∀ k : Nat, wm.frozen? ⟨wr.heap.size, k, none⟩ = false := fun k => by
            rw [HWM.out]
            simp only [World.frozen?, World.alloc, Array.getElem?_push_size]
            simp
          have hblk : ∀ (W6 W7 : World) (v6 v7 : Value) (oo : Obj), Own W6 (wr.heap.size + 1) 56 8 v6 (0 + x.kids.length) ([] ++ flatK x.kids.length (kidF x f1 f2 f3)) → Grew (wm.alloc (Obj.cells #[] 56)) (.slice (some ⟨wr.heap.size + 1, 0, none⟩) 0 0) W6 v6 → Grew (W6.alloc oo) v6 W7 v7 →
              (∀ k : Nat, W7.cell? ⟨wr.heap.size, k, none⟩ = wm.cell? ⟨wr.heap.size, k, none⟩ ∧ W7.frozen? ⟨wr.heap.size, k, none⟩ = false) ∧ Below (wr.heap.size + 1) wm W7 := by
            intro W6 W7 v6 v7 oo ho6 hg6 hg7
            have hB1 : Below (wr.heap.size + 1) wm (wm.alloc (Obj.cells #[] 56)) := (Below.refl _ _).alloc (by omega) _
            have hB2 := hg6.to_below (B := wr.heap.size + 1) (by rw [World.size_alloc]; omega) (fun b hb => by simp [Value.ownBlock] at hb; omega)
            have hB3 : Below (wr.heap.size + 1) W6 (W6.alloc oo) := (Below.refl _ _).alloc (by have := hB2.size; rw [World.size_alloc] at this; omega) _
            have hB4 := hg7.to_below (B := wr.heap.size + 1) (by have := hB2.size; rw [World.size_alloc] at this ⊢; omega) (fun b hb => (ho6.lt b hb).1)
            have hB := ((hB1.trans hB2).trans hB3).trans hB4
            refine ⟨fun k => ⟨hB.cell (p := ⟨wr.heap.size, k, none⟩) (Nat.lt_succ_self _), ?_⟩, hB⟩
            rw [hB.frozen (p := ⟨wr.heap.size, k, none⟩) (Nat.lt_succ_self _)]
            exact hfz k
          have HBLK := Lib.hid hblk
          clear hblk hfz
          have hszm := hbm.size
          clear hmore hlenF m0 m1 m2 m3 m4 m5 m6 m7 n7 hb2o
          go_upto_region 13 with (first
            | (at_builtin; refine wpList_app rfl slExprs ⟨_, slExprs.under, by simp⟩ (.tmp 35) (.tmp 37) rfl (wr.heap.size + 1) _ 0 [] rfl HOWN.out _ rfl x.kids.length (flatK x.kids.length (kidF x f1 f2 f3)) HLENF.out HLEN0.out HFIRST.out HONE.out (by unfold maxLen; omega) (by omega) (by simp; omega) ?_; intro v6 w6 ho6 hg6)
            | (at_builtin; refine wpList_app_slice rfl slExprs (.tmp 38) (.tmp 40) rfl (wr.heap.size + 1) v6 _ _ rfl (ho6.alloc _) w6.heap.size 0 1 1 rfl (exCells truT nilV nilV nilV).toList rfl (by exact news_lit _ _ _) (ex_one truT rfl rfl rfl) (by unfold maxLen; omega) (by omega) (by have := hg6.grown.size; simp at this ⊢; omega) ?_; intro v7 w7 ho7 hg7; obtain ⟨hmb, hbw7⟩ := HBLK.out _ _ _ _ _ ho6 hg6 hg7; rw [Nat.zero_add] at ho7; obtain ⟨gq, oq, cq, rfl, hgB, hgq, hcq, hmq, hclq⟩ := own_some ho7; have h7c := (hmb 7).1; have h7f := (hmb 7).2; obtain ⟨_, _, _, _, _, _, _, e7⟩ := HMORE.out wm (fun k => by rw [HWM.out]); rw [e7] at h7c; clear e7; have HMB := Lib.hid hmb; clear hmb))
          obtain ⟨w8, hw8⟩ : ∃ w8, w8 = w7.setCell ⟨wr.heap.size, 7, none⟩ (.slice (some ⟨gq, oq, none⟩) (x.kids.length + 1) cq) := ⟨_, rfl⟩
          rw [← hw8]
          have hs7 : wr.heap.size + 1 ≤ w7.heap.size := by have := hbw7.size; omega
          have hb78 : Below wr.heap.size w7 w8 := by rw [hw8]; exact (Below.refl wr.heap.size w7).setCell (p := ⟨wr.heap.size, 7, none⟩) (Nat.le_refl wr.heap.size) _
          have hm8 : Below wr.heap.size wm w8 := (hbw7.mono (by omega)).trans hb78
          have hbx8 : Below wx.heap.size wx w8 := hbxm.trans (hm8.mono hbr.size)
          have hbw8 : Below w.heap.size w w8 := hbm.trans (hm8.mono hbw.size)
          have hs8 : w8.heap.size = w7.heap.size := by rw [hw8, World.size_setCell]
          have hmc : ∀ k : Nat, k ≠ 7 → w8.cell? ⟨wr.heap.size, k, none⟩ = wm.cell? ⟨wr.heap.size, k, none⟩ := fun k hk => by
            rw [hw8, World.cell?_setCell_other (h := by intro e; injection e with e1 e2; exact hk e2.symm)]
            exact (HMB.out k).1
          have hm7 : w8.cell? ⟨wr.heap.size, 7, none⟩ = some (.slice (some ⟨gq, oq, none⟩) (x.kids.length + 1) cq) := by
            rw [hw8]
            exact World.cell?_setCell_same _ _ _ h7c
          obtain ⟨e0, e1, e2, e3, e4, e5, e6, _⟩ := HMORE.out wm (fun k => by rw [HWM.out])
          have k0 := (hmc 0 (by omega)).trans e0
          have k1 := (hmc 1 (by omega)).trans e1
          have k2 := (hmc 2 (by omega)).trans e2
          have k3 := (hmc 3 (by omega)).trans e3
          have k4 := (hmc 4 (by omega)).trans e4
          have k5 := (hmc 5 (by omega)).trans e5
          have k6 := (hmc 6 (by omega)).trans e6
          have hcq8 : ∀ j q, j < x.kids.length + 1 → q < 8 → w8.cell? ⟨gq, oq + (j * 8 + q), none⟩ = (kidF x f1 f2 f3 j)[q]? := by
            intro j q hj hq
            have hF := flatK_at (kidF x f1 f2 f3) (kidF_size x f1 f2 f3) (x.kids.length + 1) j q hj hq
            have hls : (kidF x f1 f2 f3 j)[q]? = some ((kidF x f1 f2 f3 j)[q]'(by rw [kidF_size]; exact hq)) := Array.getElem?_eq_getElem _
            rw [hls] at hF ⊢
            rw [hw8, World.cell?_setCell_other (h := by intro e; injection e with e1 e2; omega)]
            refine hclq _ _ ?_
            rw [flatK_succ, kidF_new] at hF
            exact hF
          have hrm : RdEx w8.heap.size w8 (moreT x) (.slice oa na ma) (.slice ob nb mb) (.slice (some ⟨gq, oq, none⟩) (x.kids.length + 1) cq) := by
            obtain ⟨_, _, _, _, _, _, _, _, hty, hns, _, _⟩ := HX.out.open
            have htl : x.text.length ≤ 9223372036854775807 ∧ 0 ≤ x.int ∧ x.int ≤ 18446744073709551615 := by
              have hxx := HX.out
              cases hxx with
              | mk k t i ty ns ks tv nv o cap f1 f2 f3 hc hm ht hi hty hns hs hr => exact ⟨ht, hi⟩
            exact more_rd ((hty.kept hbw8).mono hbw8.size) ((hns.kept hbw8).mono hbw8.size) (fun j hj => (HKR.out j hj).at hbw8 hbw8.size) htl.1 htl.2 (by omega) hcq hmq hcq8
          have hx8 := HX.out.at hbw8 hbw8.size
          have hse := sameExpr_at w8.heap.size w8 x _ _ _ hx8 (moreT x) _ _ _ w8 hrm (Below.refl _ _) (Nat.le_refl _)
          rw [more_unlike] at hse
          have hge := fun W (hb : Below w8.heap.size w8 W) => goExpr w8.heap.size w8 (moreT x) _ _ _ hrm W (by have := hbw8.size; omega) hb hb.size ((HT.out.below hbw8).below hb)
          rw [more_may x HMAY.out HCNT.out] at hge
          simp only [exCells_eq] at hse hge
          have HSE := Lib.hid hse
          have HGE := Lib.hid hge
          obtain ⟨n0, n1, n2, n3, n4, n5, n6, n7⟩ := HC.out w8 hbx8
          clear hse hge hx8 hrm hcq8 hclq hmc ho6 hg6 ho7 hg7 h7c h7f e0 e1 e2 e3 e4 e5 e6 hw8
          go_cut [6] from 43 (fun s6 wz => s6 = .bool (openT x) ∧ w8 = wz)
          case first =>
            have hlen1 : ((x.kids.length + 1 : Nat) : Int) = (x.kids.length : Int) + 1 := by omega
            have HOT : Hid (openT x = ((decide (x.kind = 7) && decide (((x.kids.length + 1 : Nat) : Int) ≤ 40)) || (decide (x.kind = 15) && decide (((x.kids.length + 1 : Nat) : Int) ≤ 30000)))) := rfl
            by_cases k7 : x.kind = 7
            · have k7' : (x.kind == 7) = true := beq_iff_eq.2 k7
              have k15' : (x.kind == 15) = false := beq_eq_false_iff_ne.2 (by omega)
              by_cases h40 : (x.kids.length : Int) + 1 ≤ 40
              · have HF : Hid (openT x = true) := by unfold Hid; rw [HOT.out, decide_eq_true k7, decide_eq_true (by omega)]; rfl
                clear k7 k15'
                go_wp2_with fail
                go_meet
                exact ⟨by rw [HF.out], rfl⟩
              · have HF : Hid (openT x = false) := by unfold Hid; rw [HOT.out, decide_eq_false (show ¬ ((x.kids.length + 1 : Nat) : Int) ≤ 40 by omega), decide_eq_false (show ¬ x.kind = 15 by omega)]; simp
                clear k7
                go_wp2_with fail
                go_meet
                exact ⟨by rw [HF.out], rfl⟩
            · have k7' : (x.kind == 7) = false := beq_eq_false_iff_ne.2 k7
              by_cases k15 : x.kind = 15
              · have k15' : (x.kind == 15) = true := beq_iff_eq.2 k15
                by_cases h40 : (x.kids.length : Int) + 1 ≤ 30000
                · have HF : Hid (openT x = true) := by unfold Hid; rw [HOT.out, decide_eq_true k15, decide_eq_true (show ((x.kids.length + 1 : Nat) : Int) ≤ 30000 by omega)]; simp
                  clear k7 k15
                  go_wp2_with fail
                  go_meet
                  exact ⟨by rw [HF.out], rfl⟩
                · have HF : Hid (openT x = false) := by unfold Hid; rw [HOT.out, decide_eq_false k7, decide_eq_false (show ¬ ((x.kids.length + 1 : Nat) : Int) ≤ 30000 by omega)]; simp
                  clear k7 k15
                  go_wp2_with fail
                  go_meet
                  exact ⟨by rw [HF.out], rfl⟩
              · have k15' : (x.kind == 15) = false := beq_eq_false_iff_ne.2 k15
                have HF : Hid (openT x = false) := by unfold Hid; rw [HOT.out, decide_eq_false k7, decide_eq_false k15]; rfl
                clear k7 k15
                go_wp2_with fail
                go_meet
                exact ⟨by rw [HF.out], rfl⟩
          case rest =>
            obtain ⟨rfl, rfl⟩ := hcut
            have hoo : (openT x == openT x) = true := beq_self_eq_true _
            generalize openT x = ot at *
            go_wp2_with fail
            refine HSE.out.mono ?_
            rintro e w9 ⟨rfl, hb9⟩
            have hs8r : wr.heap.size < w8.heap.size := by omega
            have kk : ∀ k : Nat, w9.cell? ⟨wr.heap.size, k, none⟩ = w8.cell? ⟨wr.heap.size, k, none⟩ := fun k => hb9.cell (p := ⟨wr.heap.size, k, none⟩) hs8r
            rw [← kk] at k0 k1 k2 k3 k4 k5 k6 hm7
            clear kk
            go_wp2_with fail
            refine (HGE.out w9 hb9).mono ?_
            rintro e w10 ⟨rfl, hb10⟩
            go_wp2_with fail
            go_ret
            exact ⟨rfl, hbw8.trans ((hb9.trans (hb10.mono hb9.size)).mono hbw8.size)⟩
end Go.Proofs.YtaelanpmgckfkaaRRRRDoor
