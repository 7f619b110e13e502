/- goast.Expr; the example of chapter 24. -/
import Derived.Test.YtaelanpmgckfkaaRRRRDoorSame2
namespace Go.Proofs.YtaelanpmgckfkaaRRRRDoor
open Go.RowKit Go.Av

/-- A new counter. -/
theorem cnt_new (w : World) (t : TypeId) (v : Int) : Cnt (w.alloc (Obj.cells #[.int .i64 v] t)) w.heap.size v := by
  constructor
  · simp only [World.cell?, World.alloc, Array.getElem?_push_size]
    rfl
  · simp only [World.frozen?, World.alloc, Array.getElem?_push_size]
    rfl

set_option maxRecDepth 100000 in
set_option maxHeartbeats 1000000 in
theorem goExpr (B : Nat) (W0 : World) (x : ExT) (a b c : Value) (h : RdEx B W0 x a b c) (w : World) (hB2 : 2 ≤ B) (hb : Below B W0 w) (hB : B ≤ w.heap.size) (ht : Tabs w) :
    Calls Tryd.prog 34 #[.agg (exCells x a b c)] w fun e w' => e = .returned (.bool (exS x 0 0).1) ∧ Below w.heap.size w w' := by
  have HX := Lib.hid (expr_at B W0 x a b c h)
  obtain ⟨⟨oa, na, ma, hva⟩, ⟨ob, nb, mb, hvb⟩, ⟨oc, mc, hvc⟩⟩ := h.slices
  subst hva hvb hvc
  have HT := Lib.hid ht
  clear h ht
  have hbo : ∀ o o2 : Obj, Below w.heap.size w ((w.alloc o).alloc o2) := fun o o2 => ((Below.refl _ _).alloc (Nat.le_refl _) o).alloc (by rw [World.size_alloc]; omega) o2
  have HBO := Lib.hid hbo
  clear hbo
  have hx2 := fun W h1 h2 h3 => HX.out (w.heap.size + 1) 0 0 W hB2 (by omega) h1 h2 h3 (by omega) (by omega)
  rw [exCells_eq] at hx2 ⊢
  have HX2 := Lib.hid hx2
  clear hx2 HX
  go_enter Tryd.func34, Tryd.ntmps34
  go_wp2_with fail
  refine (HX2.out _ (hb.trans ((HBO.out _ _).mono hB)) (HT.out.below (HBO.out _ _)) ?_).mono ?_
  · have h := cnt_new (w.alloc (Obj.cells #[.int .i64 x.kind, .string ⟨x.text.toArray⟩, .int .u64 x.int, .int .i64 x.type.kind, .string ⟨x.type.name.toArray⟩, .slice oa na ma, .slice ob nb mb, .slice oc x.kids.length mc] 56)) 82 0
    rw [World.size_alloc] at h
    exact h
  rintro e w2 ⟨rfl, hk⟩
  have hbk := (HBO.out (Obj.cells #[.int .i64 x.kind, .string ⟨x.text.toArray⟩, .int .u64 x.int, .int .i64 x.type.kind, .string ⟨x.type.name.toArray⟩, .slice oa na ma, .slice ob nb mb, .slice oc x.kids.length mc] 56) (Obj.cells #[.int .i64 0] 82)).trans (hk.below (by omega) (by simp only [World.size_alloc]; omega))
  go_wp2_with fail
  go_ret
  exact ⟨rfl, hbk⟩

set_option maxRecDepth 100000 in
set_option maxHeartbeats 1000000 in
theorem prog_nil (g : Nat) (w : World) : Calls Tryd.prog 75 #[.pointer (some ⟨g, 0, none⟩), .agg #[.slice none 0 0, .slice none 0 0]] w fun e w' => e = .returned (.bool true) ∧ Below w.heap.size w w' := by
  go_enter Tryd.func75, Tryd.ntmps75
  go_wp2_with fail
  go_loop [12] (fun i => i = .int .i64 0) (fun _ => 0)
  case atStart => exact rfl
  case round =>
    subst hrel
    go_wp2_with fail
    go_loop [36] (fun i => i = .int .i64 0) (fun _ => 0)
    case atStart => exact rfl
    case round =>
      subst hrel
      go_wp2_with fail
      go_ret
      exact ⟨rfl, ((Below.refl _ _).alloc (Nat.le_refl _) _).alloc (by rw [World.size_alloc]; omega) _⟩
set_option maxRecDepth 100000 in
set_option maxHeartbeats 1000000 in
theorem right_nil (w : World) : Calls Tryd.prog 59 #[.agg #[.slice none 0 0, .slice none 0 0]] w fun e w' => e = .returned (.bool true) ∧ Below w.heap.size w w' := by
  have HP := Lib.hid (fun g W => prog_nil g W)
  have hbo : ∀ o o2 : Obj, Below w.heap.size w ((w.alloc o).alloc o2) := fun o o2 => ((Below.refl _ _).alloc (Nat.le_refl _) o).alloc (by rw [World.size_alloc]; omega) o2
  have HBO := Lib.hid hbo
  clear hbo
  go_enter Tryd.func59, Tryd.ntmps59
  go_wp2_with fail
  refine (HP.out _ _).mono ?_
  rintro e w1 ⟨rfl, hb1⟩
  go_wp2_with fail
  go_ret
  exact ⟨rfl, (HBO.out _ _).trans (hb1.mono (HBO.out _ _).size)⟩
/-! Trees of two levels, as the laws make them. -/
def tNil : TyT := .mk 0 [] []
def leafE (x : Int × List UInt8 × Int) : ExT := .mk x.1 x.2.1 x.2.2 tNil [] []
abbrev nilV : Value := .slice none 0 0
theorem rd_tNil (B : Nat) (W : World) : RdTy B W tNil nilV := .mk 0 [] [] none 0 (fun _ => nilV) (Nat.le_refl _) (by omega) (by decide) (fun h => absurd rfl h) (fun j h => by cases h)
theorem rd_ssNil (B : Nat) (W : World) : RdSs B W [] nilV := ⟨none, 0, rfl, Nat.le_refl _, by omega, (fun s h => by cases h), fun h => absurd rfl h⟩
theorem rd_leaf (B : Nat) (W : World) (x : Int × List UInt8 × Int) (ht : x.2.1.length ≤ 9223372036854775807) (hi : 0 ≤ x.2.2 ∧ x.2.2 ≤ 18446744073709551615) : RdEx B W (leafE x) nilV nilV nilV :=
  .mk x.1 x.2.1 x.2.2 tNil [] [] nilV nilV none 0 (fun _ => nilV) (fun _ => nilV) (fun _ => nilV) (Nat.le_refl _) (by omega) ht hi (rd_tNil B W) (rd_ssNil B W) (fun h => absurd rfl h) (fun j h => by cases h)
theorem rd_leaves (B : Nat) (W : World) (x : Int × List UInt8 × Int) (ls : List (Int × List UInt8 × Int)) (g off cap : Nat) (hg : g < B) (hc : ls.length ≤ cap) (hm : cap ≤ 9223372036854775807)
    (ht : x.2.1.length ≤ 9223372036854775807) (hi : 0 ≤ x.2.2 ∧ x.2.2 ≤ 18446744073709551615) (hl : ∀ y ∈ ls, y.2.1.length ≤ 9223372036854775807 ∧ 0 ≤ y.2.2 ∧ y.2.2 ≤ 18446744073709551615)
    (hcell : ∀ j (h : j < ls.length) (q : Nat), q < 8 → W.cell? ⟨g, off + j * 8 + q, none⟩ = (exCells (leafE ls[j]) nilV nilV nilV)[q]?) :
    RdEx B W (.mk x.1 x.2.1 x.2.2 tNil [] (ls.map leafE)) nilV nilV (.slice (some ⟨g, off, none⟩) ls.length cap) := by
  have h := RdEx.mk (B := B) (W := W) x.1 x.2.1 x.2.2 tNil [] (ls.map leafE) nilV nilV (some ⟨g, off, none⟩) cap (fun _ => nilV) (fun _ => nilV) (fun _ => nilV) (by rw [List.length_map]; exact hc) hm ht hi (rd_tNil B W) (rd_ssNil B W)
    (fun _ => ⟨g, off, rfl, hg, fun j h => by
      rw [List.length_map] at h
      rw [List.getElem_map]
      exact ⟨hcell j h 0 (by omega), hcell j h 1 (by omega), hcell j h 2 (by omega), hcell j h 3 (by omega), hcell j h 4 (by omega), hcell j h 5 (by omega), hcell j h 6 (by omega), hcell j h 7 (by omega)⟩⟩)
    (fun j h => by
      rw [List.length_map] at h
      rw [List.getElem_map]
      have := hl ls[j] (List.getElem_mem h)
      exact rd_leaf B W ls[j] this.1 this.2)
  rwa [List.length_map] at h

def ex24 : ExT := .mk 6 [43] 0 tNil [] ([(1, [120], 0), (2, [], 1)].map leafE)
def ey24 : ExT := .mk 6 [43] 0 tNil [] ([((1 : Int), ([120] : List UInt8), (0 : Int))].map leafE)
theorem ex24_ok : (exS ex24 0 0).1 = true := by kernel_rfl
theorem ey24_no : (exS ey24 0 0).1 = false := by kernel_rfl
theorem ex24_same : sameE ex24 ex24 = true := by kernel_rfl
theorem x_ident : identS [120] = true := by kernel_rfl
theorem len_ident : identS [108, 101, 110] = false := by kernel_rfl
theorem plus_rank : rankS [43] = 4 := by kernel_rfl

set_option maxRecDepth 100000 in
set_option maxHeartbeats 1000000 in
theorem works24 (w : World) (ht : Tabs w) (h2 : 2 ≤ w.heap.size) : Calls Tryd.prog 32 #[] w fun e w' => e = .returned (.bool true) ∧ Below w.heap.size w w' := by
  obtain ⟨wk, hwk⟩ : ∃ wk, wk = w.alloc (Obj.cells #[.int .i64 1, .string ⟨#[120]⟩, .int .u64 0, .int .i64 0, .string ⟨#[]⟩, nilV, nilV, nilV, .int .i64 2, .string ⟨#[]⟩, .int .u64 1, .int .i64 0, .string ⟨#[]⟩, nilV, nilV, nilV] 56) := ⟨_, rfl⟩
  have hsk : wk.heap.size = w.heap.size + 1 := by rw [hwk, World.size_alloc]
  have hbk : Below w.heap.size w wk := by rw [hwk]; exact (Below.refl _ _).alloc (Nat.le_refl _) _
  have hcell : ∀ q : Nat, wk.cell? ⟨w.heap.size, q, none⟩ = (#[Value.int .i64 1, .string ⟨#[120]⟩, .int .u64 0, .int .i64 0, .string ⟨#[]⟩, nilV, nilV, nilV, .int .i64 2, .string ⟨#[]⟩, .int .u64 1, .int .i64 0, .string ⟨#[]⟩, nilV, nilV, nilV])[q]? := by
    intro q
    rw [hwk]
    simp only [World.cell?, World.alloc, Array.getElem?_push_size]
    rfl
  have hx : RdEx wk.heap.size wk ex24 nilV nilV (.slice (some ⟨w.heap.size, 0, none⟩) 2 2) := by
    refine rd_leaves wk.heap.size wk (6, [43], 0) [(1, [120], 0), (2, [], 1)] w.heap.size 0 2 (by omega) (Nat.le_refl _) (by omega) (by decide) (by decide) (by decide) ?_
    intro j hj q hq
    rw [hcell]
    have hj2 : j = 0 ∨ j = 1 := by have : j < 2 := hj; omega
    have hq2 : q = 0 ∨ q = 1 ∨ q = 2 ∨ q = 3 ∨ q = 4 ∨ q = 5 ∨ q = 6 ∨ q = 7 := by omega
    rcases hj2 with rfl | rfl <;> rcases hq2 with rfl | rfl | rfl | rfl | rfl | rfl | rfl | rfl <;> rfl
  have hy : RdEx wk.heap.size wk ey24 nilV nilV (.slice (some ⟨w.heap.size, 0, none⟩) 1 2) := by
    refine rd_leaves wk.heap.size wk (6, [43], 0) [(1, [120], 0)] w.heap.size 0 2 (by omega) (by decide) (by omega) (by decide) (by decide) (by decide) ?_
    intro j hj q hq
    rw [hcell]
    have hj2 : j = 0 := by have : j < 1 := hj; omega
    have hq2 : q = 0 ∨ q = 1 ∨ q = 2 ∨ q = 3 ∨ q = 4 ∨ q = 5 ∨ q = 6 ∨ q = 7 := by omega
    rcases hj2 with rfl
    rcases hq2 with rfl | rfl | rfl | rfl | rfl | rfl | rfl | rfl <;> rfl
  have HEX := Lib.hid (fun W (hb : Below wk.heap.size wk W) => goExpr wk.heap.size wk ex24 _ _ _ hx W (by omega) hb hb.size ((ht.below hbk).below hb))
  have HEY := Lib.hid (fun W (hb : Below wk.heap.size wk W) => goExpr wk.heap.size wk ey24 _ _ _ hy W (by omega) hb hb.size ((ht.below hbk).below hb))
  have HSE := Lib.hid (fun W (hb : Below wk.heap.size wk W) => sameExpr_at wk.heap.size wk ex24 _ _ _ hx ex24 _ _ _ W hx hb hb.size)
  have HIX := Lib.hid (fun W ht => gIdent [120] W ht (by decide))
  have HIL := Lib.hid (fun W ht => gIdent [108, 101, 110] W ht (by decide))
  have HRK := Lib.hid (fun W => rank_at [43] W)
  rw [ex24_ok] at HEX
  rw [ey24_no] at HEY
  rw [ex24_same] at HSE
  rw [x_ident] at HIX
  rw [len_ident] at HIL
  rw [plus_rank] at HRK
  rw [exCells_eq] at HEX HEY
  simp only [exCells_eq] at HSE
  have HT := Lib.hid (ht.below hbk)
  have HWK := Lib.hid hwk
  clear hx hy ht hcell hwk
  go_enter Tryd.func32, Tryd.ntmps32
  go_wp2_with fail
  rw [← HWK.out]
  obtain ⟨wy, hwy⟩ : ∃ wy, wy = (wk.alloc (Obj.cells #[.int .i64 6, .string ⟨#[43]⟩, .int .u64 0, .int .i64 0, .string ⟨#[]⟩, nilV, nilV, .slice (some ⟨w.heap.size, 0, none⟩) 2 2] 56)).alloc (Obj.cells #[.int .i64 6, .string ⟨#[43]⟩, .int .u64 0, .int .i64 0, .string ⟨#[]⟩, nilV, nilV, .slice (some ⟨w.heap.size, 0, none⟩) 1 2] 56) := ⟨_, rfl⟩
  rw [← hwy]
  have hky : Below wk.heap.size wk wy := by rw [hwy]; exact ((Below.refl _ _).alloc (Nat.le_refl _) _).alloc (by rw [World.size_alloc]; omega) _
  have hsx : (wk.alloc (Obj.cells #[.int .i64 6, .string ⟨#[43]⟩, .int .u64 0, .int .i64 0, .string ⟨#[]⟩, nilV, nilV, .slice (some ⟨w.heap.size, 0, none⟩) 2 2] 56)).heap.size = w.heap.size + 2 := by rw [World.size_alloc]; omega
  have hX := fun W (hb : Below wy.heap.size wy W) => eight_at wk W 56 (.int .i64 6) (.string ⟨#[43]⟩) (.int .u64 0) (.int .i64 0) (.string ⟨#[]⟩) nilV nilV (.slice (some ⟨w.heap.size, 0, none⟩) 2 2)
    (key_below wk W _ (((Below.refl _ _).alloc (Nat.le_refl _) _).trans (by rw [hwy] at hb; exact hb.mono (by simp only [World.size_alloc]; omega))))
  have hY := fun W (hb : Below wy.heap.size wy W) => eight_at (wk.alloc (Obj.cells #[.int .i64 6, .string ⟨#[43]⟩, .int .u64 0, .int .i64 0, .string ⟨#[]⟩, nilV, nilV, .slice (some ⟨w.heap.size, 0, none⟩) 2 2] 56)) W 56 (.int .i64 6) (.string ⟨#[43]⟩) (.int .u64 0) (.int .i64 0) (.string ⟨#[]⟩) nilV nilV (.slice (some ⟨w.heap.size, 0, none⟩) 1 2)
    (key_below _ W _ (by rw [hwy] at hb; exact hb))
  rw [hsk] at hX
  simp only [hsx] at hY
  have HXC := Lib.hid hX
  have HYC := Lib.hid hY
  clear hX hY hwy hsx
  refine (HEX.out wy hky).mono ?_
  rintro e w1 ⟨rfl, hb1⟩
  obtain ⟨y0, y1, y2, y3, y4, y5, y6, y7⟩ := HYC.out w1 hb1
  have hk1 := hky.trans (hb1.mono hky.size)
  go_wp2_with fail
  refine (HEY.out w1 hk1).mono ?_
  rintro e w2 ⟨rfl, hb2⟩
  have hk2 := hk1.trans (hb2.mono hk1.size)
  have hy2 := hb1.trans (hb2.mono hb1.size)
  clear y0 y1 y2 y3 y4 y5 y6 y7
  go_wp2_with fail
  refine (HRK.out w2).mono ?_
  rintro e w3 ⟨rfl, rfl⟩
  go_wp2_with fail
  refine (HIX.out w2 (HT.out.below hk2)).mono ?_
  rintro e w3 ⟨rfl, hb3⟩
  have hk3 := hk2.trans (hb3.mono hk2.size)
  have hy3 := hy2.trans (hb3.mono hy2.size)
  go_wp2_with fail
  refine (HIL.out w3 (HT.out.below hk3)).mono ?_
  rintro e w4 ⟨rfl, hb4⟩
  have hk4 := hk3.trans (hb4.mono hk3.size)
  have hy4 := hy3.trans (hb4.mono hy3.size)
  go_wp2_with fail
  refine (right_nil w4).mono ?_
  rintro e w5 ⟨rfl, hb5⟩
  have hk5 := hk4.trans (hb5.mono hk4.size)
  have hy5 := hy4.trans (hb5.mono hy4.size)
  obtain ⟨x0, x1, x2, x3, x4, x5, x6, x7⟩ := HXC.out w5 hy5
  go_wp2_with fail
  refine (HSE.out w5 hk5).mono ?_
  rintro e w6 ⟨rfl, hb6⟩
  have hk6 := hk5.trans (hb6.mono hk5.size)
  go_wp2_with fail
  go_ret
  exact ⟨rfl, hbk.trans (hk6.mono hbk.size)⟩
end Go.Proofs.YtaelanpmgckfkaaRRRRDoor
