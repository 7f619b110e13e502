/- avocetref24.Expressions. -/
import Derived.Test.YtaelanpmgckfkaaRRRRDoorCount2
import Derived.Test.YtaelanpmgckfkaaRRRRDoorPartsPlain
import Derived.WalkKit
import Derived.StillTailTactics
import Derived.Deep.QuietTactic
namespace Go.Proofs.YtaelanpmgckfkaaRRRRDoor
open Go.RowKit Go.Av

theorem RdTy.mono {B B' : Nat} {W : World} {t : TyT} {v : Value} (h : RdTy B W t v) (hB : B ≤ B') : RdTy B' W t v := by
  induction h with
  | mk k n es o cap f hc hm hn hs hr ih =>
    refine .mk k n es o cap f hc hm hn (fun he => ?_) ih
    obtain ⟨g, off, ho, hg, hcl⟩ := hs he
    exact ⟨g, off, ho, by omega, hcl⟩
theorem RdSs.mono {B B' : Nat} {W : World} {l : List (List UInt8)} {v : Value} (h : RdSs B W l v) (hB : B ≤ B') : RdSs B' W l v := by
  obtain ⟨o, cap, hv, hc, hm, hn, hs⟩ := h
  refine ⟨o, cap, hv, hc, hm, hn, fun he => ?_⟩
  obtain ⟨g, off, ho, hg, hcl⟩ := hs he
  exact ⟨g, off, ho, by omega, hcl⟩
theorem RdEx.mono {B B' : Nat} {W : World} {x : ExT} {a b c : Value} (h : RdEx B W x a b c) (hB : B ≤ B') : RdEx B' W x a b c := by
  induction h with
  | mk k t i ty ns ks tv nv o cap f1 f2 f3 hc hm ht hi hty hns hs hr ih =>
    refine .mk k t i ty ns ks tv nv o cap f1 f2 f3 hc hm ht hi (hty.mono hB) (hns.mono hB) (fun he => ?_) ih
    obtain ⟨g, off, ho, hg, hcl⟩ := hs he
    exact ⟨g, off, ho, by omega, hcl⟩
theorem RdEx.at {B B' : Nat} {W W' : World} {x : ExT} {a b c : Value} (h : RdEx B W x a b c) (hb : Below B W W') (hB : B ≤ B') : RdEx B' W' x a b c := (h.kept hb).mono hB

set_option maxRecDepth 100000 in
set_option maxHeartbeats 1000000 in
theorem expressions_at (B : Nat) (W0 : World) (x : ExT) (a b c : Value) (h : RdEx B W0 x a b c) (w : World) (hb : Below B W0 w) (hB : B ≤ w.heap.size) :
    Calls Tryd.prog 33 #[.agg (exCells x a b c), .int .i64 2500] w fun e w' => e = .returned (.int .i64 (epS [x] 0 2500)) ∧ Below w.heap.size w w' := by
  obtain ⟨⟨oa, na, ma, hva⟩, ⟨ob, nb, mb, hvb⟩, ⟨oc, mc, hvc⟩⟩ := h.slices
  subst hva hvb hvc
  have hbo : ∀ o o2 : Obj, Below w.heap.size w ((w.alloc o).alloc o2) := fun o o2 => ((Below.refl _ _).alloc (Nat.le_refl _) o).alloc (by rw [World.size_alloc]; omega) o2
  obtain ⟨wk, hwk⟩ : ∃ wk, wk = (w.alloc (Obj.cells (exCells x (.slice oa na ma) (.slice ob nb mb) (.slice oc x.kids.length mc)) 56)).alloc (Obj.cells (exCells x (.slice oa na ma) (.slice ob nb mb) (.slice oc x.kids.length mc)) 56) := ⟨_, rfl⟩
  have hbk : Below w.heap.size w wk := by rw [hwk]; exact hbo _ _
  have hsk : wk.heap.size = w.heap.size + 2 := by rw [hwk]; simp only [World.size_alloc]
  have hxk : RdEx wk.heap.size wk x (.slice oa na ma) (.slice ob nb mb) (.slice oc x.kids.length mc) := h.at (hb.trans (hbk.mono hB)) (by omega)
  have hcell : ∀ q : Nat, wk.cell? ⟨w.heap.size + 1, q, none⟩ = (exCells x (.slice oa na ma) (.slice ob nb mb) (.slice oc x.kids.length mc))[q]? := by
    intro q
    have hs1 : (w.alloc (Obj.cells (exCells x (.slice oa na ma) (.slice ob nb mb) (.slice oc x.kids.length mc)) 56)).heap.size = w.heap.size + 1 := World.size_alloc _ _
    rw [hwk, ← hs1]
    simp only [World.cell?, World.alloc, Array.getElem?_push_size]
    rfl
  have hkids : KidsAt wk.heap.size wk [x] (some ⟨w.heap.size + 1, 0, none⟩) (fun _ => .slice oa na ma) (fun _ => .slice ob nb mb) (fun _ => .slice oc x.kids.length mc) := by
    intro _
    refine ⟨w.heap.size + 1, 0, rfl, by omega, fun j hj => ?_⟩
    obtain rfl : j = 0 := by simp at hj; omega
    simp only [Nat.zero_mul, Nat.zero_add]
    exact ⟨hcell 0, hcell 1, hcell 2, hcell 3, hcell 4, hcell 5, hcell 6, hcell 7⟩
  have hep := exprParts_at wk.heap.size wk [x] (some ⟨w.heap.size + 1, 0, none⟩) 1 _ _ _ (Nat.le_refl _) (by omega) hkids
    (fun j hj => by obtain rfl : j = 0 := by simp at hj; omega
                    exact hxk)
    (fun j hj => by obtain rfl : j = 0 := by simp at hj; omega
                    exact kidsParts_at _ _ x _ _ _ hxk) 2500 wk (Below.refl _ _) (Nat.le_refl _) (by omega)
  have HEP := Lib.hid hep
  have HWK := Lib.hid hwk
  clear hep hwk hkids hcell hxk hbo h
  rw [exCells_eq] at HWK ⊢
  go_enter Tryd.func33, Tryd.ntmps33
  go_wp2_with fail
  rw [← HWK.out]
  refine HEP.out.mono ?_
  rintro e w2 ⟨rfl, hb2⟩
  go_wp2_with fail
  go_ret
  exact ⟨rfl, hbk.trans (hb2.mono (by omega))⟩
end Go.Proofs.YtaelanpmgckfkaaRRRRDoor
