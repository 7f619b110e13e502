/- goast.SameExpr: expressions alike. -/
import Derived.Test.YtaelanpmgckfkaaRRRRDoorSame
namespace Go.Proofs.YtaelanpmgckfkaaRRRRDoor
open Go.RowKit Go.Av

mutual
def sameE : ExT → ExT → Bool
  | .mk k t i ty ns ks, y => decide (k = y.kind) && (t == y.text) && decide (i = y.int) && sameT ty y.type && eqSs ns y.names && sameEs ks y.kids
def sameEs : List ExT → List ExT → Bool
  | [], l => decide (l.length = 0)
  | t :: ts, l => match l with
    | [] => false
    | u :: us => sameE t u && sameEs ts us
end
theorem sameEs_len : ∀ (a b : List ExT), a.length ≠ b.length → sameEs a b = false
  | [], b, h => by unfold sameEs; exact decide_eq_false (fun e => h (by rw [e]; rfl))
  | t :: ts, [], _ => by unfold sameEs; rfl
  | t :: ts, u :: us, h => by
    unfold sameEs
    simp only
    rw [sameEs_len ts us (by simpa using h), Bool.and_false]
theorem sameEs_step (a b : List ExT) (j : Nat) (h : j < a.length) (h' : j < b.length) : sameEs (a.drop j) (b.drop j) = (sameE a[j] b[j] && sameEs (a.drop (j + 1)) (b.drop (j + 1))) := by
  rw [List.drop_eq_getElem_cons h, List.drop_eq_getElem_cons h']
  conv => lhs; unfold sameEs
def KidsAt (B : Nat) (W : World) (ks : List ExT) (o : Option Addr) (f1 f2 f3 : Nat → Value) : Prop :=
  ks ≠ [] → ∃ g off, o = some ⟨g, off, none⟩ ∧ g < B ∧ ∀ j (h : j < ks.length), W.cell? ⟨g, off + j * 8, none⟩ = some (.int .i64 (ks[j]).kind) ∧ W.cell? ⟨g, off + j * 8 + 1, none⟩ = some (.string ⟨(ks[j]).text.toArray⟩) ∧
        W.cell? ⟨g, off + j * 8 + 2, none⟩ = some (.int .u64 (ks[j]).int) ∧ W.cell? ⟨g, off + j * 8 + 3, none⟩ = some (.int .i64 (ks[j]).type.kind) ∧ W.cell? ⟨g, off + j * 8 + 4, none⟩ = some (.string ⟨(ks[j]).type.name.toArray⟩) ∧
        W.cell? ⟨g, off + j * 8 + 5, none⟩ = some (f1 j) ∧ W.cell? ⟨g, off + j * 8 + 6, none⟩ = some (f2 j) ∧ W.cell? ⟨g, off + j * 8 + 7, none⟩ = some (f3 j)
/-- An expression's slices, taken apart. -/
theorem RdEx.open {B : Nat} {W : World} {x : ExT} {a b c : Value} (h : RdEx B W x a b c) : ∃ (o : Option Addr) (cap : Nat) (f1 f2 f3 : Nat → Value), c = .slice o x.kids.length cap ∧ x.kids.length ≤ cap ∧ cap ≤ 9223372036854775807 ∧
    RdTy B W x.type a ∧ RdSs B W x.names b ∧ KidsAt B W x.kids o f1 f2 f3 ∧ (∀ j (h : j < x.kids.length), RdEx B W x.kids[j] (f1 j) (f2 j) (f3 j)) := by
  cases h with
  | mk k t i ty ns ks tv nv o cap f1 f2 f3 hc hm ht hi hty hns hs hr => exact ⟨o, cap, f1, f2, f3, rfl, hc, hm, hty, hns, hs, hr⟩
theorem exCells_eq (x : ExT) (a b c : Value) : exCells x a b c = #[.int .i64 x.kind, .string ⟨x.text.toArray⟩, .int .u64 x.int, .int .i64 x.type.kind, .string ⟨x.type.name.toArray⟩, a, b, c] := rfl
def SameEAt (B : Nat) (W0 : World) (x : ExT) (a b c : Value) : Prop := ∀ (y : ExT) (a' b' c' : Value) (w : World), RdEx B W0 y a' b' c' → Below B W0 w → B ≤ w.heap.size →
    Calls Tryd.prog 35 #[.agg (exCells x a b c), .agg (exCells y a' b' c')] w fun e w' => e = .returned (.bool (sameE x y)) ∧ Below w.heap.size w w'

set_option maxRecDepth 100000 in
set_option maxHeartbeats 1000000 in
theorem eqE_at (B : Nat) (W0 : World) (es us : List ExT) (o o' : Option Addr) (cap cap' : Nat) (f1 f2 f3 f1' f2' f3' : Nat → Value) (hc : es.length ≤ cap) (hm : cap ≤ 9223372036854775807) (hc' : us.length ≤ cap')
    (hs : KidsAt B W0 es o f1 f2 f3) (hs' : KidsAt B W0 us o' f1' f2' f3') (hr : ∀ j (h : j < es.length), RdEx B W0 es[j] (f1 j) (f2 j) (f3 j)) (hr' : ∀ j (h : j < us.length), RdEx B W0 us[j] (f1' j) (f2' j) (f3' j)) (ih : ∀ j (h : j < es.length), SameEAt B W0 es[j] (f1 j) (f2 j) (f3 j)) (w : World) (hb : Below B W0 w) (hB : B ≤ w.heap.size) :
    Calls Tryd.prog 64 #[.slice o es.length cap, .slice o' us.length cap', .func (.func 35) #[] #[]] w fun e w' => e = .returned (.bool (sameEs es us)) ∧ Below w.heap.size w w' := by
  by_cases hlen : es.length = us.length
  · have HS := Lib.hid hs
    have HS' := Lib.hid hs'
    have IH := Lib.hid ih
    have HLEN := Lib.hid hlen
    clear hs hs' ih hlen
    go_enter Tryd.func64, Tryd.ntmps64
    rw [← HLEN.out]
    go_wp2_with fail
    go_loopw [17] (fun i wr => ∃ j : Nat, i = .int .i64 j ∧ j ≤ es.length ∧ Hid (sameEs es us = sameEs (es.drop j) (us.drop j)) ∧ Below w.heap.size w wr) (fun i _ => (es.length - intOf i).toNat)
    case atStart => exact ⟨0, rfl, Nat.zero_le _, Lib.hid rfl, Below.refl _ _⟩
    case round =>
      obtain ⟨j, rfl, hj, HQ, hbr⟩ := hrel
      by_cases hl : j < es.length
      · have hl' : j < us.length := by have := HLEN.out; omega
        obtain ⟨g1, p1, rfl, hg1, hcl⟩ := HS.out (by intro e; rw [e] at hl; simp at hl)
        obtain ⟨g2, p2, rfl, hg2, hcl'⟩ := HS'.out (by intro e; rw [e] at hl'; simp at hl')
        obtain ⟨q0, q1, q2, q3, q4, q5, q6, q7⟩ := hcl j hl
        obtain ⟨r0, r1, r2, r3, r4, r5, r6, r7⟩ := hcl' j hl'
        have hbW : Below B W0 wr := hb.trans (hbr.mono hB)
        have key : ∀ (g a : Nat), g < B → W0.cell? ⟨g, a, none⟩ = wr.cell? ⟨g, a, none⟩ := fun g a hg => (hbW.cell (p := ⟨g, a, none⟩) hg).symm
        rw [key _ _ hg1] at q0 q1 q2 q3 q4 q5 q6 q7
        rw [key _ _ hg2] at r0 r1 r2 r3 r4 r5 r6 r7
        have hst := sameEs_step es us j hl hl'
        have HX := Lib.hid (IH.out j hl)
        obtain ⟨⟨oa, na, ma, hva⟩, ⟨ob, nb, mb, hvb⟩, ⟨oc, mc, hvc⟩⟩ := (hr j hl).slices
        have hrb := hr' j hl'
        obtain ⟨⟨oa', na', ma', hva'⟩, ⟨ob', nb', mb', hvb'⟩, ⟨oc', mc', hvc'⟩⟩ := hrb.slices
        generalize es[j] = x at *
        generalize us[j] = y at *
        generalize f1 j = v1 at *
        generalize f2 j = v2 at *
        generalize f3 j = v3 at *
        generalize f1' j = u1 at *
        generalize f2' j = u2 at *
        generalize f3' j = u3 at *
        subst hva hvb hvc hva' hvb' hvc'
        have HST := Lib.hid hst
        have HRB := Lib.hid hrb
        have hjc : j < cap := by omega
        have hjc' : j < cap' := by omega
        have hBr : B ≤ wr.heap.size := Nat.le_trans hB hbr.size
        clear hcl hcl' key hst HS HS' IH hr hr' hrb
        have hal : ∀ (o : Obj) (a : Nat), (wr.alloc o).cell? ⟨g2, a, none⟩ = wr.cell? ⟨g2, a, none⟩ := fun o a => alloc_cell _ _ _ (show g2 < _ by omega)
        have s0 := fun o : Obj => (hal o _).trans r0
        have s1 := fun o : Obj => (hal o _).trans r1
        have s2 := fun o : Obj => (hal o _).trans r2
        have s3 := fun o : Obj => (hal o _).trans r3
        have s4 := fun o : Obj => (hal o _).trans r4
        have s5 := fun o : Obj => (hal o _).trans r5
        have s6 := fun o : Obj => (hal o _).trans r6
        have s7 := fun o : Obj => (hal o _).trans r7
        have hbb : ∀ o o2 : Obj, Below w.heap.size w ((wr.alloc o).alloc o2) := fun o o2 => (hbr.alloc hbr.size o).alloc (by have := hbr.size; rw [World.size_alloc]; omega) o2
        have HBB := Lib.hid hbb
        have hx2 := fun W h1 h2 => HX.out y _ _ _ W HRB.out h1 h2
        rw [exCells_eq, exCells_eq] at hx2
        have HX2 := Lib.hid hx2
        clear hal r0 r1 r2 r3 r4 r5 r6 r7 HX HRB hbb hx2
        go_wp2_with fail
        cases hx : sameE x y
        · have HF : Hid (sameEs es us = false) := by unfold Hid; rw [HQ.out, HST.out, hx]; rfl
          rw [hx] at HX2
          refine (HX2.out _ (hb.trans ((HBB.out _ _).mono hB)) (Nat.le_trans hB (HBB.out _ _).size)).mono ?_
          rintro e w2 ⟨rfl, hb2⟩
          go_wp2_with fail
          go_ret
          exact ⟨by rw [HF.out]; rfl, (HBB.out _ _).trans (hb2.mono (HBB.out _ _).size)⟩
        · have HF : Hid (sameEs es us = sameEs (es.drop (j + 1)) (us.drop (j + 1))) := by unfold Hid; rw [HQ.out, HST.out, hx, Bool.true_and]
          rw [hx] at HX2
          refine (HX2.out _ (hb.trans ((HBB.out _ _).mono hB)) (Nat.le_trans hB (HBB.out _ _).size)).mono ?_
          rintro e w2 ⟨rfl, hb2⟩
          have hb3 := (HBB.out _ _).trans (hb2.mono (HBB.out _ _).size)
          go_wp2_with fail
          go_roundw
          case rel => exact ⟨j + 1, by go_num, by omega, HF, hb3⟩
          case measure => simp [intOf]; omega
      · obtain rfl : j = es.length := by omega
        have HF : Hid (sameEs es us = true) := by
          unfold Hid
          rw [HQ.out, List.drop_length, HLEN.out, List.drop_length]
          rfl
        go_wp2_with fail
        go_ret
        exact ⟨by rw [HF.out]; rfl, hbr⟩
  · have hlI : ¬ (es.length : Int) = us.length := by omega
    rw [sameEs_len es us hlen]
    clear hs hs' hr hr' ih hlen
    go_enter Tryd.func64, Tryd.ntmps64
    go_wp2_with fail
    go_ret
    exact ⟨rfl, Below.refl _ _⟩

/-- A row of texts in a world that the reading's world grew into. -/
theorem RdSs.open {B : Nat} {W : World} {l : List (List UInt8)} {v : Value} (h : RdSs B W l v) : ∃ (o : Option Addr) (cap : Nat), v = .slice o l.length cap ∧ l.length ≤ cap ∧ cap ≤ 9223372036854775807 ∧ ∀ W', Below B W W' → B ≤ W'.heap.size → RowS W' o l := by
  obtain ⟨o, cap, rfl, hc, hm, _, hs⟩ := h
  refine ⟨o, cap, rfl, hc, hm, fun W' hb hB e => ?_⟩
  obtain ⟨g, off, ho, hg, hcl⟩ := hs e
  exact ⟨g, off, ho, by omega, fun j h => by rw [hb.cell (p := ⟨g, off + j, none⟩) hg]; exact hcl j h⟩

/-- Two blocks of eight cells, read later. -/
theorem eight_two (w W : World) (t u : TypeId) (v0 v1 v2 v3 v4 v5 v6 v7 u0 u1 u2 u3 u4 u5 u6 u7 : Value)
    (hb : Below ((w.alloc (Obj.cells #[v0, v1, v2, v3, v4, v5, v6, v7] t)).alloc (Obj.cells #[u0, u1, u2, u3, u4, u5, u6, u7] u)).heap.size ((w.alloc (Obj.cells #[v0, v1, v2, v3, v4, v5, v6, v7] t)).alloc (Obj.cells #[u0, u1, u2, u3, u4, u5, u6, u7] u)) W) :
    W.cell? ⟨w.heap.size, 4, none⟩ = some v4 ∧ W.cell? ⟨w.heap.size, 5, none⟩ = some v5 ∧ W.cell? ⟨w.heap.size, 6, none⟩ = some v6 ∧ W.cell? ⟨w.heap.size, 7, none⟩ = some v7 ∧
      W.cell? ⟨w.heap.size + 1, 4, none⟩ = some u4 ∧ W.cell? ⟨w.heap.size + 1, 5, none⟩ = some u5 ∧ W.cell? ⟨w.heap.size + 1, 6, none⟩ = some u6 ∧ W.cell? ⟨w.heap.size + 1, 7, none⟩ = some u7 := by
  have hs : (w.alloc (Obj.cells #[v0, v1, v2, v3, v4, v5, v6, v7] t)).heap.size = w.heap.size + 1 := World.size_alloc _ _
  have k2 := key_below (w.alloc (Obj.cells #[v0, v1, v2, v3, v4, v5, v6, v7] t)) W _ hb
  have h2 := eight_at (w.alloc (Obj.cells #[v0, v1, v2, v3, v4, v5, v6, v7] t)) W u u0 u1 u2 u3 u4 u5 u6 u7 k2
  have hb1 : Below (w.alloc (Obj.cells #[v0, v1, v2, v3, v4, v5, v6, v7] t)).heap.size (w.alloc (Obj.cells #[v0, v1, v2, v3, v4, v5, v6, v7] t)) W :=
    ((Below.refl _ _).alloc (Nat.le_refl _) _).trans (hb.mono (by simp only [World.size_alloc]; omega))
  have h1 := eight_at w W t v0 v1 v2 v3 v4 v5 v6 v7 (key_below w W _ hb1)
  rw [hs] at h2
  obtain ⟨_, _, _, _, a4, a5, a6, a7⟩ := h1
  obtain ⟨_, _, _, _, b4, b5, b6, b7⟩ := h2
  exact ⟨a4, a5, a6, a7, b4, b5, b6, b7⟩

set_option maxRecDepth 100000 in
set_option maxHeartbeats 2000000 in
theorem sameExpr_at (B : Nat) (W0 : World) (x : ExT) (a b c : Value) (h : RdEx B W0 x a b c) : SameEAt B W0 x a b c := by
  induction h with
  | mk k t i ty ns ks tv nv o cap f1 f2 f3 hc hm htl hi hty hns hs hr ih =>
    intro y a' b' c' w hy hb hB
    obtain ⟨o', cap', f1', f2', f3', rfl, hc', hm', hty', hns', hs', hr'⟩ := hy.open
    obtain ⟨k', t', i', ty', ns', ks'⟩ := y
    simp only [ExT.type, ExT.names, ExT.kids] at hc' hty' hns' hs' hr'
    have HE := Lib.hid (fun W hbW hBW => eqE_at B W0 ks ks' o o' cap cap' f1 f2 f3 f1' f2' f3' hc hm hc' hs hs' hr hr' ih W hbW hBW)
    have HTY := Lib.hid (fun W hbW hBW => sameType_at B W0 ty tv hty ty' a' W hty' hbW hBW)
    obtain ⟨on, cn, hvn, hcn, hmn, hrn⟩ := hns.open
    obtain ⟨on', cn', hvn', hcn', hmn', hrn'⟩ := hns'.open
    have HNS := Lib.hid (fun W hbW hBW => equal_texts on on' cn cn' ns ns' W hcn hmn hcn' hmn' (hrn W hbW hBW) (hrn' W hbW hBW))
    obtain ⟨ot, ct, hvt, _⟩ := hty.slice
    obtain ⟨ot', ct', hvt', _⟩ := hty'.slice
    have hS : sameE (.mk k t i ty ns ks) (.mk k' t' i' ty' ns' ks') = (decide (k = k') && (t == t') && decide (i = i') && sameT ty ty' && eqSs ns ns' && sameEs ks ks') := by
      conv => lhs; unfold sameE
      rfl
    rw [exCells_eq, exCells_eq]
    rw [tyCells_eq, tyCells_eq] at HTY
    subst hvn hvn' hvt hvt'
    have HS := Lib.hid hS
    have hbb : ∀ o o2 : Obj, Below w.heap.size w ((w.alloc o).alloc o2) := fun o o2 => ((Below.refl _ _).alloc (Nat.le_refl _) o).alloc (by rw [World.size_alloc]; omega) o2
    have HBB := Lib.hid hbb
    simp only [ExT.kind, ExT.text, ExT.int, ExT.type, ExT.kids]
    clear hs hs' hr hr' ih hy hS hbb hty hty' hrn hrn' hns hns'
    have HW := Lib.hid (fun W => eight_two w W 56 56 (.int .i64 k) (.string ⟨t.toArray⟩) (.int .u64 i) (.int .i64 ty.kind) (.string ⟨ty.name.toArray⟩) (.slice ot ty.elem.length ct) (.slice on ns.length cn) (.slice o ks.length cap)
      (.int .i64 k') (.string ⟨t'.toArray⟩) (.int .u64 i') (.int .i64 ty'.kind) (.string ⟨ty'.name.toArray⟩) (.slice ot' ty'.elem.length ct') (.slice on' ns'.length cn') (.slice o' ks'.length cap'))
    generalize sameE (.mk k t i ty ns ks) (.mk k' t' i' ty' ns' ks') = r at *
    by_cases hk : k = k'
    · subst hk
      have hkk : (k == k) = true := beq_self_eq_true _
      cases htt : (t == t')
      · have HF : Hid (r = false) := by unfold Hid; rw [HS.out, htt, Bool.and_false, Bool.false_and, Bool.false_and, Bool.false_and, Bool.false_and]
        go_enter Tryd.func35, Tryd.ntmps35
        go_wp2_with fail
        go_ret
        exact ⟨by rw [HF.out]; rfl, HBB.out _ _⟩
      · by_cases hii : i = i'
        · subst hii
          have hi2 : (i == i) = true := beq_self_eq_true _
          have hS2 : r = (sameT ty ty' && eqSs ns ns' && sameEs ks ks') := by rw [HS.out, htt, decide_eq_true rfl, decide_eq_true rfl]; rfl
          have HS2 := Lib.hid hS2
          clear hS2
          cases hsT : sameT ty ty'
          · have HF : Hid (r = false) := by unfold Hid; rw [HS2.out, hsT]; rfl
            rw [hsT] at HTY
            go_enter Tryd.func35, Tryd.ntmps35
            go_wp2_with fail
            refine (HTY.out _ (hb.trans ((HBB.out _ _).mono hB)) (Nat.le_trans hB (HBB.out _ _).size)).mono ?_
            rintro e w2 ⟨rfl, hb2⟩
            have hb3 := (HBB.out _ _).trans (hb2.mono (HBB.out _ _).size)
            go_wp2_with fail
            go_ret
            exact ⟨by rw [HF.out]; rfl, hb3⟩
          · rw [hsT] at HTY
            cases hsN : eqSs ns ns'
            · have HF : Hid (r = false) := by unfold Hid; rw [HS2.out, hsN, Bool.and_false]; rfl
              rw [hsN] at HNS
              go_enter Tryd.func35, Tryd.ntmps35
              go_wp2_with fail
              refine (HTY.out _ (hb.trans ((HBB.out _ _).mono hB)) (Nat.le_trans hB (HBB.out _ _).size)).mono ?_
              rintro e w2 ⟨rfl, hb2⟩
              obtain ⟨a4, a5, a6, a7, b4, b5, b6, b7⟩ := HW.out w2 hb2
              have hb3 := (HBB.out _ _).trans (hb2.mono (HBB.out _ _).size)
              go_wp2_with fail
              refine (HNS.out _ (hb.trans (hb3.mono hB)) (Nat.le_trans hB hb3.size)).mono ?_
              rintro e w3 ⟨rfl, hb4⟩
              have hb5 := hb3.trans (hb4.mono hb3.size)
              go_wp2_with fail
              go_ret
              exact ⟨by rw [HF.out]; rfl, hb5⟩
            · have HF : Hid (r = sameEs ks ks') := by unfold Hid; rw [HS2.out, hsT, hsN]; rfl
              rw [hsN] at HNS
              go_enter Tryd.func35, Tryd.ntmps35
              go_wp2_with fail
              refine (HTY.out _ (hb.trans ((HBB.out _ _).mono hB)) (Nat.le_trans hB (HBB.out _ _).size)).mono ?_
              rintro e w2 ⟨rfl, hb2⟩
              obtain ⟨a4, a5, a6, a7, b4, b5, b6, b7⟩ := HW.out w2 hb2
              have hb3 := (HBB.out _ _).trans (hb2.mono (HBB.out _ _).size)
              have HB2 := Lib.hid hb2
              clear hb2
              go_wp2_with fail
              refine (HNS.out _ (hb.trans (hb3.mono hB)) (Nat.le_trans hB hb3.size)).mono ?_
              rintro e w3 ⟨rfl, hb4⟩
              have hbz := HB2.out.trans (hb4.mono HB2.out.size)
              clear a4 a5 a6 a7 b4 b5 b6 b7
              obtain ⟨a4, a5, a6, a7, b4, b5, b6, b7⟩ := HW.out w3 hbz
              have hb5 := hb3.trans (hb4.mono hb3.size)
              go_wp2_with fail
              refine (HE.out _ (hb.trans (hb5.mono hB)) (Nat.le_trans hB hb5.size)).mono ?_
              rintro e w4 ⟨rfl, hb6⟩
              go_wp2_with fail
              go_ret
              exact ⟨by rw [HF.out]; rfl, hb5.trans (hb6.mono hb5.size)⟩
        · have hi2 : (i == i') = false := beq_eq_false_iff_ne.2 hii
          have HF : Hid (r = false) := by unfold Hid; rw [HS.out, decide_eq_false hii, Bool.and_false, Bool.false_and, Bool.false_and, Bool.false_and]
          clear hii
          go_enter Tryd.func35, Tryd.ntmps35
          go_wp2_with fail
          go_ret
          exact ⟨by rw [HF.out]; rfl, HBB.out _ _⟩
    · have hk' : (k == k') = false := beq_eq_false_iff_ne.2 hk
      have HF : Hid (r = false) := by unfold Hid; rw [HS.out, decide_eq_false hk]; rfl
      clear hk
      go_enter Tryd.func35, Tryd.ntmps35
      go_wp2_with fail
      go_ret
      exact ⟨by rw [HF.out]; rfl, HBB.out _ _⟩
end Go.Proofs.YtaelanpmgckfkaaRRRRDoor
