/- goast.SameType: types alike; slices of texts alike. -/
import Derived.Test.YtaelanpmgckfkaaRRRRDoorExpr
namespace Go.Proofs.YtaelanpmgckfkaaRRRRDoor
open Go.RowKit Go.Av

mutual
def sameT : TyT → TyT → Bool
  | .mk k n es, u => decide (k = u.kind) && (n == u.name) && sameTs es u.elem
def sameTs : List TyT → List TyT → Bool
  | [], l => decide (l.length = 0)
  | t :: ts, l => match l with
    | [] => false
    | u :: us => sameT t u && sameTs ts us
end
theorem sameTs_len : ∀ (a b : List TyT), a.length ≠ b.length → sameTs a b = false
  | [], b, h => by unfold sameTs; exact decide_eq_false (fun e => h (by rw [e]; rfl))
  | t :: ts, [], _ => by unfold sameTs; rfl
  | t :: ts, u :: us, h => by
    unfold sameTs
    simp only
    rw [sameTs_len ts us (by simpa using h), Bool.and_false]
theorem sameTs_step (a b : List TyT) (j : Nat) (h : j < a.length) (h' : j < b.length) : sameTs (a.drop j) (b.drop j) = (sameT a[j] b[j] && sameTs (a.drop (j + 1)) (b.drop (j + 1))) := by
  rw [List.drop_eq_getElem_cons h, List.drop_eq_getElem_cons h']
  conv => lhs; unfold sameTs
theorem tyCells_eq (t : TyT) (v : Value) : tyCells t v = #[.int .i64 t.kind, .string ⟨t.name.toArray⟩, v] := rfl
/-- A slice of a type's elements, taken apart. -/
theorem RdTy.open {B : Nat} {W : World} {t : TyT} {v : Value} (h : RdTy B W t v) : ∃ (o : Option Addr) (cap : Nat) (f : Nat → Value), v = .slice o t.elem.length cap ∧ t.elem.length ≤ cap ∧ cap ≤ 9223372036854775807 ∧
    (t.elem ≠ [] → ∃ g off, o = some ⟨g, off, none⟩ ∧ g < B ∧ ∀ j (h : j < t.elem.length), W.cell? ⟨g, off + j * 3, none⟩ = some (.int .i64 (t.elem[j]).kind) ∧ W.cell? ⟨g, off + j * 3 + 1, none⟩ = some (.string ⟨(t.elem[j]).name.toArray⟩) ∧ W.cell? ⟨g, off + j * 3 + 2, none⟩ = some (f j)) ∧
    (∀ j (h : j < t.elem.length), RdTy B W t.elem[j] (f j)) := by
  cases h with
  | mk k n es o cap f hc hm hn hs hr => exact ⟨o, cap, f, rfl, hc, hm, hs, hr⟩

def SameTAt (B : Nat) (W0 : World) (t : TyT) (v : Value) : Prop := ∀ (u : TyT) (v' : Value) (w : World), RdTy B W0 u v' → Below B W0 w → B ≤ w.heap.size →
    Calls Tryd.prog 62 #[.agg (tyCells t v), .agg (tyCells u v')] w fun e w' => e = .returned (.bool (sameT t u)) ∧ Below w.heap.size w w'

set_option maxRecDepth 100000 in
set_option maxHeartbeats 1000000 in
theorem eqT_at (B : Nat) (W0 : World) (es us : List TyT) (o o' : Option Addr) (cap cap' : Nat) (f f' : Nat → Value) (hc : es.length ≤ cap) (hm : cap ≤ 9223372036854775807) (hc' : us.length ≤ cap') (_hm' : cap' ≤ 9223372036854775807)
    (hs : es ≠ [] → ∃ g off, o = some ⟨g, off, none⟩ ∧ g < B ∧ ∀ j (h : j < es.length), W0.cell? ⟨g, off + j * 3, none⟩ = some (.int .i64 (es[j]).kind) ∧ W0.cell? ⟨g, off + j * 3 + 1, none⟩ = some (.string ⟨(es[j]).name.toArray⟩) ∧ W0.cell? ⟨g, off + j * 3 + 2, none⟩ = some (f j))
    (hs' : us ≠ [] → ∃ g off, o' = some ⟨g, off, none⟩ ∧ g < B ∧ ∀ j (h : j < us.length), W0.cell? ⟨g, off + j * 3, none⟩ = some (.int .i64 (us[j]).kind) ∧ W0.cell? ⟨g, off + j * 3 + 1, none⟩ = some (.string ⟨(us[j]).name.toArray⟩) ∧ W0.cell? ⟨g, off + j * 3 + 2, none⟩ = some (f' j))
    (hr : ∀ j (h : j < es.length), RdTy B W0 es[j] (f j)) (hr' : ∀ j (h : j < us.length), RdTy B W0 us[j] (f' j)) (ih : ∀ j (h : j < es.length), SameTAt B W0 es[j] (f j)) (w : World) (hb : Below B W0 w) (hB : B ≤ w.heap.size) :
    Calls Tryd.prog 82 #[.slice o es.length cap, .slice o' us.length cap', .func (.func 62) #[] #[]] w fun e w' => e = .returned (.bool (sameTs es us)) ∧ Below w.heap.size w w' := by
  by_cases hlen : es.length = us.length
  · have HS := Lib.hid hs
    have HS' := Lib.hid hs'
    have IH := Lib.hid ih
    have HLEN := Lib.hid hlen
    clear hs hs' ih hlen
    go_enter Tryd.func82, Tryd.ntmps82
    rw [← HLEN.out]
    go_wp2_with fail
    go_loopw [17] (fun i wr => ∃ j : Nat, i = .int .i64 j ∧ j ≤ es.length ∧ Hid (sameTs es us = sameTs (es.drop j) (us.drop j)) ∧ Below w.heap.size w wr) (fun i _ => (es.length - intOf i).toNat)
    case atStart => exact ⟨0, rfl, Nat.zero_le _, Lib.hid rfl, Below.refl _ _⟩
    case round =>
      obtain ⟨j, rfl, hj, HQ, hbr⟩ := hrel
      by_cases hl : j < es.length
      · have hl' : j < us.length := by have := HLEN.out; omega
        obtain ⟨g1, p1, rfl, hg1, hcl⟩ := HS.out (by intro e; rw [e] at hl; simp at hl)
        obtain ⟨g2, p2, rfl, hg2, hcl'⟩ := HS'.out (by intro e; rw [e] at hl'; simp at hl')
        obtain ⟨q0, q1, q2⟩ := hcl j hl
        obtain ⟨r0, r1, r2⟩ := hcl' j hl'
        have hbW : Below B W0 wr := hb.trans (hbr.mono hB)
        have key : ∀ (g a : Nat), g < B → W0.cell? ⟨g, a, none⟩ = wr.cell? ⟨g, a, none⟩ := fun g a hg => (hbW.cell (p := ⟨g, a, none⟩) hg).symm
        rw [key _ _ hg1] at q0 q1 q2
        rw [key _ _ hg2] at r0 r1 r2
        have hst := sameTs_step es us j hl hl'
        have HX := Lib.hid (IH.out j hl)
        obtain ⟨oa, na, hva, _⟩ := (hr j hl).slice
        have hrb := hr' j hl'
        obtain ⟨ob, nb, hvb, _⟩ := hrb.slice
        generalize es[j] = x at *
        generalize us[j] = y at *
        generalize f j = v1 at *
        generalize f' j = v2 at *
        subst hva hvb
        have HST := Lib.hid hst
        have HRB := Lib.hid hrb
        have hjc : j < cap := by omega
        have hjc' : j < cap' := by omega
        have hBr : B ≤ wr.heap.size := Nat.le_trans hB hbr.size
        clear hcl hcl' key hst HS HS' IH hr hr' hrb
        have hal : ∀ (o : Obj) (a : Nat), (wr.alloc o).cell? ⟨g2, a, none⟩ = wr.cell? ⟨g2, a, none⟩ := fun o a => alloc_cell _ _ _ (show g2 < _ by omega)
        have s0 := fun o : Obj => (hal o _).trans r0
        have s1 := fun o : Obj => (hal o _).trans r1
        have s2 := fun o : Obj => (hal o _).trans r2
        have hbb : ∀ o o2 : Obj, Below w.heap.size w ((wr.alloc o).alloc o2) := fun o o2 => (hbr.alloc hbr.size o).alloc (by have := hbr.size; rw [World.size_alloc]; omega) o2
        have HBB := Lib.hid hbb
        have HX2 : Hid (∀ W, Below B W0 W → B ≤ W.heap.size → Calls Tryd.prog 62 #[.agg #[.int .i64 x.kind, .string ⟨x.name.toArray⟩, .slice oa x.elem.length na], .agg #[.int .i64 y.kind, .string ⟨y.name.toArray⟩, .slice ob y.elem.length nb]] W fun e w' => e = .returned (.bool (sameT x y)) ∧ Below W.heap.size W w') :=
          fun W h1 h2 => HX.out y _ W HRB.out h1 h2
        clear hal r0 r1 r2 HX HRB hbb
        go_wp2_with fail
        cases hx : sameT x y
        · have HF : Hid (sameTs es us = false) := by unfold Hid; rw [HQ.out, HST.out, hx]; rfl
          rw [hx] at HX2
          refine (HX2.out _ (hb.trans ((HBB.out _ _).mono hB)) (Nat.le_trans hB (HBB.out _ _).size)).mono ?_
          rintro e w2 ⟨rfl, hb2⟩
          go_wp2_with fail
          go_ret
          exact ⟨by rw [HF.out]; rfl, (HBB.out _ _).trans (hb2.mono (HBB.out _ _).size)⟩
        · have HF : Hid (sameTs es us = sameTs (es.drop (j + 1)) (us.drop (j + 1))) := by unfold Hid; rw [HQ.out, HST.out, hx, Bool.true_and]
          rw [hx] at HX2
          refine (HX2.out _ (hb.trans ((HBB.out _ _).mono hB)) (Nat.le_trans hB (HBB.out _ _).size)).mono ?_
          rintro e w2 ⟨rfl, hb2⟩
          have hb3 := (HBB.out _ _).trans (hb2.mono (HBB.out _ _).size)
          go_wp2_with fail
          go_roundw
          case rel => exact ⟨j + 1, by go_num, by omega, HF, hb3⟩
          case measure => simp [intOf]; omega
      · obtain rfl : j = es.length := by omega
        have HF : Hid (sameTs es us = true) := by
          unfold Hid
          rw [HQ.out, List.drop_length, HLEN.out, List.drop_length]
          rfl
        go_wp2_with fail
        go_ret
        exact ⟨by rw [HF.out]; rfl, hbr⟩
  · have hlen' : ((es.length : Int) == (us.length : Int)) = false := beq_eq_false_iff_ne.2 (by omega)
    have hlI : ¬ (es.length : Int) = us.length := by omega
    rw [sameTs_len es us hlen]
    clear hs hs' hr hr' ih hlen
    go_enter Tryd.func82, Tryd.ntmps82
    go_wp2_with fail
    go_ret
    exact ⟨rfl, Below.refl _ _⟩
theorem three_below (w W : World) (t : TypeId) (v0 v1 v2 : Value) (hb : Below (w.alloc (Obj.cells #[v0, v1, v2] t)).heap.size (w.alloc (Obj.cells #[v0, v1, v2] t)) W) :
    W.cell? ⟨w.heap.size, 0, none⟩ = some v0 ∧ W.cell? ⟨w.heap.size, 1, none⟩ = some v1 ∧ W.cell? ⟨w.heap.size, 2, none⟩ = some v2 := by
  have key := key_below w W _ hb
  rw [key, key, key]
  simp only [World.cell?, World.alloc, Array.getElem?_push_size]
  exact ⟨rfl, rfl, rfl⟩
set_option maxRecDepth 100000 in
set_option maxHeartbeats 1000000 in
theorem sameType_at (B : Nat) (W0 : World) (t : TyT) (v : Value) (h : RdTy B W0 t v) : SameTAt B W0 t v := by
  induction h with
  | mk k n es o cap f hc hm hn hs hr ih =>
    intro u v' w hu hb hB
    obtain ⟨o', cap', f', rfl, hc', hm', hs', hr'⟩ := hu.open
    have HE := Lib.hid (fun W hbW hBW => eqT_at B W0 es u.elem o o' cap cap' f f' hc hm hc' hm' hs hs' hr hr' ih W hbW hBW)
    have hS : sameT (.mk k n es) u = (decide (k = u.kind) && (n == u.name) && sameTs es u.elem) := by
      conv => lhs; unfold sameT
    have hcv : tyCells (.mk k n es) (.slice o es.length cap) = #[.int .i64 k, .string ⟨n.toArray⟩, .slice o es.length cap] := rfl
    rw [hcv, tyCells_eq]
    have HS := Lib.hid hS
    have hbb : ∀ o o2 : Obj, Below w.heap.size w ((w.alloc o).alloc o2) := fun o o2 => ((Below.refl _ _).alloc (Nat.le_refl _) o).alloc (by rw [World.size_alloc]; omega) o2
    have HBB := Lib.hid hbb
    clear hs hs' hr hr' ih hu hcv hS hbb
    generalize u.elem = us at *
    generalize u.kind = k' at *
    generalize u.name = n' at *
    generalize sameT (.mk k n es) u = r at *
    by_cases hk : k = k'
    · subst hk
      have hkk : (k == k) = true := beq_self_eq_true _
      cases hnn : (n == n')
      · have HF : Hid (r = false) := by unfold Hid; rw [HS.out, hnn, Bool.and_false, Bool.false_and]
        go_enter Tryd.func62, Tryd.ntmps62
        go_wp2_with fail
        go_ret
        exact ⟨by rw [HF.out]; rfl, HBB.out _ _⟩
      · have HF : Hid (r = sameTs es us) := by unfold Hid; rw [HS.out, hnn, decide_eq_true rfl]; rfl
        go_enter Tryd.func62, Tryd.ntmps62
        go_wp2_with fail
        refine (HE.out _ (hb.trans ((HBB.out _ _).mono hB)) (Nat.le_trans hB (HBB.out _ _).size)).mono ?_
        rintro e w2 ⟨rfl, hb2⟩
        go_wp2_with fail
        go_ret
        exact ⟨by rw [HF.out]; rfl, (HBB.out _ _).trans (hb2.mono (HBB.out _ _).size)⟩
    · have hk' : (k == k') = false := beq_eq_false_iff_ne.2 hk
      have HF : Hid (r = false) := by unfold Hid; rw [HS.out, decide_eq_false hk]; rfl
      clear hk
      go_enter Tryd.func62, Tryd.ntmps62
      go_wp2_with fail
      go_ret
      exact ⟨by rw [HF.out]; rfl, HBB.out _ _⟩

/-- Are texts the same ones? -/
def eqSs : List (List UInt8) → List (List UInt8) → Bool
  | [], l => decide (l.length = 0)
  | t :: ts, l => match l with
    | [] => false
    | u :: us => (t == u) && eqSs ts us
theorem eqSs_len : ∀ (a b : List (List UInt8)), a.length ≠ b.length → eqSs a b = false
  | [], b, h => by unfold eqSs; exact decide_eq_false (fun e => h (by rw [e]; rfl))
  | t :: ts, [], _ => rfl
  | t :: ts, u :: us, h => by
    unfold eqSs
    simp only
    rw [eqSs_len ts us (by simpa using h), Bool.and_false]
theorem eqSs_step (a b : List (List UInt8)) (j : Nat) (h : j < a.length) (h' : j < b.length) : eqSs (a.drop j) (b.drop j) = ((a[j] == b[j]) && eqSs (a.drop (j + 1)) (b.drop (j + 1))) := by
  rw [List.drop_eq_getElem_cons h, List.drop_eq_getElem_cons h']
  rfl
set_option maxRecDepth 100000 in
set_option maxHeartbeats 1000000 in
theorem equal_texts (o o' : Option Addr) (cap cap' : Nat) (l l' : List (List UInt8)) (w : World) (hc : l.length ≤ cap) (hm : cap ≤ 9223372036854775807) (hc' : l'.length ≤ cap') (_hm' : cap' ≤ 9223372036854775807) (hs : RowS w o l) (hs' : RowS w o' l') :
    Calls Tryd.prog 63 #[.slice o l.length cap, .slice o' l'.length cap'] w fun e w' => e = .returned (.bool (eqSs l l')) ∧ Below w.heap.size w w' := by
  by_cases hlen : l.length = l'.length
  · have HS := Lib.hid hs
    have HS' := Lib.hid hs'
    have HLEN := Lib.hid hlen
    clear hs hs' hlen
    go_enter Tryd.func63, Tryd.ntmps63
    rw [← HLEN.out]
    go_wp2_with fail
    go_loopw [13] (fun i wr => ∃ j : Nat, i = .int .i64 j ∧ j ≤ l.length ∧ Hid (eqSs l l' = eqSs (l.drop j) (l'.drop j)) ∧ Below w.heap.size w wr) (fun i _ => (l.length - intOf i).toNat)
    case atStart => exact ⟨0, rfl, Nat.zero_le _, Lib.hid rfl, Below.refl _ _⟩
    case round =>
      obtain ⟨j, rfl, hj, HQ, hbr⟩ := hrel
      by_cases hl : j < l.length
      · have hl' : j < l'.length := by have := HLEN.out; omega
        obtain ⟨g1, p1, rfl, hg1, hcl⟩ := HS.out (by intro e; rw [e] at hl; simp at hl)
        obtain ⟨g2, p2, rfl, hg2, hcl'⟩ := HS'.out (by intro e; rw [e] at hl'; simp at hl')
        have q0 := hcl j hl
        have r0 := hcl' j hl'
        rw [← hbr.cell (p := ⟨g1, p1 + j, none⟩) hg1] at q0
        rw [← hbr.cell (p := ⟨g2, p2 + j, none⟩) hg2] at r0
        have hst := eqSs_step l l' j hl hl'
        have hjc : j < cap := by omega
        have hjc' : j < cap' := by omega
        clear hcl hcl' HS HS'
        generalize l[j] = x at *
        generalize l'[j] = y at *
        have HST := Lib.hid hst
        clear hst
        cases hx : (x == y)
        · have HF : Hid (eqSs l l' = false) := by unfold Hid; rw [HQ.out, HST.out, hx]; rfl
          go_wp2_with fail
          go_quiet (fail)
          go_wp2_with fail
          go_ret
          exact ⟨by rw [HF.out]; rfl, hbr.trans ⟨rfl, rfl, rfl, Nat.le_refl _, fun _ _ => rfl⟩⟩
        · have HF : Hid (eqSs l l' = eqSs (l.drop (j + 1)) (l'.drop (j + 1))) := by unfold Hid; rw [HQ.out, HST.out, hx, Bool.true_and]
          go_wp2_with fail
          go_quiet (fail)
          go_wp2_with fail
          go_roundw
          case rel => exact ⟨j + 1, by go_num, by omega, HF, hbr.trans ⟨rfl, rfl, rfl, Nat.le_refl _, fun _ _ => rfl⟩⟩
          case measure => simp [intOf]; omega
      · obtain rfl : j = l.length := by omega
        have HF : Hid (eqSs l l' = true) := by
          unfold Hid
          rw [HQ.out, List.drop_length, HLEN.out, List.drop_length]
          rfl
        go_wp2_with fail
        go_ret
        exact ⟨by rw [HF.out]; rfl, hbr⟩
  · have hlI : ¬ (l.length : Int) = l'.length := by omega
    rw [eqSs_len l l' hlen]
    clear hs hs' hlen
    go_enter Tryd.func63, Tryd.ntmps63
    go_wp2_with fail
    go_ret
    exact ⟨rfl, Below.refl _ _⟩
end Go.Proofs.YtaelanpmgckfkaaRRRRDoor
