/- The document's count of an expression's parts, walked. -/
import Derived.Test.YtaelanpmgckfkaaRRRRDoorCount
import Derived.WalkKit
import Derived.StillTailTactics
import Derived.Deep.QuietTactic
namespace Go.Proofs.YtaelanpmgckfkaaRRRRDoor
open Go.RowKit Go.Av

theorem epS_step (es : List ExT) (j : Nat) (h : j < es.length) (n m : Int) : epS (es.drop j) n m = if n ≤ m then epS (es.drop (j + 1)) (kpS es[j] (n + 1) m) m else n := by
  rw [List.drop_eq_getElem_cons h]
  conv => lhs; unfold epS
theorem kpS_def (x : ExT) (n m : Int) : kpS x n m = (if zeroS x.type = true then n else n + tpS x.type (m - n)) + epS x.kids 0 (m - (if zeroS x.type = true then n else n + tpS x.type (m - n))) := by
  obtain ⟨k, t, i, ty, ns, ks⟩ := x
  conv => lhs; unfold kpS
  rfl
def EpV (B : Nat) (W0 : World) (ks : List ExT) (v : Value) : Prop := ∀ (m : Int) (w : World), Below B W0 w → B ≤ w.heap.size → -10 ≤ m ∧ m ≤ 100000 →
    Calls Tryd.prog 60 #[v, .int .i64 m] w fun e w' => e = .returned (.int .i64 (epS ks 0 m)) ∧ Below w.heap.size w w'
set_option maxRecDepth 100000 in
set_option maxHeartbeats 1000000 in
theorem exprParts_at (B : Nat) (W0 : World) (es : List ExT) (o : Option Addr) (cap : Nat) (f1 f2 f3 : Nat → Value) (hc : es.length ≤ cap) (hm : cap ≤ 9223372036854775807) (hs : KidsAt B W0 es o f1 f2 f3)
    (hr : ∀ j (h : j < es.length), RdEx B W0 es[j] (f1 j) (f2 j) (f3 j)) (ih : ∀ j (h : j < es.length), EpV B W0 (es[j]).kids (f3 j)) : EpV B W0 es (.slice o es.length cap) := by
  intro m w hb hB hmm
  have HS := Lib.hid hs
  have IH := Lib.hid ih
  have HR := Lib.hid hr
  clear hs ih hr
  go_enter Tryd.func60, Tryd.ntmps60
  go_wp2_with fail
  go_loopw [5, 6] (fun q i wr => ∃ (j : Nat) (p : Int), q = .int .i64 p ∧ i = .int .i64 j ∧ j ≤ es.length ∧ Hid (epS es 0 m = epS (es.drop j) p m) ∧ (0 ≤ p ∧ p ≤ max (m + 2) 0) ∧ Below w.heap.size w wr) (fun _ i _ => (es.length - intOf i).toNat)
  case atStart => exact ⟨0, 0, rfl, rfl, Nat.zero_le _, Lib.hid rfl, by omega, Below.refl _ _⟩
  case round =>
    obtain ⟨j, p, rfl, rfl, hj, HQ, hp, hbr⟩ := hrel
    by_cases hl : j < es.length
    · by_cases hpm : p ≤ m
      · obtain ⟨g1, p1, rfl, hg1, hcl⟩ := HS.out (by intro e; rw [e] at hl; simp at hl)
        have hq := hcl j hl
        have hst := epS_step es j hl p m
        rw [if_pos hpm, kpS_def] at hst
        have hex := HR.out j hl
        obtain ⟨oc, capc, f1', f2', f3', hvc, _, _, hty, _, _, _⟩ := hex.open
        obtain ⟨ot, ct, hvt, _⟩ := hty.slice
        have HZ := Lib.hid (fun W => none_at hty W)
        have HTP := Lib.hid (typeParts_at B W0 _ _ hty)
        have HEP := Lib.hid (IH.out j hl)
        have hle := kpS_le es[j] (p + 1) m (by omega)
        rw [kpS_def] at hle
        have htl := tpS_le es[j].type (m - (p + 1))
        generalize es[j] = x at *
        generalize f1 j = v1 at *
        generalize f2 j = v2 at *
        generalize f3 j = v3 at *
        subst hvc hvt
        rw [tyCells_eq] at HZ
        have hCL : ∀ W, Below B W0 W → W.cell? ⟨g1, p1 + j * 8 + 3, none⟩ = some (.int .i64 x.type.kind) ∧ W.cell? ⟨g1, p1 + j * 8 + 4, none⟩ = some (.string ⟨x.type.name.toArray⟩) ∧ W.cell? ⟨g1, p1 + j * 8 + 5, none⟩ = some (.slice ot x.type.elem.length ct) ∧ W.cell? ⟨g1, p1 + j * 8 + 7, none⟩ = some (.slice oc x.kids.length capc) := by
          intro W hW
          have key : ∀ a : Nat, W.cell? ⟨g1, a, none⟩ = W0.cell? ⟨g1, a, none⟩ := fun a => hW.cell (p := ⟨g1, a, none⟩) hg1
          rw [key, key, key, key]
          exact ⟨hq.2.2.2.1, hq.2.2.2.2.1, hq.2.2.2.2.2.1, hq.2.2.2.2.2.2.2⟩
        have HCL := Lib.hid hCL
        have HST := Lib.hid hst
        have hjc : j < cap := by omega
        have hbW : Below B W0 wr := hb.trans (hbr.mono hB)
        obtain ⟨q3, q4, q5, q7⟩ := HCL.out wr hbW
        clear hq hcl hst HS IH HR hex hty hCL
        cases hz : zeroS x.type
        · rw [hz] at HZ HST hle
          rw [if_neg (by decide)] at hle
          have HN : Hid (epS es 0 m = epS (es.drop (j + 1)) ((p + 1) + tpS x.type (m - (p + 1)) + epS x.kids 0 (m - ((p + 1) + tpS x.type (m - (p + 1))))) m) := by
            unfold Hid
            rw [HQ.out, HST.out, if_neg (by decide)]
          have HT2 := Lib.hid (fun W h1 h2 => HTP.out (m - (p + 1)) W h1 h2 (by omega))
          have HE2 := Lib.hid (fun W h1 h2 => HEP.out (m - ((p + 1) + tpS x.type (m - (p + 1)))) W h1 h2 (by omega))
          simp only [tyCells_eq] at HT2
          generalize tpS x.type (m - (p + 1)) = y at *
          generalize epS x.kids 0 (m - ((p + 1) + y)) = z at *
          go_wp2_with fail
          refine (HZ.out wr).mono ?_
          rintro e w2 ⟨rfl, hb2⟩
          have hb3 := hbr.trans (hb2.mono hbr.size)
          have hbW2 := hb.trans (hb3.mono hB)
          clear q3 q4 q5 q7
          obtain ⟨q3, q4, q5, q7⟩ := HCL.out w2 hbW2
          go_wp2_with fail
          refine (HT2.out w2 hbW2 (Nat.le_trans hB hb3.size)).mono ?_
          rintro e w3 ⟨rfl, hb4⟩
          have hb5 := hb3.trans (hb4.mono hb3.size)
          have hbW3 := hb.trans (hb5.mono hB)
          clear q3 q4 q5 q7
          obtain ⟨q3, q4, q5, q7⟩ := HCL.out w3 hbW3
          go_wp2_with fail
          refine (HE2.out w3 hbW3 (Nat.le_trans hB hb5.size)).mono ?_
          rintro e w4 ⟨rfl, hb6⟩
          have hb7 := hb5.trans (hb6.mono hb5.size)
          go_wp2_with fail
          go_roundw
          case rel => exact ⟨j + 1, _, rfl, by go_num, by omega, HN, by omega, hb7⟩
          case measure => simp [intOf]; omega
        · rw [hz] at HZ HST hle
          rw [if_pos rfl] at hle
          have HN : Hid (epS es 0 m = epS (es.drop (j + 1)) ((p + 1) + epS x.kids 0 (m - (p + 1))) m) := by
            unfold Hid
            rw [HQ.out, HST.out, if_pos rfl]
          have HE2 := Lib.hid (fun W h1 h2 => HEP.out (m - (p + 1)) W h1 h2 (by omega))
          generalize epS x.kids 0 (m - (p + 1)) = z at *
          go_wp2_with fail
          refine (HZ.out wr).mono ?_
          rintro e w2 ⟨rfl, hb2⟩
          have hb3 := hbr.trans (hb2.mono hbr.size)
          have hbW2 := hb.trans (hb3.mono hB)
          clear q3 q4 q5 q7
          obtain ⟨q3, q4, q5, q7⟩ := HCL.out w2 hbW2
          go_wp2_with fail
          refine (HE2.out w2 hbW2 (Nat.le_trans hB hb3.size)).mono ?_
          rintro e w4 ⟨rfl, hb6⟩
          have hb7 := hb3.trans (hb6.mono hb3.size)
          go_wp2_with fail
          go_roundw
          case rel => exact ⟨j + 1, _, rfl, by go_num, by omega, HN, by omega, hb7⟩
          case measure => simp [intOf]; omega
      · have HF : Hid (epS es 0 m = p) := by
          unfold Hid
          rw [HQ.out, epS_step es j hl, if_neg hpm]
        go_wp2_with fail
        go_ret
        exact ⟨by rw [HF.out]; rfl, hbr⟩
    · obtain rfl : j = es.length := by omega
      have HF : Hid (epS es 0 m = p) := by
        unfold Hid
        rw [HQ.out, List.drop_length]
        unfold epS
        rfl
      go_wp2_with fail
      go_ret
      exact ⟨by rw [HF.out]; rfl, hbr⟩
theorem kidsParts_at (B : Nat) (W0 : World) (x : ExT) (a b c : Value) (h : RdEx B W0 x a b c) : EpV B W0 x.kids c := by
  induction h with
  | mk k t i ty ns ks tv nv o cap f1 f2 f3 hc hm ht hi hty hns hs hr ih => exact exprParts_at B W0 ks o cap f1 f2 f3 hc hm hs hr ih
end Go.Proofs.YtaelanpmgckfkaaRRRRDoor
