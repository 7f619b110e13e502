/- slices.Reverse at []byte, on a slice of the call's own. -/
import Derived.Test.YtaelanpmgckfkaaRRRRDoorRows
import Derived.WalkKit
import Derived.WalkSpells
import Derived.WalkLawsBesides
import Derived.BigRegion
import Derived.Lib.Hide
import Derived.Test.YtaelanpmgckfkaaRRRRDoorOwn
namespace Go.Proofs.YtaelanpmgckfkaaRRRRDoor
open Go.RowKit Go.Av

theorem slBytes : SlTy Tryd.prog 22 5 1 1 (.int .u8 0) := ⟨Tryd.underlying22, by kernel_rfl, rfl⟩

/-- A store into what is owned. -/
theorem own_setCell {w : World} {B e : Nat} {g off cap n : Nat} {xs : List Value} (h : Own w B e 1 (.slice (some ⟨g, off, none⟩) n cap) n xs) (j : Nat) (u : Value) (hj : j < n) :
    Own (w.setCell ⟨g, off + j, none⟩ u) B e 1 (.slice (some ⟨g, off, none⟩) n cap) n (xs.set j u) := by
  obtain ⟨h1, h2⟩ := h
  refine ⟨by simpa using h1, ?_⟩
  rcases h2 with ⟨h2, _⟩ | ⟨g', off', cap', cur, fz, hv, hb, hg, hn, hc, hs, hf, ht⟩
  · simp at h2
  · simp at hv
    obtain ⟨⟨rfl, rfl⟩, rfl⟩ := hv
    refine .inr ⟨g, off, cap, cur.setIfInBounds (off + j) u, fz, rfl, hb, ?_, hn, hc, by simpa using hs, hf, ?_⟩
    · simp only [World.setCell, Array.getElem?_modify, hg]
      simp
    · have h1' : n ≤ cur.size - off := by omega
      rw [← ht]
      apply List.ext_getElem?
      intro k
      simp only [Array.toList_setIfInBounds, List.getElem?_take, List.getElem?_drop, List.getElem?_set, List.length_drop, List.length_take, Array.length_toList]
      have hl : n * 1 = n := by omega
      rw [hl]
      by_cases hk : k < n
      · by_cases hjk : j = k
        · subst hjk
          simp only [hk, if_true]
          rw [if_pos (by omega), if_pos (by omega)]
        · simp [hk, hjk]
      · have : ¬ j = k := by omega
        simp [hk, this]
theorem grew_setCell {w w' : World} {v : Value} {g off cap n : Nat} (h : Grew w v w' (.slice (some ⟨g, off, none⟩) n cap)) (j : Nat) (u : Value) :
    Grew w v (w'.setCell ⟨g, off + j, none⟩ u) (.slice (some ⟨g, off, none⟩) n cap) :=
  h.trans ⟨⟨rfl, rfl, rfl, by simp [World.setCell], fun k _ hk => Below.heap_setCell _ _ _ _ (fun e => hk (by simp [Value.ownBlock, e]))⟩, .inl rfl⟩
theorem own_free {w : World} {B e : Nat} {g off cap n : Nat} {xs : List Value} (h : Own w B e 1 (.slice (some ⟨g, off, none⟩) n cap) n xs) (j : Nat) (hj : j < n) : w.frozen? ⟨g, off + j, none⟩ = false := by
  rcases h.2 with ⟨h2, _⟩ | ⟨g', off', cap', cur, fz, hv, hb, hg, hn, hc, hs, hf, ht⟩
  · simp at h2
  · simp at hv
    obtain ⟨⟨rfl, rfl⟩, rfl⟩ := hv
    simp only [World.frozen?, hg]
    simp
    omega

/-- After k exchanges from both ends of xs. -/
def Turned (xs ys : List UInt8) (k : Nat) : Prop := ys.length = xs.length ∧ ∀ p, p < xs.length → ys[p]? = if p < k ∨ xs.length ≤ p + k then xs[xs.length - 1 - p]? else xs[p]?
theorem Turned.start (xs : List UInt8) : Turned xs xs 0 := ⟨rfl, fun p hp => by rw [if_neg (by omega)]⟩
theorem Turned.step {xs ys : List UInt8} {k m : Nat} (h : Turned xs ys k) (hn : k + m + 1 = xs.length) (hk : k < m) (a b : UInt8) (ha : ys[k]? = some a) (hb : ys[m]? = some b) :
    Turned xs ((ys.set k b).set m a) (k + 1) := by
  obtain ⟨h1, h2⟩ := h
  refine ⟨by simpa using h1, fun p hp => ?_⟩
  have hk' := h2 k (by omega)
  have hm' := h2 m (by omega)
  rw [if_neg (by omega), ha] at hk'
  rw [if_neg (by omega), hb] at hm'
  simp only [List.getElem?_set, List.length_set]
  by_cases hpm : m = p
  · subst hpm
    rw [if_pos rfl, if_pos (by omega), if_pos (by omega), show xs.length - 1 - m = k by omega, hk']
  · rw [if_neg hpm]
    by_cases hpk : k = p
    · subst hpk
      rw [if_pos rfl, if_pos (by omega), if_pos (by omega), show xs.length - 1 - k = m by omega, hm']
    · rw [if_neg hpk, h2 p hp]
      by_cases hc : p < k ∨ xs.length ≤ p + k
      · rw [if_pos hc, if_pos (by omega)]
      · rw [if_neg hc, if_neg (by omega)]
theorem Turned.stop {xs ys : List UInt8} {k m : Nat} (h : Turned xs ys k) (hn : k + m + 1 = xs.length) (hk : m ≤ k) (hkm : k ≤ m + 1) : ys = xs.reverse := by
  obtain ⟨h1, h2⟩ := h
  apply List.ext_getElem?
  intro p
  by_cases hp : p < xs.length
  · rw [h2 p hp, List.getElem?_reverse hp]
    split
    · rfl
    · rw [show xs.length - 1 - p = p by omega]
  · rw [List.getElem?_eq_none (by omega), List.getElem?_eq_none (by simp; omega)]

theorem bv_set (bs : List UInt8) (k : Nat) (a : UInt8) : (bv bs).set k (.int .u8 (a.toNat : Int)) = bv (bs.set k a) := by
  simp [bv, List.map_set]
theorem bv_get {bs : List UInt8} {k : Nat} {a : UInt8} (h : bs[k]? = some a) : (bv bs)[k]? = some (.int .u8 (a.toNat : Int)) := by
  simp [bv, h]

set_option maxHeartbeats 400000 in
theorem reverse_nil (w : World) : Calls Tryd.prog 105 #[.slice none 0 0] w fun e w' => e = .returned (.tuple #[]) ∧ w' = w := by
  go_enter Tryd.func105, Tryd.ntmps105
  go_wp2
  refine wp_loop_rounds 1 ?_
  rw [rounds_succ]
  go_wp2
  go_end0
  exact ⟨rfl, rfl⟩

set_option maxHeartbeats 400000 in
theorem reverse_zero (g off cap : Nat) (w : World) : Calls Tryd.prog 105 #[.slice (some ⟨g, off, none⟩) 0 cap] w fun e w' => e = .returned (.tuple #[]) ∧ w' = w := by
  go_enter Tryd.func105, Tryd.ntmps105
  go_wp2
  refine wp_loop_rounds 1 ?_
  rw [rounds_succ]
  go_wp2
  go_end0
  exact ⟨rfl, rfl⟩

set_option maxHeartbeats 400000 in
theorem reverse_own (B g off n cap : Nat) (xs : List UInt8) (w : World) (h : Own w B 5 1 (.slice (some ⟨g, off, none⟩) n cap) n (bv xs)) (h0 : 0 < n) (hn : n ≤ 9223372036854775807) :
    Calls Tryd.prog 105 #[.slice (some ⟨g, off, none⟩) n cap] w fun e w' => e = .returned (.tuple #[]) ∧ Own w' B 5 1 (.slice (some ⟨g, off, none⟩) n cap) n (bv xs.reverse) ∧ Grew w (.slice (some ⟨g, off, none⟩) n cap) w' (.slice (some ⟨g, off, none⟩) n cap) := by
  have hxl : xs.length = n := by have := h.1; rw [bv_length] at this; omega
  have hnn : (0 : Int) < n := by omega
  have HX := Lib.hid hxl; clear hxl
  go_enter Tryd.func105, Tryd.ntmps105
  go_wp2
  go_loopw [2, 3] (fun i j wr => ∃ k m : Nat, ∃ ys, i = .int .i64 k ∧ j = .int .i64 m ∧ Hid (k + m + 1 = n) ∧ k ≤ m + 1 ∧ Turned xs ys k ∧ Own wr B 5 1 (.slice (some ⟨g, off, none⟩) n cap) n (bv ys) ∧ Grew w (.slice (some ⟨g, off, none⟩) n cap) wr (.slice (some ⟨g, off, none⟩) n cap))
    (fun i j _ => (intOf j - intOf i + 1).toNat)
  case atStart => exact ⟨0, n - 1, xs, rfl, by congr; omega, by unfold Hid; omega, by omega, Turned.start xs, h, Grew.refl _ _⟩
  case round =>
    obtain ⟨k, m, ys, rfl, rfl, HK, hkm, ht, ho, hgr⟩ := hrel
    by_cases hlt : k < m
    · have hm : m < n := by have := HK.out; omega
      have hk : k < n := by omega
      obtain ⟨a, ha⟩ : ∃ a, ys[k]? = some a := ⟨ys[k]'(by rw [ht.1, HX.out]; omega), by rw [List.getElem?_eq_getElem]⟩
      obtain ⟨b, hb⟩ : ∃ b, ys[m]? = some b := ⟨ys[m]'(by rw [ht.1, HX.out]; omega), by rw [List.getElem?_eq_getElem]⟩
      have hst := ht.step (by rw [HX.out]; exact HK.out) hlt a b ha hb
      have ca := ho.cells rfl k _ (bv_get ha)
      have cb := ho.cells rfl m _ (bv_get hb)
      have fa := own_free ho k hk
      have fb := own_free ho m hm
      have HO := Lib.hid ho; clear ho
      have HG := Lib.hid hgr; clear hgr
      have HS := Lib.hid hst; clear hst
      have HA := Lib.hid ha; clear ha
      have HB := Lib.hid hb; clear hb
      clear ht
      go_wp2
      go_region
      go_wp2
      go_roundw
      case rel =>
        have o1 := own_setCell HO.out k (.int .u8 (b.toNat : Int)) hk
        have o2 := own_setCell o1 m (.int .u8 (a.toNat : Int)) hm
        rw [bv_set, bv_set] at o2
        have g1 := grew_setCell HG.out k (.int .u8 (b.toNat : Int))
        have g2 := grew_setCell g1 m (.int .u8 (a.toNat : Int))
        exact ⟨k + 1, m - 1, _, by go_num, by congr; omega, by have := HK.out; unfold Hid; omega, by omega, HS.out, o2.drew, g2.drew⟩
      case measure => simp [intOf]; omega
    · go_wp2
      go_end0
      exact ⟨rfl, by rw [← ht.stop (by rw [HX.out]; exact HK.out) (by omega) hkm]; exact ho, hgr⟩

theorem reverse_any (B : Nat) (v : Value) (n : Nat) (xs : List UInt8) (w : World) (h : Own w B 5 1 v n (bv xs)) (hn : n ≤ 9223372036854775807) :
    Calls Tryd.prog 105 #[v] w fun e w' => e = .returned (.tuple #[]) ∧ Own w' B 5 1 v n (bv xs.reverse) ∧ Grew w v w' v := by
  rcases h.2 with ⟨rfl, rfl⟩ | ⟨g, off, cap, cur, fz, rfl, _⟩
  · have : xs = [] := List.eq_nil_of_length_eq_zero (by have := h.1; rw [bv_length] at this; omega)
    subst this
    exact (reverse_nil w).mono fun e w' ⟨he, hw⟩ => by subst hw; exact ⟨he, h, Grew.refl _ _⟩
  · by_cases h0 : 0 < n
    · exact reverse_own B g off n cap xs w h h0 hn
    · have hn0 : n = 0 := by omega
      subst hn0
      have : xs = [] := List.eq_nil_of_length_eq_zero (by have := h.1; rw [bv_length] at this; omega)
      subst this
      exact (reverse_zero g off cap w).mono fun e w' ⟨he, hw⟩ => by subst hw; exact ⟨he, h, Grew.refl _ _⟩
end Go.Proofs.YtaelanpmgckfkaaRRRRDoor
