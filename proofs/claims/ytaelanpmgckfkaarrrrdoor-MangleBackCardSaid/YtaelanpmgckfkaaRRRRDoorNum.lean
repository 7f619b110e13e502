/- jprint.Number on a number that is not below 0: its digits are put behind bytes of the call's own. -/
import Derived.Test.YtaelanpmgckfkaaRRRRDoorRev
import Derived.Test.YtaelanpmgckfkaaRRRRDoorDec
namespace Go.Proofs.YtaelanpmgckfkaaRRRRDoor
open Go.RowKit Go.Av

/-- v is a slice of bytes of the call's own (from B on): bs. -/
def OwnB (w : World) (B : Nat) (v : Value) (bs : List UInt8) : Prop := Own w B 5 1 v bs.length (bv bs)
/-- The call answers bytes of the caller's own: bs; of what was there v's block alone has turned. -/
def Puts (B : Nat) (bs : List UInt8) (w : World) (v : Value) (e : Ending) (w' : World) : Prop := ∃ v', e = .returned v' ∧ OwnB w' B v' bs ∧ Grew w v w' v'

/-- Digits are put, the last one first: ds are there, u is left of n. -/
def DigInv (n u : Nat) (ds : List UInt8) : Prop := ds ++ decRev (20 - ds.length) u = decRev 20 n ∧ ds.length < 20 ∧ u < 10 ^ (20 - ds.length)
theorem DigInv.start (n : Nat) (h : n < 10 ^ 20) : DigInv n n [] := ⟨rfl, by decide, h⟩
theorem DigInv.step {n u : Nat} {ds : List UInt8} (h : DigInv n u ds) (hu : 9 < u) : DigInv n (u / 10) (ds ++ [UInt8.ofNat (48 + u % 10)]) := by
  obtain ⟨h1, h2, h3⟩ := h
  obtain ⟨f, hf⟩ : ∃ f, 20 - ds.length = f + 1 := ⟨20 - ds.length - 1, by omega⟩
  have hf0 : f ≠ 0 := by rintro rfl; rw [hf] at h3; omega
  rw [hf] at h1 h3
  rw [decRev_step f u hu] at h1
  have e : 20 - (ds ++ [UInt8.ofNat (48 + u % 10)]).length = f := by simp; omega
  refine ⟨by rw [e, ← h1]; simp, by simp; omega, by rw [e]; rw [Nat.pow_succ] at h3; omega⟩
theorem DigInv.stop {n u : Nat} {ds : List UInt8} (h : DigInv n u ds) (hu : u ≤ 9) : ds ++ [UInt8.ofNat (48 + u)] = decRev 20 n := by
  obtain ⟨h1, h2, h3⟩ := h
  obtain ⟨f, hf⟩ : ∃ f, 20 - ds.length = f + 1 := ⟨20 - ds.length - 1, by omega⟩
  rw [hf, decRev_last f u hu] at h1
  exact h1

theorem digit_cell (u : Nat) : [Value.int .u8 (48 + (u : Int) % 10)] = bv [UInt8.ofNat (48 + u % 10)] := by
  have := digit_toNat (d := u % 10) (by omega)
  simp only [bv, List.map_cons, List.map_nil, this]
  congr
theorem digit_cell' (u : Nat) (h : u ≤ 9) : [Value.int .u8 (48 + (u : Int))] = bv [UInt8.ofNat (48 + u)] := by
  have := digit_toNat (d := u) (by omega)
  simp only [bv, List.map_cons, List.map_nil, this]
  congr

set_option maxHeartbeats 400000 in
theorem jnum (B : Nat) (v : Value) (bs : List UInt8) (n : Int) (w : World) (hown : OwnB w B v bs) (hB : B ≤ w.heap.size) (h0 : 0 ≤ n) (hn : n ≤ 9223372036854775807) (hl : bs.length ≤ 1099511627776) :
    Calls Tryd.prog 95 #[v, .int .i64 n] w (Puts B (bs ++ dec n.toNat) w v) := by
  obtain ⟨n, rfl⟩ := Int.eq_ofNat_of_zero_le h0
  have HO := Lib.hid hown; clear hown
  have hneg : ¬ ((n : Int) < 0) := by omega
  go_enter Tryd.func95, Tryd.ntmps95
  go_wp2
  go_loopw [5, 6] (fun a d wr => ∃ u : Nat, ∃ ds : List UInt8, a = .int .u64 u ∧ (u : Int) ≤ 9223372036854775807 ∧ Hid (DigInv n u ds) ∧ Hid (OwnB wr w.heap.size d ds) ∧ Below w.heap.size w wr) (fun a _ _ => (intOf a).toNat)
  case atStart => exact ⟨n, [], rfl, hn, Lib.hid (DigInv.start n (by omega)), Lib.hid (Own.nil _ _ _ _), Below.refl _ _⟩
  case round =>
    obtain ⟨u, ds, rfl, hu, HD, HW, hb⟩ := hrel
    have hd := HD.out.2.1
    have hs := hb.size
    by_cases h9 : 9 < u
    · go_wp2_with (at_builtin; refine wpList_app_slice rfl slBytes (.tmp 18) (.tmp 23) rfl w.heap.size u6 ds.length (bv ds) rfl (HW.out.alloc _) _ 0 1 1 rfl [.int .u8 (48 + (u : Int) % 10)] rfl (news_lit _ _ _) (one_of rfl) (by unfold maxLen; omega) (by omega) (by simp; omega) ?_; intro v1 w1 ho1 hg1)
      go_roundw
      case rel =>
        rw [digit_cell, ← bv_append] at ho1
        refine ⟨u / 10, ds ++ [UInt8.ofNat (48 + u % 10)], by go_num, by omega, Lib.hid (HD.out.step h9), Lib.hid ?_, ?_⟩
        · unfold OwnB; simpa using ho1
        · exact (hb.alloc hs _).grown hg1.grown (by simp; omega) (fun k hk => ((HW.out.lt k hk).1))
      case measure => simp [intOf]; omega
    · have h9' : (u : Int) ≤ 9 := by omega
      go_wp2_with (at_builtin; refine wpList_app_slice rfl slBytes (.tmp 27) (.tmp 31) rfl w.heap.size u6 ds.length (bv ds) rfl (HW.out.alloc _) _ 0 1 1 rfl [.int .u8 (48 + (u : Int))] rfl (news_lit _ _ _) (one_of rfl) (by unfold maxLen; omega) (by omega) (by simp; omega) ?_; intro v1 w1 ho1 hg1)
      rw [digit_cell' u (by omega), ← bv_append, HD.out.stop (by omega)] at ho1
      have hlen : ds.length + 1 = (decRev 20 n).length := by have := HD.out.stop (by omega); rw [← this]; simp
      have hb1 : Below w.heap.size w w1 := (hb.alloc hs _).grown hg1.grown (by simp; omega) (fun k hk => ((HW.out.lt k hk).1))
      refine (reverse_any w.heap.size v1 _ _ w1 ho1 (by omega)).mono ?_
      rintro e w2 ⟨rfl, ho2, hg2⟩
      have hb2 : Below w.heap.size w w2 := hb1.grown hg2.grown hb1.size (fun k hk => ((ho1.lt k hk).1))
      have ho3 := HO.out.below hb2
      have hB2 := Nat.le_trans hB hb2.size
      have HL := Lib.hid hlen; clear hlen
      go_wp2_with (at_builtin; refine wpList_app_own rfl slBytes (.tmp 35) (.tmp 36) rfl B v _ _ rfl ho3 v1 rfl w.heap.size _ _ ho2 (bv_one _) (by unfold maxLen; omega) (by omega) hB2 ?_; intro v2 w3 ho4 hg4)
      go_ret
      refine ⟨v2, rfl, ?_, ((Grew.refl w v).trans ⟨grownBy_of_below hb2 _, .inl rfl⟩).trans hg4⟩
      rw [← bv_append] at ho4
      unfold OwnB
      have e1 : dec n = (decRev 20 n).reverse := rfl
      rw [show ((n : Int)).toNat = n from rfl, e1]
      have e2 : (bs ++ (decRev 20 n).reverse).length = bs.length + (ds.length + 1) := by rw [List.length_append, List.length_reverse, ← HL.out]
      rw [e2]
      exact ho4
end Go.Proofs.YtaelanpmgckfkaaRRRRDoor
