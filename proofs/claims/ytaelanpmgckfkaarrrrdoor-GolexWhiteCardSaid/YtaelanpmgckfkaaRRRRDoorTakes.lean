/- GolexTakes, walked. -/
import Derived.Test.YtaelanpmgckfkaaRRRRDoorWorks23
namespace Go.Proofs.YtaelanpmgckfkaaRRRRDoor
open Go.RowKit Go.Av

/-- A block of five cells, read later. -/
theorem five_at (w1 W : World) (t : TypeId) (v0 v1 v2 v3 v4 : Value) (hb : Below (w1.alloc (Obj.cells #[v0, v1, v2, v3, v4] t)).heap.size (w1.alloc (Obj.cells #[v0, v1, v2, v3, v4] t)) W) :
    W.cell? ⟨w1.heap.size, 0, none⟩ = some v0 ∧ W.cell? ⟨w1.heap.size, 1, none⟩ = some v1 ∧ W.cell? ⟨w1.heap.size, 2, none⟩ = some v2 ∧ W.cell? ⟨w1.heap.size, 3, none⟩ = some v3 ∧ W.cell? ⟨w1.heap.size, 4, none⟩ = some v4 := by
  have hs : w1.heap.size < (w1.alloc (Obj.cells #[v0, v1, v2, v3, v4] t)).heap.size := by rw [World.size_alloc]; omega
  have key : ∀ k : Nat, W.cell? ⟨w1.heap.size, k, none⟩ = (w1.alloc (Obj.cells #[v0, v1, v2, v3, v4] t)).cell? ⟨w1.heap.size, k, none⟩ := fun k => hb.cell (p := ⟨w1.heap.size, k, none⟩) hs
  rw [key, key, key, key, key]
  simp only [World.cell?, World.alloc, Array.getElem?_push_size]
  exact ⟨rfl, rfl, rfl, rfl, rfl⟩

theorem flatW_at : ∀ (l : List WordS) (j : Nat) (x : WordS) (k : Nat), l[j]? = some x → k < 5 → (flatW l)[j * 5 + k]? = x.cells.toList[k]?
  | [], j, x, k, h, _ => by simp at h
  | y :: l, 0, x, k, h, hk => by
    obtain rfl : y = x := by simpa using h
    show (y.cells.toList ++ flatW l)[0 * 5 + k]? = _
    rw [Nat.zero_mul, Nat.zero_add, List.getElem?_append_left (by show k < 5; exact hk)]
  | y :: l, j + 1, x, k, h, hk => by
    have ih := flatW_at l j x k (by simpa using h) hk
    show (y.cells.toList ++ flatW l)[(j + 1) * 5 + k]? = _
    rw [List.getElem?_append_right (by show 5 ≤ _; omega), show (j + 1) * 5 + k - y.cells.toList.length = j * 5 + k by show (j + 1) * 5 + k - 5 = _; omega]
    exact ih
/-- Words that a call owns, opened. -/
theorem words_open {w : World} {B e : Nat} {v : Value} {l : List WordS} (h : Own w B e 5 v l.length (flatW l)) : ∃ (a : Option Addr) (cap : Nat), v = .slice a l.length cap ∧ l.length ≤ cap ∧ cap ≤ 9223372036854775807 ∧
    ∀ j x, l[j]? = some x → ∃ g off, a = some ⟨g, off, none⟩ ∧ g < w.heap.size ∧ w.cell? ⟨g, off + j * 5, none⟩ = some (.int .i64 (x.kind : Int)) ∧ w.cell? ⟨g, off + j * 5 + 1, none⟩ = some (.string ⟨x.text.toArray⟩) ∧ w.cell? ⟨g, off + j * 5 + 2, none⟩ = some (.int .u64 (x.int : Int)) ∧
      w.cell? ⟨g, off + j * 5 + 3, none⟩ = some (.int .i64 (x.at' : Int)) ∧ w.cell? ⟨g, off + j * 5 + 4, none⟩ = some (.int .i64 (x.next : Int)) := by
  rcases h.2 with ⟨rfl, hn⟩ | ⟨g, off, cap, cur, fz, rfl, _, hgg, hc, hm, _⟩
  · refine ⟨none, 0, by rw [hn], by omega, by omega, fun j x hj => ?_⟩
    have := (List.getElem?_eq_some_iff.1 hj).1
    omega
  · refine ⟨_, cap, rfl, hc, hm, fun j x hj => ⟨g, off, rfl, (Array.getElem?_eq_some_iff.1 hgg).1, ?_⟩⟩
    have hcl := h.cells rfl
    have key : ∀ k u, k < 5 → x.cells.toList[k]? = some u → w.cell? ⟨g, off + j * 5 + k, none⟩ = some u := fun k u hk hu => by
      rw [Nat.add_assoc]
      exact hcl _ _ (by rw [flatW_at l j x k hj hk]; exact hu)
    exact ⟨key 0 _ (by omega) rfl, key 1 _ (by omega) rfl, key 2 _ (by omega) rfl, key 3 _ (by omega) rfl, key 4 _ (by omega) rfl⟩

set_option maxRecDepth 100000 in
set_option maxHeartbeats 1000000 in
theorem takes_at (v : Value) (bs : List UInt8) (i : Int) (s : ByteArray) (w : World) (ht : Tabs w) (hv : RdB w.heap.size w v bs) (hs : s.size ≤ 9223372036854775807) :
    Calls Tryd.prog 3 #[v, .int .i64 i, .string s] w fun e w' => e = .returned (.bool true) ∧ Below w.heap.size w w' := by
  have HT := Lib.hid ht
  have HV := Lib.hid hv
  have hvs : ∃ a cap, v = .slice a bs.length cap ∧ bs.length ≤ 9223372036854775807 := by
    rcases hv with ⟨rfl, rfl⟩ | ⟨g, off, cap, rfl, _, h1, h2, _⟩
    · exact ⟨_, _, rfl, Nat.zero_le _⟩
    · exact ⟨_, _, rfl, by unfold maxLen at h2; omega⟩
  obtain ⟨a, cap, hva, hbl⟩ := hvs
  subst hva
  clear hv ht
  by_cases hg : bs.length > 2000 ∨ s.size > 2000
  · by_cases h1 : bs.length > 2000
    · go_enter Tryd.func3, Tryd.ntmps3
      go_wp2_with fail
      refine (works23 _ HT.out).mono ?_
      rintro e w1 ⟨rfl, hb1⟩
      go_wp2_with fail
      go_ret
      exact ⟨rfl, hb1⟩
    · have h2 : s.size > 2000 := by omega
      go_enter Tryd.func3, Tryd.ntmps3
      go_wp2_with fail
      refine (works23 _ HT.out).mono ?_
      rintro e w1 ⟨rfl, hb1⟩
      go_wp2_with fail
      go_ret
      exact ⟨rfl, hb1⟩
  · have h1 : ¬ bs.length > 2000 := by omega
    have h2 : ¬ s.size > 2000 := by omega
    have hbl2 : bs.length ≤ 1099511627 := by omega
    clear hg
    have HG := Lib.hid (gTake w.heap.size _ bs i w HT.out HV.out (Nat.le_refl _))
    have HRT := Lib.hid (fun W (hb : Below w.heap.size w W) => rfTake w.heap.size _ bs i W (HV.out.below hb) hb.size hbl2)
    have HA := Lib.hid (fun W (hb : Below w.heap.size w W) => gAll w.heap.size _ bs W (HT.out.below hb) (HV.out.below hb) hb.size hbl2)
    have HRA := Lib.hid (fun W (hb : Below w.heap.size w W) => rfAll w.heap.size _ bs W (HV.out.below hb) hb.size hbl2)
    have HRS := Lib.hid (fun W (hb : Below w.heap.size w W) => reserved s W (HT.out.below hb))
    have HRR := Lib.hid (fun W => rReserved s W)
    have hall : ∃ r, allS bs = r := ⟨_, rfl⟩
    generalize takeS bs i = r at *
    generalize allS bs = la at *
    generalize reservedS s.data.toList = rs at *
    obtain ⟨⟨k1, t1, n1, a1, x1⟩, er⟩ := r
    obtain ⟨ws, ea⟩ := la
    go_enter Tryd.func3, Tryd.ntmps3
    go_wp2_with fail
    refine HG.out.mono ?_
    rintro e w1 ⟨rfl, hb1⟩
    simp only [WordS.cells]
    go_wp2_with fail
    obtain ⟨wA, hwA⟩ : ∃ wA, wA = w1.alloc (Obj.cells #[.int .i64 (k1 : Int), .string ⟨t1.toArray⟩, .int .u64 (n1 : Int), .int .i64 (a1 : Int), .int .i64 (x1 : Int)] 26) := ⟨_, rfl⟩
    rw [← hwA]
    have hb2 : Below w.heap.size w wA := by rw [hwA]; exact hb1.alloc hb1.size _
    have hA := fun W hb => five_at w1 W 26 (.int .i64 (k1 : Int)) (.string ⟨t1.toArray⟩) (.int .u64 (n1 : Int)) (.int .i64 (a1 : Int)) (.int .i64 (x1 : Int)) hb
    rw [← hwA] at hA
    have HCA := Lib.hid hA
    have HWA := Lib.hid hwA
    clear hA hwA
    refine (HRT.out _ hb2).mono ?_
    rintro e w2 ⟨rfl, hb3⟩
    simp only [WordS.cells]
    go_wp2_with fail
    obtain ⟨wB, hwB⟩ : ∃ wB, wB = w2.alloc (Obj.cells #[.int .i64 (k1 : Int), .string ⟨t1.toArray⟩, .int .u64 (n1 : Int), .int .i64 (a1 : Int), .int .i64 (x1 : Int)] 30) := ⟨_, rfl⟩
    rw [← hwB]
    have hAB : Below wA.heap.size wA wB := by rw [hwB]; exact hb3.alloc hb3.size _
    have hb4 := hb2.trans (hAB.mono hb2.size)
    have hB := fun W hb => five_at w2 W 30 (.int .i64 (k1 : Int)) (.string ⟨t1.toArray⟩) (.int .u64 (n1 : Int)) (.int .i64 (a1 : Int)) (.int .i64 (x1 : Int)) hb
    rw [← hwB] at hB
    have HCB := Lib.hid hB
    clear hB hwB hb3
    refine (HA.out _ hb4).mono ?_
    rintro e w3 ⟨v1, rfl, ho1, hb5⟩
    have hb6 := hb4.trans (hb5.mono hb4.size)
    go_wp2_with fail
    refine (HRA.out _ hb6).mono ?_
    rintro e w4 ⟨v2, rfl, ho2, hb7⟩
    have hB4 := hb5.trans (hb7.mono hb5.size)
    have hb8 := hb6.trans (hb7.mono hb6.size)
    obtain ⟨ca0, ca1, ca2, ca3, ca4⟩ := HCA.out w4 (hAB.trans (hB4.mono hAB.size))
    obtain ⟨cb0, cb1, cb2, cb3, cb4⟩ := HCB.out w4 hB4
    obtain ⟨o1, c1, rfl, hc1, hm1, hw1⟩ := words_open (ho1.below hb7)
    obtain ⟨o2, c2, rfl, hc2, hm2, hw2⟩ := words_open ho2
    have HW1 := Lib.hid hw1
    have HW2 := Lib.hid hw2
    clear ho1 ho2 hw1 hw2
    have ett : (t1 == t1) = true := beq_self_eq_true _
    simp only at hm1 hm2 hc1 hc2
    go_wp2_with fail
    refine (HRS.out w4 hb8).mono ?_
    rintro e w5 ⟨rfl, rfl⟩
    go_wp2_with fail
    refine (HRR.out w4).mono ?_
    rintro e w5 ⟨rfl, rfl⟩
    cases rs
    all_goals
      clear ca0 ca1 ca2 ca3 ca4 cb0 cb1 cb2 cb3 cb4
      go_wp2_with fail
      go_loopw [76] (fun i wr => ∃ j : Nat, i = .int .i64 j ∧ j ≤ ws.length ∧ Below w4.heap.size w4 wr) (fun i _ => (ws.length - intOf i).toNat)
      case atStart => exact ⟨0, rfl, Nat.zero_le _, Below.refl _ _⟩
      case round =>
        obtain ⟨j, rfl, hj, hbr⟩ := hrel
        by_cases hlt : j < ws.length
        · obtain ⟨x, hx⟩ : ∃ x, ws[j]? = some x := ⟨_, List.getElem?_eq_getElem hlt⟩
          obtain ⟨g1, f1, rfl, l1, p0, p1, p2, p3, p4⟩ := HW1.out j x hx
          obtain ⟨g2, f2, rfl, l2, q0, q1, q2, q3, q4⟩ := HW2.out j x hx
          obtain ⟨xk, xt, xn, xa, xx⟩ := x
          simp only at p0 p1 p2 p3 p4 q0 q1 q2 q3 q4
          have key1 : ∀ k : Nat, w4.cell? ⟨g1, k, none⟩ = wr.cell? ⟨g1, k, none⟩ := fun k => (hbr.cell (p := ⟨g1, k, none⟩) l1).symm
          have key2 : ∀ k : Nat, w4.cell? ⟨g2, k, none⟩ = wr.cell? ⟨g2, k, none⟩ := fun k => (hbr.cell (p := ⟨g2, k, none⟩) l2).symm
          rw [key1] at p0 p1 p2 p3 p4
          rw [key2] at q0 q1 q2 q3 q4
          clear key1 key2
          have exx : (xt == xt) = true := beq_self_eq_true _
          clear hx HG HRT HA HRA HCA HCB HRS HRR HW1 HW2
          go_wp2_with fail
          go_region
          go_wp2_with fail
          go_roundw
          case rel => exact ⟨j + 1, by go_num, by omega, hbr.drew⟩
          case measure => simp [intOf]; omega
        · obtain rfl : j = ws.length := by omega
          go_wp2_with fail
          have hb9 := hb8.trans (hbr.mono hb8.size)
          refine (works23 _ (HT.out.below hb9)).mono ?_
          rintro e w5 ⟨rfl, hb10⟩
          go_wp2_with fail
          go_ret
          exact ⟨rfl, hb9.trans (hb10.mono hb9.size)⟩
end Go.Proofs.YtaelanpmgckfkaaRRRRDoor
