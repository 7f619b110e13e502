/- GoastIdents: plain, and walked. -/
import Derived.Test.YtaelanpmgckfkaaRRRRDoorWorks24
import Derived.Test.YtaelanpmgckfkaaRRRRDoorWhitePlain
import Derived.Test.YtaelanpmgckfkaaRRRRDoorWordsOpen
namespace Go.Proofs.YtaelanpmgckfkaaRRRRDoor
open Go.RowKit Go.Av

/-- Is all of a text one word, a name that is no key, of at most 300 bytes? -/
def oneW (s : List UInt8) : List WordS → Bool
  | [x] => decide (x.kind = 1) && (x.text == s) && decide (s.length ≤ 300)
  | _ => false
theorem all_at_end (bs : List UInt8) (f : Nat) : allFrom bs f bs.length = ([], 0) := by
  cases f with
  | zero => rfl
  | succ f =>
    have h := takeS_wl bs bs.length (Nat.le_refl _)
    rw [List.drop_length, skipM_nil] at h
    unfold allFrom
    rw [h]
    rfl
theorem next_of (s : List UInt8) (h : (takeS s 0).2 = 0) (ht : (takeS s 0).1.text = s) : (takeS s 0).1.next = s.length := by
  have hw := takeS_wl s 0 (Nat.zero_le _)
  have hw0 : takeS s ((0 : Nat) : Int) = takeS s 0 := rfl
  rw [hw0] at hw
  rw [hw] at h ht ⊢
  have hdw := drop_white s 0 (Nat.zero_le _)
  cases hx : wl (skipM false (s.drop 0)) with
  | none => rw [hx] at h; cases h
  | some x =>
    rw [hx] at ht
    have hp := (wl_prefix hx).length_le
    rw [← hdw, List.length_drop] at hp
    have hl : x.2.1 = s := ht
    show whiteAt s 0 + x.2.1.length = s.length
    have := whiteAt_le s 0
    rw [hl] at hp ⊢
    omega
theorem ident_one (s : List UInt8) : identS s = (decide ((allS s).2 = 0) && oneW s (allS s).1) := by
  have hall : allS s = allFrom s (s.length + 1) 0 := rfl
  unfold identS
  have hn := next_of s
  rw [hall]
  unfold allFrom
  have hw0 : takeS s ((0 : Nat) : Int) = takeS s 0 := rfl
  rw [hw0]
  generalize takeS s 0 = r at *
  by_cases h1 : r.2 = 0
  · rw [if_neg (by rw [h1]; decide)]
    by_cases h2 : r.1.kind = 0
    · rw [if_pos h2, h2]
      simp [oneW]
    · rw [if_neg h2]
      by_cases ht : r.1.text = s
      · have hnx := hn h1 ht
        rw [hnx, all_at_end]
        rw [if_neg (by decide)]
        simp only [oneW, h1]
        cases decide (s.length ≤ 300) <;> cases decide (r.1.kind = 1) <;> cases (r.1.text == s) <;> rfl
      · have htb : (r.1.text == s) = false := beq_eq_false_iff_ne.2 ht
        rw [htb, Bool.and_false]
        by_cases h3 : (allFrom s s.length r.1.next).2 = 0
        · rw [if_neg (by rw [h3]; decide)]
          cases hr : (allFrom s s.length r.1.next).1 with
          | nil => simp [oneW, htb]
          | cons y l => simp [oneW]
        · rw [if_pos h3]
          simp [oneW]
  · rw [if_pos h1, decide_eq_false h1]
    simp [oneW]
theorem ident_rank (s : List UInt8) (h : identS s = true) : rankS s = 0 := by
  have hk : ∀ x ∈ rankT, identS x.1 = false := by
    intro x hx
    simp only [rankT, List.mem_cons, List.not_mem_nil, or_false] at hx
    rcases hx with rfl | rfl | rfl | rfl | rfl | rfl | rfl | rfl | rfl | rfl | rfl | rfl | rfl | rfl | rfl | rfl | rfl | rfl
    all_goals
      show identS _ = false
      kernel_rfl
  unfold rankS
  rw [List.find?_eq_none.2 (fun x hx hb => by
    have e : x.1 = s := by simpa using hb
    have := hk x hx
    rw [e, h] at this
    cases this)]
  rfl
theorem name_expr (s : List UInt8) : (exS (.mk 1 s 0 tNil [] []) 0 0).1 = identS s := by
  unfold exS
  rw [if_neg (by decide), if_neg (by decide)]
  have hb : bareS (.mk 1 s 0 tNil [] []) 0 (0 + 1) = (identS s, 1) := by
    show ((identS s && !false && !false && !false && !false), (1 : Int)) = _
    cases identS s <;> rfl
  rw [hb]
  cases identS s
  · rfl
  · rw [if_neg (by decide)]
    unfold exsS
    rfl
def truE : Int × List UInt8 × Int := (3, [], 0)
theorem sign_expr (s : List UInt8) : (exS (.mk 6 s 0 tNil [] ([truE, truE].map leafE)) 0 0).1 = decide (0 < rankS s) := by
  unfold exS
  rw [if_neg (by decide), if_neg (by decide)]
  have hb : bareS (.mk 6 s 0 tNil [] ([truE, truE].map leafE)) 0 (0 + 1) = (decide (0 < rankS s), 1) := by
    show ((decide (0 < rankS s) && !false && !false && !false && !false), (1 : Int)) = _
    cases decide (0 < rankS s) <;> rfl
  rw [hb]
  cases decide (0 < rankS s)
  · rfl
  · rw [if_neg (by decide)]
    have h : (exsS ([truE, truE].map leafE) 1 1).1 = true := by kernel_rfl
    exact h

set_option maxRecDepth 100000 in
set_option maxHeartbeats 1000000 in
theorem idents_walk (s : List UInt8) (w : World) (ht : Tabs w) (h2 : 2 ≤ w.heap.size) (hs : s.length ≤ 9223372036854775807) :
    Calls Tryd.prog 9 #[.string ⟨s.toArray⟩] w fun e w' => e = .returned (.bool true) ∧ Below w.heap.size w w' := by
  have hsz : (ByteArray.mk s.toArray).size = s.length := by simp [ByteArray.size]
  have HT := Lib.hid ht
  by_cases h1 : s.length ≤ 1000
  · have HBY := Lib.hid (fun W => bytes_anew s W (by omega))
    have HIW := Lib.hid (ident_one s)
    go_enter Tryd.func9, Tryd.ntmps9
    go_wp2_with fail
    refine (works24 _ HT.out h2).mono ?_
    rintro e w1 ⟨rfl, hb1⟩
    obtain ⟨cap, wb, kc, hbb, hws, hge, hle, hcc⟩ := HBY.out w1
    have hb2 := hb1.trans (hbb.mono hb1.size)
    have HG := Lib.hid (gAll (w1.heap.size + 1) (.slice (some ⟨w1.heap.size, 0, none⟩) s.length cap) s wb (HT.out.below hb2) (.inr ⟨_, 0, cap, rfl, by omega, hge, hle, hcc⟩) (by omega) (by omega))
    clear hcc
    go_wp2_with fail
    refine HG.out.mono ?_
    rintro e w2 ⟨v2, rfl, ho2, hb3⟩
    have hb4 := hb2.trans (hb3.mono hb2.size)
    obtain ⟨o2, c2, rfl, hc2, hm2, hw2⟩ := words_open2 ho2
    have hio := HIW.out
    generalize allS s = r at *
    obtain ⟨ws, ea⟩ := r
    simp only at hc2 hm2 hw2 hio
    have HW2 := Lib.hid hw2
    have HIO := Lib.hid hio
    clear ho2 hw2 hio HIW
    go_upto_region 6 with fail
    go_cut [5] from 18 (fun s5 wx => s5 = .bool (identS s) ∧ w2 = wx)
    case first =>
      by_cases hea : ea = 0
      · subst hea
        match ws, HW2, HIO with
        | [], HW2, HIO =>
          have HF : Hid (identS s = false) := HIO.out
          go_wp2_with fail
          go_meet
          exact ⟨by rw [HF.out], rfl⟩
        | x :: y :: l, HW2, HIO =>
          have HF : Hid (identS s = false) := HIO.out
          have hll : ((((x :: y :: l).length : Nat) : Int) == 1) = false := beq_eq_false_iff_ne.2 (by simp only [List.length_cons]; omega)
          generalize (x :: y :: l).length = n at *
          go_wp2_with fail
          go_meet
          exact ⟨by rw [HF.out], rfl⟩
        | [⟨xk, xt, xn, xa, xx⟩], HW2, HIO =>
          obtain ⟨g3, f3, rfl, l3, q0, q1, _, _, _⟩ := HW2.out 0 _ rfl
          simp only [Nat.zero_mul, Nat.add_zero] at q0 q1
          have HF : Hid (identS s = (decide (xk = 1) && (xt == s) && decide (s.length ≤ 300))) := HIO.out
          by_cases hxk : xk = 1
          · subst hxk
            cases hxt : (xt == s)
            · have HF2 : Hid (identS s = false) := by unfold Hid; rw [HF.out, hxt]; rfl
              go_wp2_with fail
              go_meet
              exact ⟨by rw [HF2.out], rfl⟩
            · by_cases h3 : s.length ≤ 300
              · have HF2 : Hid (identS s = true) := by unfold Hid; rw [HF.out, hxt, decide_eq_true h3]; rfl
                go_wp2_with fail
                go_meet
                exact ⟨by rw [HF2.out]; congr 1; exact decide_eq_true (by omega), rfl⟩
              · have HF2 : Hid (identS s = false) := by unfold Hid; rw [HF.out, decide_eq_false h3, Bool.and_false]
                go_wp2_with fail
                go_meet
                exact ⟨by rw [HF2.out]; congr 1; exact decide_eq_false (by omega), rfl⟩
          · have hxk' : ((xk : Int) == 1) = false := beq_eq_false_iff_ne.2 (by omega)
            have HF2 : Hid (identS s = false) := by unfold Hid; rw [HF.out, decide_eq_false hxk]; rfl
            go_wp2_with fail
            go_meet
            exact ⟨by rw [HF2.out], rfl⟩
      · have hea' : ((ea : Int) == 0) = false := beq_eq_false_iff_ne.2 (by omega)
        have HF : Hid (identS s = false) := by unfold Hid; rw [HIO.out, decide_eq_false hea]; rfl
        go_wp2_with fail
        go_meet
        exact ⟨by rw [HF.out], rfl⟩
    case rest =>
      obtain ⟨rfl, rfl⟩ := hcut
      clear HG HW2 HIO HBY kc
      have HI := Lib.hid (fun W ht => gIdent s W ht hs)
      have HEX := Lib.hid (fun W (hb : Below w.heap.size w W) => goExpr w.heap.size w (leafE (1, s, 0)) _ _ _ (rd_leaf w.heap.size w (1, s, 0) hs (show 0 ≤ (0 : Int) ∧ (0 : Int) ≤ 18446744073709551615 by decide)) W h2 hb hb.size (HT.out.below hb))
      have hne : (exS (leafE (1, s, 0)) 0 0).1 = identS s := name_expr s
      rw [hne] at HEX
      have HSG := Lib.hid (sign_expr s)
      have HRK := Lib.hid (fun W => rank_at s W)
      have HIR := Lib.hid (ident_rank s)
      have hE8 := fun W key => eight_at w2 W 56 (.int .i64 3) (.string ⟨#[]⟩) (.int .u64 0) (.int .i64 0) (.string ⟨#[]⟩) nilV nilV nilV key
      have HE8 := Lib.hid hE8
      clear hE8 hne
      generalize identS s = b at *
      go_wp2_with fail
      obtain ⟨wx, hwx⟩ : ∃ wx, wx = w2.alloc (Obj.cells #[.int .i64 3, .string ⟨#[]⟩, .int .u64 0, .int .i64 0, .string ⟨#[]⟩, nilV, nilV, nilV] 56) := ⟨_, rfl⟩
      rw [← hwx]
      have hb5 : Below w.heap.size w wx := by rw [hwx]; exact hb4.alloc hb4.size _
      have HWX := Lib.hid hwx
      clear hwx
      refine (HI.out wx (HT.out.below hb5)).mono ?_
      rintro e w3 ⟨rfl, hb6⟩
      have hb7 := hb5.trans (hb6.mono hb5.size)
      have hbb : (b == b) = true := beq_self_eq_true _
      go_wp2_with fail
      refine (HEX.out w3 hb7).mono ?_
      rintro e w4 ⟨rfl, hb8⟩
      have hb9 := hb7.trans (hb8.mono hb7.size)
      have hx4 : Below wx.heap.size wx w4 := hb6.trans (hb8.mono hb6.size)
      obtain ⟨x0, x1, x2, x3, x4, x5, x6, x7⟩ := HE8.out w4 (key_below w2 w4 _ (by rw [HWX.out] at hx4; exact hx4))
      go_wp2_with fail
      obtain ⟨wk, hwk⟩ : ∃ wk, wk = w4.alloc (Obj.cells #[Value.int .i64 3, .string ⟨#[]⟩, .int .u64 0, .int .i64 0, .string ⟨#[]⟩, nilV, nilV, nilV, .int .i64 3, .string ⟨#[]⟩, .int .u64 0, .int .i64 0, .string ⟨#[]⟩, nilV, nilV, nilV] 56) := ⟨_, rfl⟩
      rw [← hwk]
      have hsk : wk.heap.size = w4.heap.size + 1 := by rw [hwk, World.size_alloc]
      have hb10 : Below w.heap.size w wk := by rw [hwk]; exact hb9.alloc hb9.size _
      have hcell : ∀ q : Nat, wk.cell? ⟨w4.heap.size, q, none⟩ = (#[Value.int .i64 3, .string ⟨#[]⟩, .int .u64 0, .int .i64 0, .string ⟨#[]⟩, nilV, nilV, nilV, .int .i64 3, .string ⟨#[]⟩, .int .u64 0, .int .i64 0, .string ⟨#[]⟩, nilV, nilV, nilV])[q]? := by
        intro q
        rw [hwk]
        simp only [World.cell?, World.alloc, Array.getElem?_push_size]
        rfl
      have hx : RdEx wk.heap.size wk (.mk 6 s 0 tNil [] ([truE, truE].map leafE)) nilV nilV (.slice (some ⟨w4.heap.size, 0, none⟩) 2 2) := by
        refine rd_leaves wk.heap.size wk (6, s, 0) [truE, truE] w4.heap.size 0 2 (by omega) (Nat.le_refl _) (by omega) hs (show 0 ≤ (0 : Int) ∧ (0 : Int) ≤ 18446744073709551615 by decide) (by decide) ?_
        intro j hj q hq
        rw [hcell]
        have hj2 : j = 0 ∨ j = 1 := by have : j < 2 := hj; omega
        have hq2 : q = 0 ∨ q = 1 ∨ q = 2 ∨ q = 3 ∨ q = 4 ∨ q = 5 ∨ q = 6 ∨ q = 7 := by omega
        rcases hj2 with rfl | rfl <;> rcases hq2 with rfl | rfl | rfl | rfl | rfl | rfl | rfl | rfl <;> rfl
      have hgo := goExpr wk.heap.size wk _ _ _ _ hx wk (by have := hb10.size; omega) (Below.refl _ _) (Nat.le_refl _) (HT.out.below hb10)
      rw [HSG.out] at hgo
      have HGO := Lib.hid hgo
      clear hwk hcell hx hgo hsk x0 x1 x2 x3 x4 x5 x6 x7
      refine HGO.out.mono ?_
      rintro e w5 ⟨rfl, hb11⟩
      have hb12 := hb10.trans (hb11.mono hb10.size)
      have hdd : (decide (0 < rankS s) == decide (rankS s > 0)) = true := beq_self_eq_true _
      generalize rankS s = rk at *
      go_wp2_with fail
      refine (HRK.out w5).mono ?_
      rintro e w6 ⟨rfl, rfl⟩
      cases b
      · go_wp2_with fail
        go_ret
        exact ⟨rfl, hb12⟩
      · obtain rfl : rk = 0 := HIR.out rfl
        go_wp2_with fail
        refine (HRK.out w5).mono ?_
        rintro e w6 ⟨rfl, rfl⟩
        go_wp2_with fail
        go_ret
        exact ⟨rfl, hb12⟩
  · clear ht
    go_enter Tryd.func9, Tryd.ntmps9
    go_wp2_with fail
    refine (works24 _ HT.out h2).mono ?_
    rintro e w1 ⟨rfl, hb1⟩
    go_wp2_with fail
    go_ret
    exact ⟨rfl, hb1⟩
theorem idents_at (s : ByteArray) (w : World) (ht : Tabs w) (hs : s.size ≤ 9223372036854775807) :
    Calls Tryd.prog 9 #[.string s] w fun e w' => e = .returned (.bool true) ∧ Below w.heap.size w w' := by
  have h2 : 2 ≤ w.heap.size := by
    have := ht.size
    omega
  have h := idents_walk s.data.toList w ht h2 (by rw [Array.length_toList]; exact hs)
  have e : s = ⟨s.data.toList.toArray⟩ := by
    apply ByteArray.ext
    simp
  rw [← e] at h
  exact h
end Go.Proofs.YtaelanpmgckfkaaRRRRDoor
