/- slices.Contains, bytes.HasPrefix at bytes; golex.white. -/
import Derived.Test.YtaelanpmgckfkaaRRRRDoorLex
namespace Go.Proofs.YtaelanpmgckfkaaRRRRDoor
open Go.RowKit Go.Av

theorem indexByte_nil (x : UInt8) : Lib.indexByte [] x = -1 := rfl
theorem indexByte_cons (c x : UInt8) (r : List UInt8) : Lib.indexByte (c :: r) x = if c == x then 0 else if Lib.indexByte r x == -1 then -1 else Lib.indexByte r x + 1 := rfl
/-- The place from k on. -/
def idxAt (bs : List UInt8) (x : UInt8) (k : Nat) : Int := if Lib.indexByte (bs.drop k) x == -1 then -1 else Lib.indexByte (bs.drop k) x + k
theorem idxAt_zero (bs : List UInt8) (x : UInt8) : idxAt bs x 0 = Lib.indexByte bs x := by
  unfold idxAt
  rw [List.drop_zero]
  split
  · rename_i h; exact (eq_of_beq h).symm
  · simp
theorem idxAt_hit (bs : List UInt8) (x c : UInt8) (k : Nat) (h : bs[k]? = some c) (hc : c = x) : idxAt bs x k = k := by
  subst hc
  unfold idxAt
  rw [drop_cons_of h, indexByte_cons]
  simp
theorem idxAt_next (bs : List UInt8) (x c : UInt8) (k : Nat) (h : bs[k]? = some c) (hc : ¬ c = x) : idxAt bs x k = idxAt bs x (k + 1) := by
  unfold idxAt
  rw [drop_cons_of h, indexByte_cons]
  have h0 := (Lib.indexByte_ge (bs.drop (k + 1)) x)
  have hcx : (c == x) = false := by simpa using hc
  rw [hcx]
  simp only [Bool.false_eq_true, if_false]
  by_cases h1 : Lib.indexByte (bs.drop (k + 1)) x = -1
  · rw [h1]; rfl
  · have e1 : (Lib.indexByte (bs.drop (k + 1)) x == -1) = false := by simpa using h1
    have e2 : (Lib.indexByte (bs.drop (k + 1)) x + 1 == -1) = false := by rw [beq_eq_false_iff_ne]; omega
    rw [e1]
    simp only [Bool.false_eq_true, if_false]
    rw [e2]
    simp only [Bool.false_eq_true, if_false]
    omega
theorem idxAt_end (bs : List UInt8) (x : UInt8) (k : Nat) (h : bs.length ≤ k) : idxAt bs x k = -1 := by
  unfold idxAt
  rw [List.drop_eq_nil_of_le h]
  rfl

set_option maxRecDepth 100000 in
set_option maxHeartbeats 400000 in
theorem index_bytes (g off cap : Nat) (bs : List UInt8) (x : UInt8) (w : World) (hc : ∀ j u, (bv bs)[j]? = some u → w.cell? ⟨g, off + j, none⟩ = some u) (hn : bs.length ≤ 9223372036854775807) :
    Calls Tryd.prog 85 #[.slice (some ⟨g, off, none⟩) bs.length cap, .int .u8 (x.toNat : Int)] w fun e w' => e = .returned (.int .i64 (Lib.indexByte bs x)) ∧ w = w' := by
  have hi : ∀ k : Nat, k < bs.length → ∃ a, bs[k]? = some a ∧ w.cell? ⟨g, off + k, none⟩ = some (.int .u8 (a.toNat : Int)) := by
    intro k hk
    exact ⟨bs[k], List.getElem?_eq_getElem hk, hc k _ (bv_at (List.getElem?_eq_getElem hk))⟩
  have HI := Lib.hid hi
  clear hi hc
  go_enter Tryd.func85, Tryd.ntmps85
  go_wp2_with fail
  go_loop [8] (fun i => ∃ k : Nat, i = .int .i64 k ∧ k ≤ bs.length ∧ Hid (Lib.indexByte bs x = idxAt bs x k)) (fun i => (bs.length - intOf i).toNat)
  case atStart => exact ⟨0, rfl, by omega, Lib.hid (by rw [idxAt_zero])⟩
  case round =>
    obtain ⟨k, rfl, hk, HR⟩ := hrel
    by_cases hlt : k < bs.length
    · obtain ⟨a, ha, hcell⟩ := HI.out k hlt
      have HA := Lib.hid ha
      clear ha
      by_cases hax : a = x
      · have e : ((x.toNat : Int) == (a.toNat : Int)) = true := by rw [hax]; simp
        have HX := Lib.hid hax
        clear hax
        go_wp2_with fail
        go_ret
        exact ⟨by rw [HR.out, idxAt_hit bs x a k HA.out HX.out]; rfl, rfl⟩
      · have e : ((x.toNat : Int) == (a.toNat : Int)) = false := by
          rw [beq_eq_false_iff_ne]
          intro h
          apply hax
          apply UInt8.toNat_inj.1
          omega
        have HX := Lib.hid hax
        clear hax
        go_wp2_with fail
        go_round
        case rel => exact ⟨k + 1, by go_num, by omega, Lib.hid (by rw [HR.out, idxAt_next bs x a k HA.out HX.out])⟩
        case measure => simp [intOf]; omega
    · have hlt' : ¬ (k : Int) < bs.length := by omega
      go_wp2_with fail
      go_ret
      exact ⟨by rw [HR.out, idxAt_end bs x k (by omega)]; rfl, rfl⟩

set_option maxRecDepth 100000 in
set_option maxHeartbeats 400000 in
theorem contains_bytes (g off cap : Nat) (bs : List UInt8) (x : UInt8) (w : World) (hc : ∀ j u, (bv bs)[j]? = some u → w.cell? ⟨g, off + j, none⟩ = some u) (hn : bs.length ≤ 9223372036854775807) :
    Calls Tryd.prog 69 #[.slice (some ⟨g, off, none⟩) bs.length cap, .int .u8 (x.toNat : Int)] w fun e w' => e = .returned (.bool (decide (0 ≤ Lib.indexByte bs x))) ∧ w = w' := by
  have h := index_bytes g off cap bs x w hc hn
  generalize Lib.indexByte bs x = r at h ⊢
  have H := Lib.hid h
  clear h hc
  go_enter Tryd.func69, Tryd.ntmps69
  go_wp2_with fail
  refine H.out.mono ?_
  rintro e w1 ⟨rfl, rfl⟩
  go_wp2_with fail
  go_ret
  exact ⟨rfl, rfl⟩

/-- The four white bytes. -/
theorem white_four (x : UInt8) : decide (0 ≤ Lib.indexByte [32, 9, 10, 13] x) = whiteB x := by
  have hx : ∀ n : Nat, n < 256 → decide (0 ≤ Lib.indexByte [32, 9, 10, 13] (UInt8.ofNat n)) = whiteB (UInt8.ofNat n) := by decide +kernel
  have := hx x.toNat x.toNat_lt
  simpa using this

set_option maxRecDepth 100000 in
set_option maxHeartbeats 400000 in
theorem bytes_equal (v1 v2 : Value) (l1 l2 : List UInt8) (w : World) (h1 : (convert 22 9 v1).run Tryd.prog w = .ok (.string ⟨l1.toArray⟩) w) (h2 : (convert 22 9 v2).run Tryd.prog w = .ok (.string ⟨l2.toArray⟩) w) :
    Calls Tryd.prog 70 #[v1, v2] w fun e w' => e = .returned (.bool (l1 == l2)) ∧ w = w' := by
  go_enter Tryd.func70, Tryd.ntmps70
  go_wp2_with fail
  go_ret
  exact ⟨by simp, rfl⟩

theorem conv_cells (g off cap n : Nat) (bs : List UInt8) (w : World) (hlen : bs.length = n) (hc : ∀ j u, (bv bs)[j]? = some u → w.cell? ⟨g, off + j, none⟩ = some u) :
    (convert 22 9 (.slice (some ⟨g, off, none⟩) n cap)).run Tryd.prog w = .ok (.string ⟨bs.toArray⟩) w :=
  run_string_of (P := Tryd.prog) 22 5 9 Tryd.underlying22 Tryd.underlying5 Tryd.underlying9 g off cap n bs hlen hc

theorem take_beq (l p : List UInt8) : (l.take p.length == p) = hasPre l p := by
  unfold hasPre
  rw [Bool.eq_iff_iff, beq_iff_eq, List.isPrefixOf_iff_prefix, List.prefix_iff_eq_take]
  exact eq_comm

set_option maxRecDepth 100000 in
set_option maxHeartbeats 400000 in
theorem bytes_HasPrefix (g off n cap g2 off2 cap2 : Nat) (l p : List UInt8) (w : World) (hl : l.length = n) (hcap : n ≤ cap) (_hmax : n ≤ 9223372036854775807) (hp1 : 1 ≤ p.length) (hp2 : p.length ≤ 9223372036854775807)
    (hc : ∀ j u, (bv l)[j]? = some u → w.cell? ⟨g, off + j, none⟩ = some u) (hc2 : ∀ j u, (bv p)[j]? = some u → w.cell? ⟨g2, off2 + j, none⟩ = some u) :
    Calls Tryd.prog 47 #[.slice (some ⟨g, off, none⟩) n cap, .slice (some ⟨g2, off2, none⟩) p.length cap2] w fun e w' => e = .returned (.bool (hasPre l p)) ∧ w = w' := by
  by_cases h : p.length ≤ n
  · have k1 := conv_cells g off cap p.length (l.take p.length) w (by rw [List.length_take]; omega) (cells_take hc _)
    have k2 := conv_cells g2 off2 cap2 p.length p w rfl hc2
    have he := bytes_equal _ _ _ _ w k1 k2
    rw [take_beq] at he
    generalize hasPre l p = r at he ⊢
    have HE := Lib.hid he
    clear he k1 k2 hc hc2 hl
    have h' : (p.length : Int) ≤ n := by omega
    go_enter Tryd.func47, Tryd.ntmps47
    go_wp2_with fail
    refine HE.out.mono ?_
    rintro e w1 ⟨rfl, rfl⟩
    go_wp2_with fail
    go_ret
    exact ⟨rfl, rfl⟩
  · have e : hasPre l p = false := by
      unfold hasPre
      rw [Bool.eq_false_iff]
      intro e
      have := (List.isPrefixOf_iff_prefix.1 e).length_le
      omega
    rw [e]
    clear e hc hc2 hl
    have h' : ¬ (p.length : Int) ≤ n := by omega
    go_enter Tryd.func47, Tryd.ntmps47
    go_wp2_with fail
    go_ret
    exact ⟨rfl, rfl⟩

theorem pre_slash (l : List UInt8) (c : UInt8) (r : List UInt8) (h : l = c :: r) : hasPre l [47, 47] = true ↔ (c.toNat = 47 ∧ r.head? = some 47) := by
  subst h
  unfold hasPre
  rw [List.isPrefixOf_iff_prefix]
  constructor
  · rintro ⟨t, ht⟩
    simp at ht
    obtain ⟨rfl, rfl⟩ := ht
    exact ⟨rfl, rfl⟩
  · rintro ⟨h1, h2⟩
    have hc : c = 47 := UInt8.toNat_inj.1 h1
    subst hc
    cases r with
    | nil => simp at h2
    | cons d t => simp at h2; subst h2; exact ⟨t, rfl⟩

theorem white_nil (w : World) : Calls Tryd.prog 41 #[.slice none 0 0, .int .i64 0] w fun e w' => e = .returned (.int .i64 0) ∧ w = w' := by
  go_enter Tryd.func41, Tryd.ntmps41
  go_wp2_with fail
  refine wp_loop_rounds 1 ?_
  rw [rounds_succ]
  go_wp2_with fail
  go_ret
  exact ⟨rfl, rfl⟩

theorem alloc_cell (w : World) (o : Obj) (a : Addr) (h : a.block < w.heap.size) : (w.alloc o).cell? a = w.cell? a := World.cell?_of_block (Below.heap_alloc w o a.block h)
theorem lit_cells (w : World) (bs : List UInt8) (e : TypeId) : ∀ j u, (bv bs)[j]? = some u → (w.alloc (.cells (bv bs).toArray e)).cell? ⟨w.heap.size, 0 + j, none⟩ = some u := news_lit w (bv bs) e

set_option maxRecDepth 100000 in
set_option maxHeartbeats 1000000 in
theorem white_cells (g off cap : Nat) (bs : List UInt8) (k0 : Nat) (w : World) (hg : g < w.heap.size) (hcap : bs.length ≤ cap) (hmax : bs.length ≤ 9223372036854775807) (hk0 : k0 ≤ bs.length)
    (hc : ∀ j u, (bv bs)[j]? = some u → w.cell? ⟨g, off + j, none⟩ = some u) :
    Calls Tryd.prog 41 #[.slice (some ⟨g, off, none⟩) bs.length cap, .int .i64 (k0 : Int)] w fun e w' => e = .returned (.int .i64 (whiteAt bs k0 : Int)) ∧ Below w.heap.size w w' := by
  have HC := Lib.hid hc
  clear hc
  go_enter Tryd.func41, Tryd.ntmps41
  go_wp2_with fail
  go_loopw [1] (fun i wr => ∃ k : Nat, i = .int .i64 k ∧ k ≤ bs.length ∧ Hid (skipM false (bs.drop k0) = skipM false (bs.drop k)) ∧ Below w.heap.size w wr) (fun i _ => (bs.length - intOf i).toNat)
  case atStart => exact ⟨k0, rfl, hk0, Lib.hid rfl, Below.refl _ _⟩
  case round =>
    obtain ⟨k, rfl, hk, HR, hb⟩ := hrel
    have hsz := hb.size
    by_cases hlt : k < bs.length
    · have hlt' : (k : Int) < bs.length := by omega
      obtain ⟨a, ha⟩ : ∃ a, bs[k]? = some a := ⟨bs[k], List.getElem?_eq_getElem hlt⟩
      have hcell : wr.cell? ⟨g, off + k, none⟩ = some (.int .u8 (a.toNat : Int)) := by rw [hb.cell (p := ⟨g, off + k, none⟩) hg]; exact HC.out k _ (bv_at ha)
      have hcap' : k < cap := by omega
      have hca : ∀ o : Obj, (wr.alloc o).cell? ⟨g, off + k, none⟩ = some (.int .u8 (a.toNat : Int)) := fun o => by rw [alloc_cell _ _ _ (show g < wr.heap.size by omega)]; exact hcell
      have HD := Lib.hid (drop_cons_of ha)
      have HA := Lib.hid ha
      clear ha
      have h4 := contains_bytes wr.heap.size 0 4 [32, 9, 10, 13] a (wr.alloc (.cells #[.int .u8 32, .int .u8 9, .int .u8 10, .int .u8 13] 5)) (lit_cells wr [32, 9, 10, 13] _) (by decide)
      rw [white_four] at h4
      by_cases hw : whiteB a = true
      · rw [hw] at h4
        have HW := Lib.hid hw
        clear hw
        go_wp2_with fail
        refine h4.mono ?_
        rintro e w1 ⟨rfl, rfl⟩
        go_wp2_with fail
        go_roundw
        case rel => exact ⟨k + 1, by go_num, by omega, Lib.hid (by rw [HR.out, HD.out, skip_white _ _ HW.out]), hb.alloc hsz _⟩
        case measure => simp [intOf]; omega
      · rw [Bool.not_eq_true] at hw
        rw [hw] at h4
        have HW := Lib.hid hw
        clear hw
        go_wp2_with fail
        refine h4.mono ?_
        rintro e w1 ⟨rfl, rfl⟩
        go_wp2_with fail
        have hcw : ∀ j u, (bv bs)[j]? = some u → wr.cell? ⟨g, off + j, none⟩ = some u := fun j u hu => by rw [hb.cell (p := ⟨g, off + j, none⟩) hg]; exact HC.out j u hu
        have hc2 : ∀ j u, (bv (bs.drop k))[j]? = some u → ((wr.alloc (.cells #[.int .u8 32, .int .u8 9, .int .u8 10, .int .u8 13] 5)).alloc (.cells #[.int .u8 47, .int .u8 47] 5)).cell? ⟨g, off + k + j, none⟩ = some u := by
          intro j u hu
          rw [alloc_cell _ _ _ (show g < (wr.alloc _).heap.size by simp; omega), alloc_cell _ _ _ (show g < wr.heap.size by omega)]
          exact cells_drop hcw k j u hu
        have hc3 : ∀ j u, (bv [47, 47])[j]? = some u → ((wr.alloc (.cells #[.int .u8 32, .int .u8 9, .int .u8 10, .int .u8 13] 5)).alloc (.cells #[.int .u8 47, .int .u8 47] 5)).cell? ⟨wr.heap.size + 1, 0 + j, none⟩ = some u := by
          have := lit_cells (wr.alloc (.cells #[.int .u8 32, .int .u8 9, .int .u8 10, .int .u8 13] 5)) [47, 47] 5
          rw [show (wr.alloc (.cells #[.int .u8 32, .int .u8 9, .int .u8 10, .int .u8 13] 5)).heap.size = wr.heap.size + 1 from by simp] at this
          exact this
        have hpre := bytes_HasPrefix g (off + k) (bs.length - k) (cap - k) (wr.heap.size + 1) 0 2 (bs.drop k) [47, 47] _ (by rw [List.length_drop]) (by omega) (by omega) (by decide) (by decide) hc2 hc3
        clear hc2 hc3
        have hbb := (hb.alloc hsz (.cells #[.int .u8 32, .int .u8 9, .int .u8 10, .int .u8 13] 5)).alloc (Nat.le_trans hsz (by simp)) (.cells #[.int .u8 47, .int .u8 47] 5)
        by_cases hs : hasPre (bs.drop k) [47, 47] = true
        · rw [hs] at hpre
          have hsl := (pre_slash _ _ _ HD.out).1 hs
          have HS := Lib.hid (skip_open a (bs.drop (k + 1)) hsl.1 hsl.2)
          have ha47 := hsl.1
          clear hs hsl
          refine hpre.mono ?_
          rintro e w1 ⟨rfl, rfl⟩
          have hcall : ∀ j u, (bv bs)[j]? = some u → ((wr.alloc (.cells #[.int .u8 32, .int .u8 9, .int .u8 10, .int .u8 13] 5)).alloc (.cells #[.int .u8 47, .int .u8 47] 5)).cell? ⟨g, off + j, none⟩ = some u := by
            intro j u hu
            rw [alloc_cell _ _ _ (show g < (wr.alloc _).heap.size by simp; omega), alloc_cell _ _ _ (show g < wr.heap.size by omega)]
            exact hcw j u hu
          have HCA := Lib.hid hcall
          have HAA := Lib.hid ha47
          clear hcall hcw hca hcell h4 hpre ha47
          generalize hw2 : (wr.alloc (.cells #[.int .u8 32, .int .u8 9, .int .u8 10, .int .u8 13] 5)).alloc (.cells #[.int .u8 47, .int .u8 47] 5) = w2 at HCA hbb ⊢
          clear hw2
          go_wp2_with fail
          go_loop [1] (fun i => ∃ m : Nat, i = .int .i64 m ∧ k ≤ m ∧ m ≤ bs.length ∧ Hid (skipM false (bs.drop k) = skipM true (bs.drop m))) (fun i => (bs.length - intOf i).toNat)
          case atStart => exact ⟨k, rfl, by omega, by omega, Lib.hid (by rw [HD.out, HS.out])⟩
          case round =>
            obtain ⟨m, rfl, hkm, hm, HM⟩ := hrel
            by_cases hml : m < bs.length
            · have hml' : (m : Int) < bs.length := by omega
              obtain ⟨d, hd⟩ : ∃ d, bs[m]? = some d := ⟨bs[m], List.getElem?_eq_getElem hml⟩
              have hdc : w2.cell? ⟨g, off + m, none⟩ = some (.int .u8 (d.toNat : Int)) := HCA.out m _ (bv_at hd)
              have HDD := Lib.hid (drop_cons_of hd)
              have HD1 := Lib.hid hd
              clear hd
              by_cases h10 : d.toNat = 10
              · have hne : ((d.toNat : Int) != 10) = false := by simp; omega
                have HT := Lib.hid h10
                clear h10
                have hkm2 : k < m := by
                  rcases Nat.lt_or_ge k m with h | h
                  · exact h
                  · exfalso
                    have hkm' : k = m := by omega
                    subst hkm'
                    have := HA.out
                    rw [HD1.out] at this
                    injection this with this
                    have h1 := HT.out
                    have h2 := HAA.out
                    rw [this] at h1
                    omega
                go_wp2_with fail
                first
                  | exact ⟨⟨m, rfl, hm, Lib.hid (by rw [HR.out, HM.out, HDD.out, skip_line _ _ HT.out]), hbb⟩, by simp [intOf]; omega⟩
                  | (go_roundw; (case rel => exact ⟨m, rfl, hm, Lib.hid (by rw [HR.out, HM.out, HDD.out, skip_line _ _ HT.out]), hbb⟩); (case measure => simp [intOf]; omega))
              · have hne : ((d.toNat : Int) != 10) = true := by simp; omega
                have HT := Lib.hid h10
                clear h10
                go_wp2_with fail
                go_round
                case rel => exact ⟨m + 1, by go_num, by omega, by omega, Lib.hid (by rw [HM.out, HDD.out, skip_in _ _ HT.out])⟩
                case measure => simp [intOf]; omega
            · have hml' : ¬ (m : Int) < bs.length := by omega
              have e : bs.drop m = [] := List.drop_eq_nil_of_le (by omega)
              have HE := Lib.hid e
              clear e
              go_wp2_with fail
              first
                | exact ⟨⟨m, rfl, hm, Lib.hid (by rw [HR.out, HM.out, HE.out]; rfl), hbb⟩, by simp [intOf]; omega⟩
                | (go_roundw; (case rel => exact ⟨m, rfl, hm, Lib.hid (by rw [HR.out, HM.out, HE.out]; rfl), hbb⟩); (case measure => simp [intOf]; omega))
        · have hs' := hs
          rw [Bool.not_eq_true] at hs'
          rw [hs'] at hpre
          have hstop : skipM false (bs.drop k0) = bs.drop k := by
            rw [HR.out, HD.out]
            exact skip_stop a _ (by rw [HW.out]; exact Bool.false_ne_true) (fun h => hs ((pre_slash _ _ _ HD.out).2 h))
          have HW2 := Lib.hid (whiteAt_of bs k0 k hk hstop)
          clear hs hs' hstop
          refine hpre.mono ?_
          rintro e w1 ⟨rfl, rfl⟩
          go_wp2_with fail
          go_ret
          exact ⟨by rw [HW2.out]; rfl, hbb⟩
    · have hlt' : ¬ (k : Int) < bs.length := by omega
      go_wp2_with fail
      go_ret
      exact ⟨by rw [whiteAt_of bs k0 k hk (by rw [HR.out, List.drop_eq_nil_of_le (by omega)]; rfl)]; rfl, hb⟩
end Go.Proofs.YtaelanpmgckfkaaRRRRDoor
