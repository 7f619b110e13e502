/- golex.number. -/
import Derived.Test.YtaelanpmgckfkaaRRRRDoorLex2
import Derived.Test.YtaelanpmgckfkaaRRRRDoorKeys
namespace Go.Proofs.YtaelanpmgckfkaaRRRRDoor
open Go.RowKit Go.Av

/-- What digits are worth. -/
def valD (l : List UInt8) : Nat := l.foldl (fun n c => n * 10 + (c.toNat - 48)) 0
theorem valD_snoc (l : List UInt8) (c : UInt8) : valD (l ++ [c]) = valD l * 10 + (c.toNat - 48) := by simp [valD]
theorem valD_take_le (l : List UInt8) (k : Nat) : valD (l.take k) ≤ valD l := by
  have h : ∀ (r : List UInt8) (n : Nat), n ≤ r.foldl (fun n c => n * 10 + (c.toNat - 48)) n := by
    intro r
    induction r with
    | nil => intro n; exact Nat.le_refl _
    | cons c r ih =>
      intro n
      rw [List.foldl_cons]
      exact Nat.le_trans (by omega) (ih _)
  have e : valD l = (l.drop k).foldl (fun n c => n * 10 + (c.toNat - 48)) (valD (l.take k)) := by
    unfold valD
    rw [← List.foldl_append, List.take_append_drop]
  rw [e]
  exact h _ _
def maxU : Nat := 18446744073709551615

/-- A word: kind, text, number, place, next place. -/
structure WordS where
  kind : Nat
  text : List UInt8
  int : Nat
  at' : Nat
  next : Nat
def WordS.zero : WordS := ⟨0, [], 0, 0, 0⟩
def WordS.cells (x : WordS) : Array Value := #[.int .i64 (x.kind : Int), .string ⟨x.text.toArray⟩, .int .u64 (x.int : Int), .int .i64 (x.at' : Int), .int .i64 (x.next : Int)]

/-- The digits that stand at k. -/
def digitsAt (bs : List UInt8) (k : Nat) : List UInt8 := (bs.drop k).take (runAt digitB bs k - k)
/-- Is there a number at k? -/
def numberOk (bs : List UInt8) (k : Nat) : Bool :=
  decide (valD (digitsAt bs k) ≤ maxU) && !(decide (runAt digitB bs k < bs.length) && letterB (bs.getD (runAt digitB bs k) 0)) && !(decide (k + 1 < runAt digitB bs k) && decide (bs.getD k 0 = 48))
def numberW (bs : List UInt8) (k : Nat) : WordS := ⟨2, digitsAt bs k, valD (digitsAt bs k), k, runAt digitB bs k⟩

/-- What golex.number answers. -/
def NumPost (bs : List UInt8) (k : Nat) (w : World) (e : Ending) (w' : World) : Prop :=
  e = .returned (.tuple #[.agg (if numberOk bs k = true then numberW bs k else WordS.zero).cells, .bool (numberOk bs k)]) ∧ Below w.heap.size w w'
theorem NumPost.no {bs : List UInt8} {k : Nat} {w w' : World} (h : numberOk bs k = false) (hb : Below w.heap.size w w') : NumPost bs k w (.returned (.tuple #[.agg #[.int .i64 0, .string ⟨#[]⟩, .int .u64 0, .int .i64 0, .int .i64 0], .bool false])) w' := by
  unfold NumPost
  rw [h]
  exact ⟨rfl, hb⟩
theorem NumPost.yes {bs : List UInt8} {k : Nat} {w w' : World} (h : numberOk bs k = true) (hb : Below w.heap.size w w') : NumPost bs k w (.returned (.tuple #[.agg (numberW bs k).cells, .bool true])) w' := by
  unfold NumPost
  rw [h]
  exact ⟨rfl, hb⟩
theorem numberOk_big {bs : List UInt8} {k : Nat} (h : ¬ valD (digitsAt bs k) ≤ maxU) : numberOk bs k = false := by
  unfold numberOk
  rw [decide_eq_false h]
  rfl

set_option maxRecDepth 100000 in
set_option maxHeartbeats 1000000 in
theorem number_w (g off cap : Nat) (bs : List UInt8) (k : Nat) (w : World) (hg : g < w.heap.size) (hcap : bs.length ≤ cap) (hmax : cap ≤ 9223372036854775807) (hk : k < bs.length)
    (hc : ∀ j u, (bv bs)[j]? = some u → w.cell? ⟨g, off + j, none⟩ = some u) :
    Calls Tryd.prog 46 #[.slice (some ⟨g, off, none⟩) bs.length cap, .int .i64 (k : Int)] w (NumPost bs k w) := by
  have hdig : ∀ (args : Array Value) (w : World), (callFunc 45 args).run Tryd.prog w = .ok (.enter 45 args) w := by
    intro args w
    simp [go_sem]
  have hwh := fun W hv => while_any 45 digitB hdig (fun c w => digit_at c _ rfl w) (w.heap.size + 1) (.slice (some ⟨g, off, none⟩) bs.length cap) bs k W hv (by omega) (by omega)
  have hre := runAt_le digitB bs k (by omega)
  have hds : (digitsAt bs k).length = runAt digitB bs k - k := by
    unfold digitsAt
    rw [List.length_take, List.length_drop]
    omega
  have hdc : ∀ j : Nat, j < runAt digitB bs k - k → ∃ a, (digitsAt bs k)[j]? = some a ∧ digitB a = true ∧ w.cell? ⟨g, off + k + j, none⟩ = some (.int .u8 (a.toNat : Int)) := by
    intro j hj
    have hkj : k + j < bs.length := by omega
    have hget : bs[k + j]? = some bs[k + j] := List.getElem?_eq_getElem hkj
    refine ⟨bs[k + j], ?_, ?_, ?_⟩
    · unfold digitsAt
      rw [List.getElem?_take, if_pos hj, List.getElem?_drop, hget]
    · have hsp := List.all_takeWhile (p := digitB) (l := bs.drop k)
      have hpre := List.takeWhile_prefix digitB (l := bs.drop k)
      have hlen : ((bs.drop k).takeWhile digitB).length = runAt digitB bs k - k := by unfold runAt; omega
      have hel : ((bs.drop k).takeWhile digitB)[j]? = some bs[k + j] := by
        rw [List.prefix_iff_eq_take.1 hpre, List.getElem?_take, if_pos (by omega), List.getElem?_drop, hget]
      exact List.all_eq_true.1 hsp _ (List.mem_of_getElem? hel)
    · have := hc (k + j) _ (bv_at hget)
      rw [show off + k + j = off + (k + j) by omega]
      exact this
  have hokv : numberOk bs k = numberOk bs k := rfl
  generalize hend : runAt digitB bs k = e at *
  generalize hdg : digitsAt bs k = ds at *
  have HWH := Lib.hid hwh
  have HDC := Lib.hid hdc
  have HDS := Lib.hid hds
  have HEND := Lib.hid hend
  have HDG := Lib.hid hdg
  clear hdig hwh hdc hds hokv hend hdg
  have HC := Lib.hid hc
  clear hc
  have hek : (k : Int) ≤ e := by omega
  have heb : (e : Int) ≤ bs.length := by omega
  have hkc : k < cap := by omega
  go_enter Tryd.func46, Tryd.ntmps46
  go_wp2_with fail
  refine (HWH.out _ ?_).mono ?_
  · exact .inr ⟨g, off, cap, rfl, by omega, hcap, by unfold maxLen; omega, fun j u hu => by rw [alloc_cell _ _ _ hg]; exact HC.out j u hu⟩
  rintro e' w1 ⟨rfl, rfl⟩
  go_wp2_with fail
  obtain ⟨m, hm⟩ : ∃ m, e - k = m := ⟨_, rfl⟩
  rw [hm]
  have HM := Lib.hid hm
  clear hm
  have hmb : m ≤ 9223372036854775807 := by have := HM.out; omega
  have hmc : m ≤ cap - k := by have := HM.out; omega
  go_loop [7, 19] (fun n i => ∃ j : Nat, i = .int .i64 j ∧ j ≤ m ∧ n = .int .u64 (valD (ds.take j) : Int) ∧ Hid (valD (ds.take j) ≤ maxU)) (fun _ i => (m - intOf i).toNat)
  case atStart => exact ⟨0, rfl, by omega, rfl, by unfold Hid maxU; simp [valD]⟩
  case round =>
    obtain ⟨j, rfl, hj, rfl, HV⟩ := hrel
    by_cases hlt : j < m
    · obtain ⟨a, ha, had, hac⟩ := HDC.out j (by have := HM.out; omega)
      have hca : ∀ o : Obj, (w.alloc o).cell? ⟨g, off + k + j, none⟩ = some (.int .u8 (a.toNat : Int)) := fun o => by rw [alloc_cell _ _ _ hg]; exact hac
      have hst : valD (ds.take (j + 1)) = valD (ds.take j) * 10 + (a.toNat - 48) := by
        obtain ⟨hl, rfl⟩ := List.getElem?_eq_some_iff.1 ha
        rw [List.take_succ_eq_append_getElem hl, valD_snoc]
      have hb := of_decide_eq_true had
      obtain ⟨d, hd⟩ : ∃ d, a.toNat = 48 + d := ⟨a.toNat - 48, by omega⟩
      have hd9 : d ≤ 9 := by omega
      have had' : (a.toNat : Int) = 48 + d := by omega
      have HST : Hid (valD (ds.take (j + 1)) = valD (ds.take j) * 10 + d) := by unfold Hid; rw [hst, hd]; omega
      rw [had'] at hca
      generalize valD (ds.take j) = n at HV HST ⊢
      clear hac ha had hst hb hd had'
      have hjm : (j : Int) < m := by omega
      by_cases hov : (18446744073709551615 - (48 + (d : Int) - 48)) / 10 < (n : Int)
      · have hno : numberOk bs k = false := by
          refine numberOk_big ?_
          rw [HDG.out]
          have h1 := valD_take_le ds (j + 1)
          rw [HST.out] at h1
          have h2 : maxU = 18446744073709551615 := rfl
          omega
        go_wp2_with fail
        refine bodyPost_ret (v := .tuple #[.agg #[.int .i64 0, .string ⟨#[]⟩, .int .u64 0, .int .i64 0, .int .i64 0], .bool false]) (by simp [results, Tryd.results46, go_sem]) rfl (NumPost.no hno ?_)
        exact (Below.refl _ _).alloc (Nat.le_refl _) _
      · have hv2 : valD (ds.take (j + 1)) ≤ maxU := by
          rw [HST.out]
          unfold maxU
          omega
        have HV2 := Lib.hid hv2
        clear hv2
        have hnn : (n : Int) * 10 + d ≤ 18446744073709551615 := by omega
        go_wp2_with fail
        exact ⟨⟨j + 1, by go_num, by omega, by rw [HST.out]; congr 1; omega, HV2⟩, by simp [intOf]; omega⟩
    · obtain rfl : j = m := by omega
      have hfull : ds.take j = ds := List.take_of_length_le (by have := HDS.out; have := HM.out; omega)
      rw [hfull] at HV
      rw [hfull]
      have hgetK : bs[k]? = some (bs.getD k 0) := by rw [List.getD_eq_getElem?_getD, List.getElem?_eq_getElem hk]; rfl
      have hcK : ∀ o : Obj, (w.alloc o).cell? ⟨g, off + k, none⟩ = some (.int .u8 ((bs.getD k 0).toNat : Int)) := fun o => by rw [alloc_cell _ _ _ hg]; exact HC.out k _ (bv_at hgetK)
      have hcE : e < bs.length → ∀ o : Obj, (w.alloc o).cell? ⟨g, off + e, none⟩ = some (.int .u8 ((bs.getD e 0).toNat : Int)) := fun h o => by
        have hgetE : bs[e]? = some (bs.getD e 0) := by rw [List.getD_eq_getElem?_getD, List.getElem?_eq_getElem h]; rfl
        rw [alloc_cell _ _ _ hg]
        exact HC.out e _ (bv_at hgetE)
      have hOK : numberOk bs k = (!(decide (e < bs.length) && letterB (bs.getD e 0)) && !(decide (k + 1 < e) && decide (bs.getD k 0 = 48))) := by
        unfold numberOk
        rw [HDG.out, HEND.out, decide_eq_true HV.out]
        rfl
      have hW : numberW bs k = ⟨2, ds, valD ds, k, e⟩ := by
        unfold numberW
        rw [HDG.out, HEND.out]
      have hcK0 : (decide (bs.getD k 0 = 48)) = decide (((bs.getD k 0).toNat : Int) = 48) := by
        apply decide_eq_decide.2
        constructor
        · intro h; rw [h]; rfl
        · intro h
          apply UInt8.toNat.inj
          show _ = 48
          omega
      rw [hcK0] at hOK
      have hconv : ∀ o : Obj, (convert 22 9 (.slice (some ⟨g, off + k, none⟩) (e - k) (cap - k))).run Tryd.prog (w.alloc o) = .ok (.string ⟨ds.toArray⟩) (w.alloc o) := by
        intro o
        refine conv_cells g (off + k) (cap - k) (e - k) ds _ (by have := HDS.out; have := HM.out; omega) ?_
        intro i u hu
        have hi : i < j := by
          have := (List.getElem?_eq_some_iff.1 hu).1
          have h2 : (bv ds).length = ds.length := by simp [bv]
          have := HDS.out
          have := HM.out
          omega
        obtain ⟨a, ha, _, hac⟩ := HDC.out i (by have := HM.out; omega)
        rw [alloc_cell _ _ _ hg, hac]
        rw [bv_at ha] at hu
        exact hu
      have HOK := Lib.hid hOK
      have HW := Lib.hid hW
      have HCE := Lib.hid hcE
      have HCV := Lib.hid hconv
      have hcKb : ((bs.getD k 0).toNat : Int) < 256 := by have := (bs.getD k 0).toNat_lt; omega
      clear hfull hgetK hcE hOK hW hcK0 hconv
      generalize bs.getD k 0 = cK at *
      generalize bs.getD e 0 = cE at *
      generalize valD ds = vd at *
      by_cases ht1 : e < bs.length ∧ letterB cE = true
      · obtain ⟨he, hle⟩ := ht1
        have hcE2 := HCE.out he
        have hno : numberOk bs k = false := by
          rw [HOK.out, decide_eq_true he, hle]
          rfl
        have he' : (e : Int) < bs.length := by omega
        have hec : e < cap := by omega
        clear he
        go_wp2_with fail
        refine (letter_at cE _ rfl _).mono ?_
        rintro e' w1 ⟨rfl, rfl⟩
        rw [hle]
        go_wp2_with fail
        refine bodyPost_ret (v := .tuple #[.agg #[.int .i64 0, .string ⟨#[]⟩, .int .u64 0, .int .i64 0, .int .i64 0], .bool false]) (by simp [results, Tryd.results46, go_sem]) rfl (NumPost.no hno ?_)
        exact (Below.refl _ _).alloc (Nat.le_refl _) _
      · have hE : (¬ (e : Int) < bs.length) ∨ ((e : Int) < bs.length ∧ letterB cE = false ∧ e < cap ∧ ∀ o : Obj, (w.alloc o).cell? ⟨g, off + e, none⟩ = some (.int .u8 (cE.toNat : Int))) := by
          by_cases h : e < bs.length
          · refine .inr ⟨by omega, ?_, by omega, HCE.out h⟩
            cases hx : letterB cE
            · rfl
            · exact absurd ⟨h, hx⟩ ht1
          · exact .inl (by omega)
        have hok1 : numberOk bs k = !(decide (k + 1 < e) && decide ((cK.toNat : Int) = 48)) := by
          rw [HOK.out]
          have : (decide (e < bs.length) && letterB cE) = false := by
            rw [Bool.and_eq_false_iff]
            by_cases h : e < bs.length
            · right
              cases hx : letterB cE
              · rfl
              · exact absurd ⟨h, hx⟩ ht1
            · left
              exact decide_eq_false h
          rw [this]
          rfl
        have hT : ((e : Int) > k + 1 ∧ ((cK.toNat : Int) == 48) = true ∧ Hid (numberOk bs k = false)) ∨ ((e : Int) > k + 1 ∧ ((cK.toNat : Int) == 48) = false ∧ Hid (numberOk bs k = true)) ∨ (¬ (e : Int) > k + 1 ∧ Hid (numberOk bs k = true)) := by
          by_cases h : k + 1 < e
          · by_cases h2 : (cK.toNat : Int) = 48
            · exact .inl ⟨by omega, beq_iff_eq.2 h2, by unfold Hid; rw [hok1, decide_eq_true h, decide_eq_true h2]; rfl⟩
            · exact .inr (.inl ⟨by omega, beq_eq_false_iff_ne.2 h2, by unfold Hid; rw [hok1, decide_eq_false h2]; simp⟩)
          · exact .inr (.inr ⟨by omega, by unfold Hid; rw [hok1, decide_eq_false h]; rfl⟩)
        have HT := Lib.hid hT
        have HEE := Lib.hid hE
        have hcv := HCV.out
        clear hT hE hok1 ht1 HCE HOK
        rcases HT.out with ⟨t1, t2, HN⟩ | ⟨t1, t2, HN⟩ | ⟨t1, HN⟩
        all_goals
          clear HT
          rcases HEE.out with he | ⟨he, hle, hec, hcE2⟩
          all_goals
            clear HEE
            go_wp2_with fail
            try (refine (letter_at cE _ rfl _).mono ?_; rintro e' w1 ⟨rfl, rfl⟩; rw [hle]; go_wp2_with fail)
            first
              | exact bodyPost_ret (v := .tuple #[.agg #[.int .i64 0, .string ⟨#[]⟩, .int .u64 0, .int .i64 0, .int .i64 0], .bool false]) (by simp [results, Tryd.results46, go_sem]) rfl (NumPost.no HN.out ((Below.refl _ _).alloc (Nat.le_refl _) _))
              | (refine bodyPost_ret (v := .tuple #[.agg (numberW bs k).cells, .bool true]) ?_ rfl (NumPost.yes HN.out ?_); (· rw [HW.out]; simp [results, Tryd.results46, WordS.cells, go_sem]); exact (Below.refl _ _).alloc (Nat.le_refl _) _)
end Go.Proofs.YtaelanpmgckfkaaRRRRDoor
