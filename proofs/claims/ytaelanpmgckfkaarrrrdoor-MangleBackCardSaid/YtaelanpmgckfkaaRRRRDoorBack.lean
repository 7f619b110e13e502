/- mangle.Back: the text of a name. -/
import Derived.Test.YtaelanpmgckfkaaRRRRDoorOne
import Derived.Lib.IndexBytes
namespace Go.Proofs.YtaelanpmgckfkaaRRRRDoor
open Go.RowKit Go.Av

def backF : Nat → List UInt8 → Option (List UInt8)
  | 0, _ => none
  | _ + 1, [] => some []
  | f + 1, x :: r => if (oneR (x :: r)).2 = 0 then none else (backF f ((x :: r).drop (oneR (x :: r)).2)).map ((oneR (x :: r)).1 :: ·)
/-- The text of what stands behind a name's first byte. -/
def backB (l : List UInt8) : Option (List UInt8) := backF (l.length + 1) l
/-- The text of a name. -/
def backL (s : List UInt8) : Option (List UInt8) := if s = [] ∨ s.getD 0 0 ≠ 78 then none else backB (s.drop 1)
/-- The same, as mangle.Back tells it. -/
def backR (s : List UInt8) : List UInt8 × Bool := match backL s with | some t => (t, true) | none => ([], false)

theorem backR_of (s : List UInt8) (h : backL s = none) : backR s = ([], false) := by unfold backR; rw [h]
theorem backR_ok (s t : List UInt8) (h : backL s = some t) : backR s = (t, true) := by unfold backR; rw [h]
theorem backF_fuel : ∀ (f g : Nat) (l : List UInt8), l.length < f → l.length < g → backF f l = backF g l
  | 0, _, l, h, _ => by omega
  | _ + 1, 0, l, _, h => by omega
  | f + 1, g + 1, [], _, _ => by simp [backF]
  | f + 1, g + 1, x :: r, hf, hg => by
    simp only [backF]
    split
    · rfl
    · rename_i h
      rw [backF_fuel f g _ (by simp at hf ⊢; omega) (by simp at hg ⊢; omega)]
theorem backB_nil : backB [] = some [] := rfl
theorem backB_none (l : List UInt8) (hl : l ≠ []) (h : (oneR l).2 = 0) : backB l = none := by
  cases l with
  | nil => exact absurd rfl hl
  | cons x r => unfold backB; simp only [backF]; rw [if_pos h]
theorem backB_some (l : List UInt8) (hl : l ≠ []) (h : (oneR l).2 ≠ 0) : backB l = (backB (l.drop (oneR l).2)).map ((oneR l).1 :: ·) := by
  cases l with
  | nil => exact absurd rfl hl
  | cons x r =>
    conv => lhs; unfold backB
    simp only [backF]
    rw [if_neg h]
    unfold backB
    rw [backF_fuel _ (((x :: r).drop (oneR (x :: r)).2).length + 1) _ (by simp; omega) (by omega)]

theorem oneX_le (h l : Int) : (oneX h l).2 ≤ 4 := by unfold oneX; repeat' split <;> simp
theorem oneR_le (l : List UInt8) (hl : l ≠ []) : (oneR l).2 ≤ l.length := by
  have h1 : 1 ≤ l.length := by cases l with | nil => exact absurd rfl hl | cons x r => simp
  have hp : ∀ p, hasPre l p = true → p.length ≤ l.length := by
    intro p h
    exact (List.isPrefixOf_iff_prefix.1 h).length_le
  unfold oneR
  split
  · exact h1
  · split
    · rename_i h; exact hp _ h
    · split
      · rename_i h; exact hp _ h
      · split
        · simp
        · rename_i h; have := oneX_le (hexI (l.getD 2 0)) (hexI (l.getD 3 0)); omega

def strSize : Value → Nat | .string q => q.size | _ => 0
theorem ne_nil_of (q : ByteArray) (h : 0 < q.size) : q.data.toList ≠ [] := by
  intro e
  have : q.data.toList.length = q.size := by simp
  rw [e] at this
  simp at this
  omega

theorem nil_of (q : ByteArray) (h : ¬ 0 < q.size) : q.data.toList = [] := by
  have : q.data.toList.length = q.size := by simp
  exact List.eq_nil_of_length_eq_zero (by omega)

set_option maxRecDepth 100000 in
set_option maxHeartbeats 400000 in
theorem back_loop (s : ByteArray) (w : World) (hs : s.size ≤ 1099511627) (h0 : 0 < s.size) (hN : s[0].toNat = 78) :
    Calls Tryd.prog 37 #[.string s] w fun e w' => e = .returned (.tuple #[.string ⟨(backR s.data.toList).1.toArray⟩, .bool (backR s.data.toList).2]) ∧ Below w.heap.size w w' := by
  have hN' : ((s[0].toNat : Int) != 78) = false := by simp [hN]
  have hne : (s.toList == []) = false := by rw [ByteArray.toList_eq]; simpa using ne_nil_of s h0
  go_enter Tryd.func37, Tryd.ntmps37
  go_wp2_with fail
  have hsl : (s.extract 1 s.size).data.toList = s.data.toList.drop 1 := Lib.extract_to_end s 1
  have hsz : (s.extract 1 s.size).size ≤ s.size := by simp
  have HB : Hid (backL s.data.toList = backB (s.extract 1 s.size).data.toList) := by
    unfold Hid backL
    rw [if_neg, hsl]
    rintro (e | e)
    · exact ne_nil_of s h0 e
    · rw [getD_of s 0 h0] at e
      exact e (UInt8.toNat_inj.1 hN)
  clear hsl hN hN' hne
  generalize s.extract 1 s.size = q0 at HB hsz ⊢
  go_loopw [0, 4] (fun v b wr => ∃ (q : ByteArray) (out : List UInt8), v = .string q ∧ out.length + q.size ≤ s.size ∧ Hid (backL s.data.toList = (backB q.data.toList).map (out ++ ·)) ∧ Hid (OwnB wr w.heap.size b out) ∧ Below w.heap.size w wr) (fun v _ _ => strSize v)
  case atStart => exact ⟨q0, [], rfl, by simpa using hsz, Lib.hid (by rw [HB.out]; simp), Lib.hid (Own.nil _ _ _ _), Below.refl _ _⟩
  case round =>
    obtain ⟨q, out, rfl, hl, HQ, HO, hb⟩ := hrel
    have hbs := hb.size
    by_cases hq : 0 < q.size
    · have hqe : (q.toList == []) = false := by rw [ByteArray.toList_eq]; simpa using ne_nil_of q hq
      have hqn : q.toList ≠ [] := by rw [ByteArray.toList_eq]; exact ne_nil_of q hq
      have hle := oneR_le q.data.toList (ne_nil_of q hq)
      have hno := backB_none q.data.toList (ne_nil_of q hq)
      have hso := backB_some q.data.toList (ne_nil_of q hq)
      have hone := mOne q wr hq
      generalize hcn : oneR q.data.toList = cn at hle hno hso hone
      obtain ⟨c, n⟩ := cn
      simp only at hle hno hso hone
      have hql : q.data.toList.length = q.size := by simp
      rw [hql] at hle
      have HC := Lib.hid hcn
      have HNO := Lib.hid hno
      have HSO := Lib.hid hso
      have HH := Lib.hid hone
      clear hcn hno hso hone hql
      by_cases hn : n = 0
      · subst hn
        go_wp2_with (go_at_call 67; refine HH.out.mono ?_; rintro e w1 ⟨rfl, hb1⟩)
        go_ret2
        have e1 : backL s.data.toList = none := by rw [HQ.out, HNO.out (by simp)]; rfl
        exact ⟨by rw [backR_of _ e1]; rfl, hb.trans (hb1.mono hbs)⟩
      · have hn1 : (1 : Int) ≤ (n : Int) := by omega
        have hn2 : ((n : Int) == 0) = false := by simpa using hn
        go_wp2_with (first | (go_at_call 67; refine HH.out.mono ?_; rintro e w1 ⟨rfl, hb1⟩; have hbb := hb.trans (hb1.mono hbs); have hsz1 := hbb.size; have HO1 := Lib.hid (HO.out.below hb1)) | (at_builtin; refine wpList_app_slice rfl slBytes (.tmp 25) (.tmp 27) rfl w.heap.size u4 _ _ rfl (HO1.out.alloc _) w1.heap.size 0 1 1 rfl [.int .u8 (c.toNat : Int)] rfl (news_lit _ _ _) (one_of rfl) (by unfold maxLen; omega) (by omega) (by simp; omega) ?_; intro v2 w2 ho2 hg2))
        go_roundw
        case rel =>
          refine ⟨q.extract n q.size, out ++ [c], rfl, by simp; omega, Lib.hid ?_, Lib.hid (ownB_of ho2 (by rw [bv_append]; rfl)), (hbb.alloc hsz1 _).grown hg2.grown (by simp; omega) (fun k hk => (HO1.out.lt k hk).1)⟩
          rw [HQ.out, HSO.out hn]
          have e2 : (q.extract n q.size).data.toList = q.data.toList.drop n := Lib.extract_to_end q n
          rw [e2]
          cases backB (q.data.toList.drop n) <;> simp
        case measure => simp [strSize]; omega
    · have hq0 : q.toList = [] := by
        rw [ByteArray.toList_eq]
        exact nil_of q hq
      have e0 : backL s.data.toList = some out := by
        have e : q.data.toList = [] := by rw [← ByteArray.toList_eq]; exact hq0
        rw [HQ.out, e, backB_nil]
        simp
      have ho := HO.out
      clear HO
      have ks := run_string_own (P := Tryd.prog) 22 5 9 Tryd.underlying22 Tryd.underlying5 Tryd.underlying9 ho
      have E0 := Lib.hid e0
      clear e0
      go_wp2_with fail
      go_ret2
      exact ⟨by rw [backR_ok _ _ E0.out]; rfl, hb⟩


set_option maxRecDepth 100000 in
set_option maxHeartbeats 400000 in
theorem mBack (s : ByteArray) (w : World) (hs : s.size ≤ 1099511627) :
    Calls Tryd.prog 37 #[.string s] w fun e w' => e = .returned (.tuple #[.string ⟨(backR s.data.toList).1.toArray⟩, .bool (backR s.data.toList).2]) ∧ Below w.heap.size w w' := by
  by_cases h0 : 0 < s.size
  · by_cases hN : s[0].toNat = 78
    · exact back_loop s w hs h0 hN
    · have hne : (s.toList == []) = false := by rw [ByteArray.toList_eq]; simpa using ne_nil_of s h0
      rw [backR_of]
      · have hN' : ((s[0].toNat : Int) != 78) = true := by simp; omega
        clear hN
        go_enter Tryd.func37, Tryd.ntmps37
        go_wp2_with fail
        go_ret2
        exact ⟨rfl, Below.refl _ _⟩
      · unfold backL
        rw [if_pos]
        right
        rw [getD_of s 0 h0]
        intro e
        apply hN
        rw [e]
        rfl
  · have hq0 : s.data.toList = [] := nil_of s h0
    have hq1 : s.toList = [] := by rw [ByteArray.toList_eq]; exact hq0
    rw [backR_of _ (by unfold backL; rw [if_pos (Or.inl hq0)])]
    clear hq0
    go_enter Tryd.func37, Tryd.ntmps37
    go_wp2_with fail
    go_ret2
    exact ⟨rfl, Below.refl _ _⟩
end Go.Proofs.YtaelanpmgckfkaaRRRRDoor
