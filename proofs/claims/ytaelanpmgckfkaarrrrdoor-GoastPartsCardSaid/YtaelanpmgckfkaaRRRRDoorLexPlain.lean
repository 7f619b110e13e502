/- The words of the small language's texts, in plain Lean. -/
import Derived.Test.YtaelanpmgckfkaaRRRRDoorOwn
namespace Go.Av

def letterB (c : UInt8) : Bool := decide (97 ≤ c.toNat ∧ c.toNat ≤ 122 ∨ 65 ≤ c.toNat ∧ c.toNat ≤ 90 ∨ c.toNat = 95)
def digitB (c : UInt8) : Bool := decide (48 ≤ c.toNat ∧ c.toNat ≤ 57)
def whiteB (c : UInt8) : Bool := decide (c.toNat = 32 ∨ c.toNat = 9 ∨ c.toNat = 10 ∨ c.toNat = 13)

/-- What is left behind white; within a remark (b) or not. -/
def skipM : Bool → List UInt8 → List UInt8
  | _, [] => []
  | true, c :: r => if c.toNat = 10 then skipM false r else skipM true r
  | false, c :: r => if whiteB c = true then skipM false r else if c.toNat = 47 ∧ r.head? = some 47 then skipM true r else c :: r

theorem skipM_nil (b : Bool) : skipM b [] = [] := by cases b <;> rfl
theorem skip_white (c : UInt8) (r : List UInt8) (h : whiteB c = true) : skipM false (c :: r) = skipM false r := by simp [skipM, h]
theorem skip_open (c : UInt8) (r : List UInt8) (h : c.toNat = 47) (h' : r.head? = some 47) : skipM false (c :: r) = skipM true (c :: r) := by
  have hw : ¬ whiteB c = true := by unfold whiteB; rw [decide_eq_true_iff]; omega
  simp only [skipM]
  rw [if_neg hw, if_pos ⟨h, h'⟩, if_neg (by omega)]
theorem skip_stop (c : UInt8) (r : List UInt8) (h : ¬ whiteB c = true) (h' : ¬ (c.toNat = 47 ∧ r.head? = some 47)) : skipM false (c :: r) = c :: r := by
  simp only [skipM]
  rw [if_neg h, if_neg h']
theorem skip_in (c : UInt8) (r : List UInt8) (h : ¬ c.toNat = 10) : skipM true (c :: r) = skipM true r := by simp [skipM, h]
theorem skip_line (c : UInt8) (r : List UInt8) (h : c.toNat = 10) : skipM true (c :: r) = skipM false (c :: r) := by
  have hw : whiteB c = true := by unfold whiteB; rw [decide_eq_true_iff]; omega
  simp [skipM, h, hw]
theorem skip_le : ∀ (b : Bool) (l : List UInt8), (skipM b l).length ≤ l.length
  | b, [] => by rw [skipM_nil]; exact Nat.le_refl _
  | true, c :: r => by
    simp only [skipM]
    have h1 := skip_le false r
    have h2 := skip_le true r
    split <;> simp only [List.length_cons] <;> omega
  | false, c :: r => by
    simp only [skipM]
    have h1 := skip_le false r
    have h2 := skip_le true r
    split
    · simp only [List.length_cons]; omega
    · split <;> simp only [List.length_cons] <;> omega

/-- Where white ends. -/
def whiteAt (bs : List UInt8) (k : Nat) : Nat := bs.length - (skipM false (bs.drop k)).length
theorem whiteAt_of (bs : List UInt8) (k m : Nat) (hm : m ≤ bs.length) (h : skipM false (bs.drop k) = bs.drop m) : whiteAt bs k = m := by
  unfold whiteAt
  rw [h, List.length_drop]
  omega
theorem whiteAt_le (bs : List UInt8) (k : Nat) : whiteAt bs k ≤ bs.length := by unfold whiteAt; omega

/-- Where a run of bytes ends. -/
def runAt (p : UInt8 → Bool) (bs : List UInt8) (k : Nat) : Nat := k + ((bs.drop k).takeWhile p).length
theorem runAt_le (p : UInt8 → Bool) (bs : List UInt8) (k : Nat) (h : k ≤ bs.length) : k ≤ runAt p bs k ∧ runAt p bs k ≤ bs.length := by
  unfold runAt
  have := (List.takeWhile_prefix p (l := bs.drop k)).length_le
  rw [List.length_drop] at this
  omega
theorem drop_cons_of {bs : List UInt8} {k : Nat} {c : UInt8} (h : bs[k]? = some c) : bs.drop k = c :: bs.drop (k + 1) := by
  obtain ⟨hlt, rfl⟩ := List.getElem?_eq_some_iff.1 h
  exact List.drop_eq_getElem_cons hlt
theorem runAt_next (p : UInt8 → Bool) (bs : List UInt8) (k : Nat) (c : UInt8) (h : bs[k]? = some c) (hp : p c = true) : runAt p bs k = runAt p bs (k + 1) := by
  unfold runAt
  rw [drop_cons_of h, List.takeWhile_cons_of_pos hp]
  simp only [List.length_cons]
  omega
theorem runAt_stop (p : UInt8 → Bool) (bs : List UInt8) (k : Nat) (c : UInt8) (h : bs[k]? = some c) (hp : ¬ p c = true) : runAt p bs k = k := by
  unfold runAt
  rw [drop_cons_of h, List.takeWhile_cons_of_neg hp]
  rfl
theorem runAt_end (p : UInt8 → Bool) (bs : List UInt8) (k : Nat) (h : bs.length ≤ k) : runAt p bs k = k := by
  unfold runAt
  rw [List.drop_eq_nil_of_le h]
  rfl

/-- v is a slice that reads as bs, in blocks below B. -/
def RdB (B : Nat) (w : World) (v : Value) (bs : List UInt8) : Prop :=
  (v = .slice none 0 0 ∧ bs = []) ∨ ∃ (g off cap : Nat), v = .slice (some ⟨g, off, none⟩) bs.length cap ∧ g < B ∧ bs.length ≤ cap ∧ cap ≤ maxLen ∧ ∀ j u, (bv bs)[j]? = some u → w.cell? ⟨g, off + j, none⟩ = some u
theorem RdB.below {B : Nat} {w w' : World} {v : Value} {bs : List UInt8} (h : RdB B w v bs) (hb : RowKit.Below B w w') : RdB B w' v bs := by
  rcases h with h | ⟨g, off, cap, hv, hg, h1, h2, hc⟩
  · exact .inl h
  · exact .inr ⟨g, off, cap, hv, hg, h1, h2, fun j u hu => by rw [hb.cell (p := ⟨g, off + j, none⟩) hg]; exact hc j u hu⟩
theorem RdB.mono {B B' : Nat} {w : World} {v : Value} {bs : List UInt8} (h : RdB B w v bs) (hB : B ≤ B') : RdB B' w v bs := by
  rcases h with h | ⟨g, off, cap, hv, hg, h1, h2, hc⟩
  · exact .inl h
  · exact .inr ⟨g, off, cap, hv, by omega, h1, h2, hc⟩
theorem bv_at {bs : List UInt8} {k : Nat} {a : UInt8} (h : bs[k]? = some a) : (bv bs)[k]? = some (.int .u8 (a.toNat : Int)) := by
  simp [bv, h]
theorem bv_get? {bs : List UInt8} {k : Nat} {u : Value} (h : (bv bs)[k]? = some u) : ∃ a, bs[k]? = some a ∧ u = .int .u8 (a.toNat : Int) := by
  simp only [bv, List.getElem?_map, Option.map_eq_some_iff] at h
  obtain ⟨a, ha, rfl⟩ := h
  exact ⟨a, ha, rfl⟩
/-- A part of a slice. -/
theorem cells_drop {w : World} {g off : Nat} {bs : List UInt8} (hc : ∀ j u, (bv bs)[j]? = some u → w.cell? ⟨g, off + j, none⟩ = some u) (k : Nat) :
    ∀ j u, (bv (bs.drop k))[j]? = some u → w.cell? ⟨g, off + k + j, none⟩ = some u := by
  intro j u hu
  obtain ⟨a, ha, rfl⟩ := bv_get? hu
  rw [List.getElem?_drop] at ha
  have := hc (k + j) _ (bv_at ha)
  rwa [← Nat.add_assoc] at this
theorem cells_take {w : World} {g off : Nat} {bs : List UInt8} (hc : ∀ j u, (bv bs)[j]? = some u → w.cell? ⟨g, off + j, none⟩ = some u) (n : Nat) :
    ∀ j u, (bv (bs.take n))[j]? = some u → w.cell? ⟨g, off + j, none⟩ = some u := by
  intro j u hu
  obtain ⟨a, ha, rfl⟩ := bv_get? hu
  rw [List.getElem?_take] at ha
  split at ha
  · exact hc j _ (bv_at ha)
  · cases ha
end Go.Av
