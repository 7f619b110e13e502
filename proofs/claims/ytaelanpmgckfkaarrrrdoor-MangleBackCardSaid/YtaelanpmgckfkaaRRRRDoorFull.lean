/- Simple and full names, in plain Lean. -/
import Derived.Test.YtaelanpmgckfkaaRRRRDoorLexPlain
import Derived.ProofKit
import Derived.Lib.Bytealg
namespace Go.Av

def simQ : Bool → List UInt8 → Bool
  | st, [] => !st
  | st, c :: r => (letterB c || (!st && digitB c)) && simQ false r
def fullQ : Bool → List UInt8 → Bool
  | st, [] => !st
  | st, c :: r => if c.toNat = 46 then !st && fullQ true r else (letterB c || (!st && digitB c)) && fullQ false r
def simpleS (l : List UInt8) : Bool := simQ true l
def SimpleS (l : List UInt8) : Bool := decide (l.length ≤ 100) && simpleS l
def fullP (l : List UInt8) : Bool := fullQ true l
def FullS (l : List UInt8) : Bool := decide (l.length ≤ 100) && fullP l
def noDot (l : List UInt8) : Prop := ∀ c ∈ l, ¬ c.toNat = 46
theorem dot_no : letterB 46 = false ∧ digitB 46 = false := ⟨rfl, rfl⟩
theorem dot_of {c : UInt8} (h : c.toNat = 46) : c = 46 := by
  apply UInt8.toNat.inj
  rw [h]
  rfl
theorem fullQ_sim (st : Bool) (l : List UInt8) (h : noDot l) : fullQ st l = simQ st l := by
  induction l generalizing st with
  | nil => rfl
  | cons c r ih =>
    unfold fullQ simQ
    rw [if_neg (h c (List.mem_cons_self ..)), ih _ fun d hd => h d (List.mem_cons_of_mem _ hd)]
theorem fullQ_join (st : Bool) (a b : List UInt8) : fullQ st (a ++ 46 :: b) = (fullQ st a && fullQ true b) := by
  induction a generalizing st with
  | nil => simp [fullQ]
  | cons c r ih =>
    rw [List.cons_append]
    show (if c.toNat = 46 then !st && fullQ true (r ++ 46 :: b) else (letterB c || (!st && digitB c)) && fullQ false (r ++ 46 :: b)) = ((if c.toNat = 46 then !st && fullQ true r else (letterB c || (!st && digitB c)) && fullQ false r) && fullQ true b)
    rw [ih, ih]
    split
    · rw [Bool.and_assoc]
    · rw [Bool.and_assoc]
theorem simQ_noDot (st : Bool) (l : List UInt8) (h : simQ st l = true) : noDot l := by
  induction l generalizing st with
  | nil => intro c hc; cases hc
  | cons c r ih =>
    unfold simQ at h
    obtain ⟨h1, h2⟩ := Bool.and_eq_true_iff.1 h
    intro d hd
    rcases List.mem_cons.1 hd with rfl | hd
    · intro e
      rw [dot_of e] at h1
      rw [dot_no.1, dot_no.2] at h1
      simp at h1
    · exact ih _ h2 d hd
theorem fullP_sim (l : List UInt8) (h : noDot l) : fullP l = simpleS l := fullQ_sim _ _ h
theorem fullP_join (a b : List UInt8) : fullP (a ++ 46 :: b) = (fullP a && fullP b) := fullQ_join _ _ _

/-- Where the last dot stands in the first k bytes. -/
def lastTo (l : List UInt8) : Nat → Int
  | 0 => -1
  | k + 1 => if (l.getD k 0).toNat = 46 then k else lastTo l k
def lastDot (l : List UInt8) : Int := lastTo l l.length
theorem lastTo_hit (l : List UInt8) (k : Nat) (h : (l.getD k 0).toNat = 46) : lastTo l (k + 1) = k := if_pos h
theorem lastTo_miss (l : List UInt8) (k : Nat) (h : ¬ (l.getD k 0).toNat = 46) : lastTo l (k + 1) = lastTo l k := if_neg h
theorem lastTo_prop (l : List UInt8) : ∀ k, k ≤ l.length → (lastTo l k = -1 ∧ noDot (l.take k)) ∨ ∃ m : Nat, lastTo l k = (m : Int) ∧ m < k ∧ l = l.take m ++ 46 :: l.drop (m + 1) ∧ noDot ((l.take k).drop (m + 1))
  | 0, _ => .inl ⟨rfl, by intro c hc; simp at hc⟩
  | k + 1, hk => by
    have hlt : k < l.length := hk
    have ht : l.take (k + 1) = l.take k ++ [l[k]] := (List.take_succ_eq_append_getElem hlt)
    by_cases h : (l.getD k 0).toNat = 46
    · right
      refine ⟨k, lastTo_hit l k h, by omega, ?_, ?_⟩
      · have : l[k] = 46 := dot_of (by simpa [List.getD, hlt] using h)
        conv => lhs; rw [← List.take_append_drop k l, List.drop_eq_getElem_cons hlt, this]
      · intro c hc
        rw [List.drop_eq_nil_of_le (by rw [List.length_take]; omega)] at hc
        cases hc
    · rw [lastTo_miss l k h]
      have hne : ∀ c ∈ [l[k]], ¬ c.toNat = 46 := by
        intro c hc
        rw [List.mem_singleton.1 hc]
        simpa [List.getD, hlt] using h
      rcases lastTo_prop l k (by omega) with ⟨h1, h2⟩ | ⟨m, h1, h2, h3, h4⟩
      · refine .inl ⟨h1, ?_⟩
        rw [ht]
        intro c hc
        rcases List.mem_append.1 hc with hc | hc
        · exact h2 c hc
        · exact hne c hc
      · refine .inr ⟨m, h1, by omega, h3, ?_⟩
        rw [ht, List.drop_append_of_le_length (by rw [List.length_take]; omega)]
        intro c hc
        rcases List.mem_append.1 hc with hc | hc
        · exact h4 c hc
        · exact hne c hc
theorem lastDot_prop (l : List UInt8) : (lastDot l = -1 ∧ noDot l) ∨ ∃ m : Nat, lastDot l = (m : Int) ∧ m < l.length ∧ l = l.take m ++ 46 :: l.drop (m + 1) ∧ noDot (l.drop (m + 1)) := by
  have := lastTo_prop l l.length (Nat.le_refl _)
  rw [List.take_length] at this
  exact this
def spaceS (l : List UInt8) : List UInt8 := l.take (lastDot l).toNat
def lastS (l : List UInt8) : List UInt8 := l.drop (lastDot l + 1).toNat

/-- The first dot. -/
def cutA (l : List UInt8) : List UInt8 := l.take (Lib.indexByte l 46).toNat
def wordsN : List (List UInt8) := [[], [110, 117, 108, 108], [98, 111, 111, 108, 101, 97, 110], [105, 110, 116], [108, 111, 110, 103], [102, 108, 111, 97, 116], [100, 111, 117, 98, 108, 101], [98, 121, 116, 101, 115], [115, 116, 114, 105, 110, 103], [114, 101, 99, 111, 114, 100], [101, 110, 117, 109], [97, 114, 114, 97, 121], [109, 97, 112], [], [102, 105, 120, 101, 100]]
def wordS (k : Int) : List UInt8 := if 0 ≤ k ∧ k < 15 then wordsN.getD k.toNat [] else []
def kindF (l : List UInt8) : Nat → Nat
  | 0 => 0
  | n + 1 => if wordsN.getD (14 - n) [] = l ∧ ¬ l = [] then 14 - n else kindF l n
def kindS (l : List UInt8) : Nat := kindF l 15
theorem kindS_14 (l : List UInt8) : kindS l = kindF l 14 := by
  show (if wordsN.getD (14 - 14) [] = l ∧ ¬ l = [] then 14 - 14 else kindF l 14) = _
  rw [if_neg]
  rintro ⟨h, h'⟩
  exact h' h.symm

def joinS (space name : List UInt8) : List UInt8 × Bool :=
  let full := if Lib.indexByte name 46 ≥ 0 then name else if space = [] then name else space ++ 46 :: name
  if (Lib.indexByte name 46 ≥ 0 ∨ SimpleS name = true) ∧ FullS full = true then (full, true) else ([], false)
end Go.Av
