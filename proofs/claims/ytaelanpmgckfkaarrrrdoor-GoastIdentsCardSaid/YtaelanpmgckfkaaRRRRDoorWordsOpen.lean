/- Words that a call owns, opened. -/
import Derived.Test.YtaelanpmgckfkaaRRRRDoorAll
namespace Go.Proofs.YtaelanpmgckfkaaRRRRDoor
open Go.RowKit Go.Av

theorem flatW_at2 : ∀ (l : List WordS) (j : Nat) (x : WordS) (k : Nat), l[j]? = some x → k < 5 → (flatW l)[j * 5 + k]? = x.cells.toList[k]?
  | [], j, x, k, h, _ => by simp at h
  | y :: l, 0, x, k, h, hk => by
    obtain rfl : y = x := by simpa using h
    show (y.cells.toList ++ flatW l)[0 * 5 + k]? = _
    rw [Nat.zero_mul, Nat.zero_add, List.getElem?_append_left (by show k < 5; exact hk)]
  | y :: l, j + 1, x, k, h, hk => by
    have ih := flatW_at2 l j x k (by simpa using h) hk
    show (y.cells.toList ++ flatW l)[(j + 1) * 5 + k]? = _
    rw [List.getElem?_append_right (by show 5 ≤ _; omega), show (j + 1) * 5 + k - y.cells.toList.length = j * 5 + k by show (j + 1) * 5 + k - 5 = _; omega]
    exact ih
/-- Words that a call owns, opened. -/
theorem words_open2 {w : World} {B e : Nat} {v : Value} {l : List WordS} (h : Own w B e 5 v l.length (flatW l)) : ∃ (a : Option Addr) (cap : Nat), v = .slice a l.length cap ∧ l.length ≤ cap ∧ cap ≤ 9223372036854775807 ∧
    ∀ j x, l[j]? = some x → ∃ g off, a = some ⟨g, off, none⟩ ∧ g < w.heap.size ∧ w.cell? ⟨g, off + j * 5, none⟩ = some (.int .i64 (x.kind : Int)) ∧ w.cell? ⟨g, off + j * 5 + 1, none⟩ = some (.string ⟨x.text.toArray⟩) ∧ w.cell? ⟨g, off + j * 5 + 2, none⟩ = some (.int .u64 (x.int : Int)) ∧
      w.cell? ⟨g, off + j * 5 + 3, none⟩ = some (.int .i64 (x.at' : Int)) ∧ w.cell? ⟨g, off + j * 5 + 4, none⟩ = some (.int .i64 (x.next : Int)) := by
  rcases h.2 with ⟨rfl, hn⟩ | ⟨g, off, cap, cur, fz, rfl, _, hgg, hc, hm, _⟩
  · refine ⟨none, 0, by rw [hn], by omega, by omega, fun j x hj => ?_⟩
    have := (List.getElem?_eq_some_iff.1 hj).1
    omega
  · refine ⟨_, cap, rfl, hc, hm, fun j x hj => ⟨g, off, rfl, (Array.getElem?_eq_some_iff.1 hgg).1, ?_⟩⟩
    have hcl := h.cells rfl
    have key : ∀ k u, k < 5 → x.cells.toList[k]? = some u → w.cell? ⟨g, off + j * 5 + k, none⟩ = some u := fun k u hk hu => by
      rw [Nat.add_assoc]
      exact hcl _ _ (by rw [flatW_at2 l j x k hj hk]; exact hu)
    exact ⟨key 0 _ (by omega) rfl, key 1 _ (by omega) rfl, key 2 _ (by omega) rfl, key 3 _ (by omega) rfl, key 4 _ (by omega) rfl⟩

end Go.Proofs.YtaelanpmgckfkaaRRRRDoor
