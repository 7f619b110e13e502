/- golex.Take, wherever it stands. -/
import Derived.Test.YtaelanpmgckfkaaRRRRDoorTake
import Derived.Test.YtaelanpmgckfkaaRRRRDoorNumber
namespace Go.Proofs.YtaelanpmgckfkaaRRRRDoor
open Go.RowKit Go.Av

/-- What word stands at a place, and why there is none. -/
def signAt (l : List UInt8) : Option (List UInt8) := signsL.find? fun s => hasPre l s
def textAt (bs : List UInt8) (p e : Nat) : List UInt8 := (bs.drop p).take (e - p)
def takeAt (bs : List UInt8) (p : Nat) : WordS × Nat :=
  if p = bs.length then (⟨0, [], 0, p, p⟩, 0)
  else if letterB (bs.getD p 0) = true then (⟨if reservedS (textAt bs p (runAt wordB bs p)) = true then 4 else 1, textAt bs p (runAt wordB bs p), 0, p, runAt wordB bs p⟩, 0)
  else if digitB (bs.getD p 0) = true then (if numberOk bs p = true then (numberW bs p, 0) else (WordS.zero, 50))
  else match signAt (bs.drop p) with
    | some s => (⟨3, s, 0, p, p + s.length⟩, 0)
    | none => (WordS.zero, 50)
def takeS (bs : List UInt8) (i : Int) : WordS × Nat := if i < 0 ∨ i > bs.length then (WordS.zero, 2) else takeAt bs (whiteAt bs i.toNat)
def Took (r : WordS × Nat) (w : World) (e : Ending) (w' : World) : Prop := e = .returned (.tuple #[.agg r.1.cells, .int .i64 (r.2 : Int)]) ∧ Below w.heap.size w w'

def st5 (W : World) (b : Nat) (v0 v1 v2 v3 v4 : Value) : World := ((((W.setCell ⟨b, 0, none⟩ v0).setCell ⟨b, 1, none⟩ v1).setCell ⟨b, 2, none⟩ v2).setCell ⟨b, 3, none⟩ v3).setCell ⟨b, 4, none⟩ v4
/-- The world that holds the result's five cells, at first nought. -/
def nought (w : World) : World := w.alloc (.cells #[.int .i64 0, .string ⟨#[]⟩, .int .u64 0, .int .i64 0, .int .i64 0] 26)
theorem nought_size (w : World) : (nought w).heap.size = w.heap.size + 1 := by simp [nought]
theorem nought_below (w : World) : Below w.heap.size w (nought w) := (Below.refl _ _).alloc (Nat.le_refl _) _
theorem st5_cells (w W : World) (hb : Below (nought w).heap.size (nought w) W) (v0 v1 v2 v3 v4 : Value) :
    (st5 W w.heap.size v0 v1 v2 v3 v4).cell? ⟨w.heap.size, 0, none⟩ = some v0 ∧ (st5 W w.heap.size v0 v1 v2 v3 v4).cell? ⟨w.heap.size, 1, none⟩ = some v1 ∧ (st5 W w.heap.size v0 v1 v2 v3 v4).cell? ⟨w.heap.size, 2, none⟩ = some v2 ∧
    (st5 W w.heap.size v0 v1 v2 v3 v4).cell? ⟨w.heap.size, 3, none⟩ = some v3 ∧ (st5 W w.heap.size v0 v1 v2 v3 v4).cell? ⟨w.heap.size, 4, none⟩ = some v4 ∧ Below w.heap.size w (st5 W w.heap.size v0 v1 v2 v3 v4) := by
  have hcl0 : ∀ k : Nat, k < 5 → ∃ v, W.cell? ⟨w.heap.size, k, none⟩ = some v := by
    intro k hk
    rw [hb.cell (p := ⟨w.heap.size, k, none⟩) (by rw [nought_size]; exact Nat.lt_succ_self _)]
    simp only [nought, World.cell?, World.alloc, Array.getElem?_push_size]
    have : k = 0 ∨ k = 1 ∨ k = 2 ∨ k = 3 ∨ k = 4 := by omega
    rcases this with rfl | rfl | rfl | rfl | rfl <;> exact ⟨_, rfl⟩
  obtain ⟨u0, h0⟩ := hcl0 0 (by omega)
  obtain ⟨u1, h1⟩ := hcl0 1 (by omega)
  obtain ⟨u2, h2⟩ := hcl0 2 (by omega)
  obtain ⟨u3, h3⟩ := hcl0 3 (by omega)
  obtain ⟨u4, h4⟩ := hcl0 4 (by omega)
  have hb0 : Below w.heap.size w W := (nought_below w).trans (hb.mono (by rw [nought_size]; omega))
  unfold st5
  refine ⟨?_, ?_, ?_, ?_, ?_, ?_⟩
  · exact (cell_off _ _ 4 0 _ (by decide)).trans ((cell_off _ _ 3 0 _ (by decide)).trans ((cell_off _ _ 2 0 _ (by decide)).trans ((cell_off _ _ 1 0 _ (by decide)).trans (World.cell?_setCell_same _ _ _ (u := u0) (h0)))))
  · exact (cell_off _ _ 4 1 _ (by decide)).trans ((cell_off _ _ 3 1 _ (by decide)).trans ((cell_off _ _ 2 1 _ (by decide)).trans (World.cell?_setCell_same _ _ _ (u := u1) ((cell_off _ _ 0 1 _ (by decide)).trans (h1)))))
  · exact (cell_off _ _ 4 2 _ (by decide)).trans ((cell_off _ _ 3 2 _ (by decide)).trans (World.cell?_setCell_same _ _ _ (u := u2) ((cell_off _ _ 1 2 _ (by decide)).trans ((cell_off _ _ 0 2 _ (by decide)).trans (h2)))))
  · exact (cell_off _ _ 4 3 _ (by decide)).trans (World.cell?_setCell_same _ _ _ (u := u3) ((cell_off _ _ 2 3 _ (by decide)).trans ((cell_off _ _ 1 3 _ (by decide)).trans ((cell_off _ _ 0 3 _ (by decide)).trans (h3)))))
  · exact World.cell?_setCell_same _ _ _ (u := u4) ((cell_off _ _ 3 4 _ (by decide)).trans ((cell_off _ _ 2 4 _ (by decide)).trans ((cell_off _ _ 1 4 _ (by decide)).trans ((cell_off _ _ 0 4 _ (by decide)).trans h4))))
  · exact ((((hb0.setCell (Nat.le_refl _) _).setCell (Nat.le_refl _) _).setCell (Nat.le_refl _) _).setCell (Nat.le_refl _) _).setCell (Nat.le_refl _) _
theorem nought_cell (w W : World) (hb : Below (nought w).heap.size (nought w) W) (k : Nat) : W.cell? ⟨w.heap.size, k, none⟩ = (w.alloc (.cells #[.int .i64 0, .string ⟨#[]⟩, .int .u64 0, .int .i64 0, .int .i64 0] 26)).cell? ⟨w.heap.size, k, none⟩ :=
  hb.cell (p := ⟨w.heap.size, k, none⟩) (by rw [nought_size]; exact Nat.lt_succ_self _)
theorem nought_frozen (w W : World) (hb : Below (nought w).heap.size (nought w) W) (k : Nat) : W.frozen? ⟨w.heap.size, k, none⟩ = (w.alloc (.cells #[.int .i64 0, .string ⟨#[]⟩, .int .u64 0, .int .i64 0, .int .i64 0] 26)).frozen? ⟨w.heap.size, k, none⟩ :=
  hb.frozen (p := ⟨w.heap.size, k, none⟩) (by rw [nought_size]; exact Nat.lt_succ_self _)

set_option maxRecDepth 100000 in
set_option maxHeartbeats 1000000 in
theorem take_arg (v : Value) (n : Nat) (i : Int) (w : World) (hv : ∃ a cap, v = .slice a n cap) (hi : i < 0 ∨ (¬ i < 0 ∧ i > n)) : Calls Tryd.prog 11 #[v, .int .i64 i] w (Took (WordS.zero, 2) w) := by
  obtain ⟨a, cap, rfl⟩ := hv
  rcases hi with h | ⟨h, h'⟩
  all_goals
    go_enter Tryd.func11, Tryd.ntmps11
    go_wp2_with fail
    exact bodyPost_ret (v := .tuple #[.agg WordS.zero.cells, .int .i64 2]) (by simp [results, Tryd.results11, WordS.cells, WordS.zero, go_sem]) rfl ⟨rfl, (Below.refl _ _).alloc (Nat.le_refl _) _⟩

set_option maxRecDepth 100000 in
set_option maxHeartbeats 1000000 in
theorem take_nil (w : World) : Calls Tryd.prog 11 #[.slice none 0 0, .int .i64 0] w (Took (takeS [] 0) w) := by
  go_enter Tryd.func11, Tryd.ntmps11
  go_wp2_with fail
  refine (white_nil _).mono ?_
  rintro e w1 ⟨rfl, rfl⟩
  go_wp2_with fail
  exact bodyPost_ret (v := .tuple #[.agg (takeS [] 0).1.cells, .int .i64 0]) (by simp [results, Tryd.results11, WordS.cells, takeS, takeAt, whiteAt, skipM_nil, go_sem]) rfl ⟨rfl, (Below.refl _ _).alloc (Nat.le_refl _) _⟩
end Go.Proofs.YtaelanpmgckfkaaRRRRDoor
