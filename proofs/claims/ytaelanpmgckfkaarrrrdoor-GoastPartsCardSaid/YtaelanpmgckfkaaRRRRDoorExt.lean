/- A region that draws its order and whose callees make memory of their own: the class of worlds that a world grows into. -/
import Derived.Test.YtaelanpmgckfkaaRRRRDoorOwn
import Derived.BigQuiet
namespace Go.Av
open Go.RowKit

/-- A world that w may have grown into. -/
noncomputable def ext (w u : World) : World := by
  classical
  exact if Below w.heap.size w u then u else w
theorem ext_of {w u : World} (h : Below w.heap.size w u) : ext w u = u := by
  unfold ext
  exact if_pos h
theorem ext_below (w u : World) : Below w.heap.size w (ext w u) := by
  by_cases h : Below w.heap.size w u
  · rw [ext_of h]
    exact h
  · have : ext w u = w := by unfold ext; exact if_neg h
    rw [this]
    exact Below.refl _ _
theorem in_ext {w u : World} (h : Below w.heap.size w u) : ∃ v, u = ext w v := ⟨u, (ext_of h).symm⟩
theorem ext_cell (w u : World) (a : Addr) (h : a.block < w.heap.size) : (ext w u).cell? a = w.cell? a := (ext_below w u).cell (p := a) h
theorem below_after {w : World} (u : World) {w' : World} (h : Below (ext w u).heap.size (ext w u) w') : ∃ v, w' = ext w v :=
  in_ext ((ext_below w u).trans (h.mono (ext_below w u).size))
theorem below_drawn (w : World) : Below w.heap.size w { w with drawn := w.drawn + 1 } := ⟨rfl, rfl, rfl, Nat.le_refl _, fun _ _ => rfl⟩
/-- The region's law at that class. -/
theorem wp_region_ext {P : Program} {id : Nat} {Q : Exit → Act → World → Prop} {a : Act} {w : World} {l : List Oper} (hm : P.follows .mixedOrders = true) (hB : Region.lexB .any l.toArray = true)
    (h : wpQuiet P l.toArray (fun w' => ∃ u, w' = ext w u) (fun a' => ∀ w', (∃ u, w' = ext w u) → Q .normal a' w') l a) : Code.wp P (.region id l.toArray true) Q a w :=
  wp_region_quiet (C := fun w' => ∃ u, w' = ext w u) hm hB (in_ext (below_drawn w)) (by simpa using h)
end Go.Av
