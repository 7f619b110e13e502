/- An argument of bytes, opened; any argument that nobody wrote, shut. -/
import Derived.Test.YtaelanpmgckfkaaRRRRDoorRows
import Derived.Test.YtaelanpmgckfkaaRRRRDoorLexPlain
import Derived.ProofKit
import Derived.OpenShut
import Derived.ShutString
import Derived.Deep.DeepHandedRow
import Derived.Carry
namespace Go.Proofs.YtaelanpmgckfkaaRRRRDoor
open Go.ChangeShapes Go.WideShapes Go.ChangeAt Go.RowKit Go.Av

theorem laidOut : laidOutB Tryd.prog = true := by kernel_rfl
theorem shape_lt {w : World} {b : Nat} {x : TypeId × Nat} (h : w.shape? b = some x) : b < w.heap.size := by
  unfold World.shape? at h
  cases hb : w.heap[b]? with
  | none => rw [hb] at h; cases h
  | some o => exact (Array.getElem?_eq_some_iff.1 hb).1
theorem slice_in {P : Program} {W : World} {r : Reach} {b0 : Nat} {t e : TypeId} {a : Addr} {len cap : Nat} (ht : P.underlying t = some (.slice e)) (h : Value.okWide P W r b0 t (.slice (some a) len cap)) : a.block < W.heap.size ∧ a.spot = none ∧ len ≤ cap := by
  simp only [Value.okWide, ht, Cell.okWide, Cell.ok, World.has] at h
  obtain ⟨h1, _, _, h2, row, cells, h3, _⟩ := h
  exact ⟨shape_lt h3, h2, h1⟩
theorem open_bytes_at {P : Program} {t e : TypeId} {H : Type} {enc : TypeId × Value → H} {W : World} {r : Reach} {b0 : Nat} {v : Value} {d : DataW H} {ps : List MemPlace} (ht : P.underlying t = some (.slice e)) (he : P.underlying e = some (.int .u8)) (hc8 : P.cellsOf e = 1) (hval : Value.okWide P W r b0 t v)
    (h : DataW.Trod enc P W 0 (fun _ => true) true t v d ps) : ∃ bs, RdB W.heap.size W v bs := by
  obtain ⟨a0, len, cap, rfl⟩ := okWide_slice ht hval
  obtain ⟨fuel, hf⟩ := h
  rcases open_ints ht he hc8 hf with ⟨hcs, hx⟩ | ⟨a, len', cap', zs, hcs, _, hl, hm, hz, hx, hcell, hwz⟩
  · simp [Value.cells] at hcs
    obtain ⟨rfl, rfl, rfl⟩ := hcs
    exact ⟨[], .inl ⟨rfl, rfl⟩⟩
  · simp [Value.cells] at hcs
    obtain ⟨rfl, rfl, rfl⟩ := hcs
    obtain ⟨hb, hs, _⟩ := slice_in ht hval
    obtain ⟨g, off, spot⟩ := a
    simp only at hb hs
    subst hs
    simp only [if_true] at hz
    have hlen : ((zs.take len).map fun z => UInt8.ofNat z.toNat).length = len := by simp; omega
    refine ⟨(zs.take len).map fun z => UInt8.ofNat z.toNat, .inr ⟨g, off, cap, by rw [hlen], hb, by omega, hm, ?_⟩⟩
    intro j u hu
    have hj : j < len := by
      have := (List.getElem?_eq_some_iff.1 hu).1
      rw [bv_length, hlen] at this
      exact this
    have hjz : j < zs.length := by omega
    have hc := hcell j hjz
    have hw := hwz zs[j] (List.getElem_mem hjz)
    have hg : zs.getD j 0 = zs[j] := by simp [List.getD, hjz]
    have h255 : 0 ≤ zs[j] ∧ zs[j] ≤ 255 := by
      simp only [Lit.wf] at hw
      have : IntKind.u8.min = 0 ∧ IntKind.u8.max = 255 := by decide
      simp_all
    have he : u = .int .u8 zs[j] := by
      simp only [bv, List.map_map, List.getElem?_map, List.getElem?_take, if_pos hj, List.getElem?_eq_getElem hjz, Option.map_some, Option.some.injEq, Function.comp] at hu
      rw [← hu]
      congr 1
      rw [UInt8.toNat_ofNat']
      omega
    rw [he, ← hg, ← hc, Addr.add_plain]
set_option maxRecDepth 100000 in
theorem open_bytes {H : Type} {enc : TypeId × Value → H} {W : World} {r : Reach} {b0 : Nat} {v : Value} {d : DataW H} {ps : List MemPlace} (hval : Value.okWide Tryd.prog W r b0 22 v)
    (h : DataW.Trod enc Tryd.prog W 0 (fun _ => true) true 22 v d ps) : ∃ bs, RdB W.heap.size W v bs :=
  open_bytes_at (P := Tryd.prog) (e := 5) Tryd.underlying22 Tryd.underlying5 (by kernel_rfl) hval h
/-- An argument that nobody wrote reads as it did. -/
theorem kept_arg {H : Type} {enc : TypeId × Value → H} {t : TypeId} {W W' : World} {v : Value} {d : DataW H} {ps : List MemPlace} (hr : Tryd.prog.readableRec t = true) (hrow : t < Tryd.prog.types.size)
    (h : DataW.Trod enc Tryd.prog W 0 (fun _ => true) true t v d ps) (hb : Below W.heap.size W W') (hlt : ∀ x ∈ ps, x.block < W.heap.size) : DataW.Trod enc Tryd.prog W' 0 (fun b => decide (b < W.heap.size)) true t v d ps :=
  Below.trod laidOut hr hrow h hb hlt
end Go.Proofs.YtaelanpmgckfkaaRRRRDoor
