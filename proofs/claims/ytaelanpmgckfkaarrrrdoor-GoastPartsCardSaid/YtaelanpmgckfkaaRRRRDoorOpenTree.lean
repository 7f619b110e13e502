/- An argument that is an expression, opened. -/
import Derived.Test.YtaelanpmgckfkaaRRRRDoorTree
import Derived.Test.YtaelanpmgckfkaaRRRRDoorBytesArg
namespace Go.Proofs.YtaelanpmgckfkaaRRRRDoor
open Go.ChangeShapes Go.WideShapes Go.ChangeAt Go.RowKit Go.Av

theorem list_of {α : Type} (Q : Nat → α → Prop) : ∀ len : Nat, (∀ i < len, ∃ a, Q i a) → ∃ l : List α, l.length = len ∧ ∀ i (hi : i < l.length), Q i l[i]
  | 0, _ => ⟨[], rfl, fun i hi => by cases hi⟩
  | n + 1, h => by
    obtain ⟨l, hl, hq⟩ := list_of Q n (fun i hi => h i (by omega))
    obtain ⟨a, ha⟩ := h n (by omega)
    refine ⟨l ++ [a], by simp [hl], fun i hi => ?_⟩
    by_cases hin : i < l.length
    · rw [List.getElem_append_left hin]
      exact hq i hin
    · have : i = n := by simp at hi; omega
      subst this
      have hla : (l ++ [a])[i]'hi = a := by
        rw [List.getElem_append_right (by omega)]
        simp
      rw [hla]
      exact ha
theorem cell_in {w : World} {a : Addr} {v : Value} (h : w.cell? a = some v) : a.block < w.heap.size ∧ a.spot = none := by
  unfold World.cell? at h
  cases hb : w.heap[a.block]? with
  | none => rw [hb] at h; cases h
  | some o =>
    refine ⟨(Array.getElem?_eq_some_iff.1 hb).1, ?_⟩
    rw [hb] at h
    cases o <;> simp at h
    obtain ⟨h1, _⟩ := h
    exact h1

section
variable {H : Type} {enc : TypeId × Value → H} {W : World} {sp : Nat → Bool} {held : Bool}
theorem cs3 : Tryd.prog.cellsOf 3 = 1 := by kernel_rfl
theorem cs9 : Tryd.prog.cellsOf 9 = 1 := by kernel_rfl
theorem csT : Tryd.prog.cellsOf 53 = 3 := by kernel_rfl
theorem csTs : Tryd.prog.cellsOf 51 = 1 := by kernel_rfl
theorem csE : Tryd.prog.cellsOf 56 = 8 := by kernel_rfl
theorem csEs : Tryd.prog.cellsOf 54 = 1 := by kernel_rfl
theorem csS : Tryd.prog.cellsOf 41 = 1 := by kernel_rfl
theorem csU : Tryd.prog.cellsOf 24 = 1 := by kernel_rfl

set_option maxRecDepth 100000 in
theorem open_ty : ∀ (fuel : Nat) (cs : List Value) (y : DataW H × List MemPlace), DataW.trod enc Tryd.prog W 0 sp held fuel 53 cs = some y → ∃ t v, cs = (tyCells t v).toList ∧ RdTy W.heap.size W t v := by
  intro fuel
  induction fuel using Nat.strongRecOn with
  | _ fuel ih =>
    intro cs y h
    obtain ⟨xs, n, rfl, _, hl, hxl, hf⟩ := DataW.trod_struct Tryd.underlying53 h
    rw [csT] at hl
    have hxl3 : xs.length = 3 := hxl
    match cs, hl with
    | [c0, c1, c2], _ =>
      have h0 : DataW.trod enc Tryd.prog W 0 sp held n 3 (([c0, c1, c2].drop 0).take (Tryd.prog.cellsOf 3)) = xs[0]? := hf 0 _ rfl
      have h1 : DataW.trod enc Tryd.prog W 0 sp held n 9 (([c0, c1, c2].drop 1).take (Tryd.prog.cellsOf 9)) = xs[1]? := hf 1 _ rfl
      have h2 : DataW.trod enc Tryd.prog W 0 sp held n 51 (([c0, c1, c2].drop 2).take (Tryd.prog.cellsOf 51)) = xs[2]? := hf 2 _ rfl
      rw [cs3, List.getElem?_eq_getElem (by omega)] at h0
      rw [cs9, List.getElem?_eq_getElem (by omega)] at h1
      rw [csTs, List.getElem?_eq_getElem (by omega)] at h2
      obtain ⟨k, e0, _, _⟩ := DataW.trod_int Tryd.underlying3 (show DataW.trod enc Tryd.prog W 0 sp held n 3 [c0] = some _ from h0)
      obtain ⟨s, e1, _, hs⟩ := DataW.trod_string Tryd.underlying9 (show DataW.trod enc Tryd.prog W 0 sp held n 9 [c1] = some _ from h1)
      obtain rfl : c0 = .int .i64 k := by simpa using e0
      obtain rfl : c1 = .string s := by simpa using e1
      have hss : s = ⟨s.data.toList.toArray⟩ := by
        apply ByteArray.ext
        simp
      have hsl : s.data.toList.length ≤ 9223372036854775807 := by
        have : s.data.toList.length = s.size := by rw [Array.length_toList]; rfl
        rw [this]
        exact hs
      rcases DataW.trod_slice Tryd.underlying51 (show DataW.trod enc Tryd.prog W 0 sp held n 51 [c2] = some _ from h2) with ⟨e2, _⟩ | ⟨a, len, cap, elems, rest, n', rfl, e2, _, _, hlc, hcm, hel, hq, _⟩
      · obtain rfl : c2 = .slice none 0 0 := by simpa using e2
        refine ⟨.mk k s.data.toList [], .slice none 0 0, ?_, .mk k s.data.toList [] none 0 (fun _ => .slice none 0 0) (Nat.le_refl _) (by omega) hsl (fun h => absurd rfl h) (fun j h => by cases h)⟩
        show _ = [Value.int .i64 k, .string ⟨s.data.toList.toArray⟩, .slice none 0 0]
        rw [← hss]
      · obtain rfl : c2 = .slice (some a) len cap := by simpa using e2
        obtain ⟨l, hll, hlq⟩ := list_of (fun i (p : TyT × Value) => (∀ q, q < 3 → W.cell? (a.add (i * 3 + q)) = (tyCells p.1 p.2)[q]?) ∧ RdTy W.heap.size W p.1 p.2) len (fun i hi => by
          have hqi := hq i hi
          rw [List.getElem?_eq_getElem (by omega), csT, Option.bind_eq_some_iff] at hqi
          obtain ⟨ci, hci, hti⟩ := hqi
          obtain ⟨ti, vi, rfl, hri⟩ := ih n' (by omega) ci _ hti
          refine ⟨(ti, vi), fun q hq3 => ?_, hri⟩
          have := (World.cells?_some hci).2.2 q hq3
          rw [Addr.add_add] at this
          rw [this]
          simp)
        have hlen : (l.map (·.1)).length = len := by rw [List.length_map]; exact hll
        refine ⟨.mk k s.data.toList (l.map (·.1)), .slice (some a) len cap, ?_, ?_⟩
        · show _ = [Value.int .i64 k, .string ⟨s.data.toList.toArray⟩, .slice (some a) len cap]
          rw [← hss]
        · have hm := RdTy.mk (B := W.heap.size) (W := W) k s.data.toList (l.map (·.1)) (some a) cap (fun j => (l.getD j (.mk 0 [] [], .slice none 0 0)).2) (by omega) hcm hsl (fun hne => ?_) (fun j hj => ?_)
          · rw [hlen] at hm
            exact hm
          · have hpos : 0 < l.length := by
              rcases Nat.eq_zero_or_pos l.length with e | e
              · exact absurd (by rw [List.eq_nil_of_length_eq_zero e]; rfl) hne
              · exact e
            have hfst := (hlq 0 hpos).1 0 (by omega)
            have hin : W.cell? a = some (.int .i64 (l[0].1).kind) := hfst
            obtain ⟨hblk, hspot⟩ := cell_in hin
            obtain ⟨g, off, spot⟩ := a
            simp only at hspot hblk
            subst hspot
            refine ⟨g, off, rfl, hblk, fun j hj => ?_⟩
            have hj' : j < l.length := by rw [List.length_map] at hj; exact hj
            have hcj := (hlq j hj').1
            rw [List.getElem_map]
            have hgd : l.getD j (.mk 0 [] [], .slice none 0 0) = l[j] := by rw [List.getD_eq_getElem?_getD, List.getElem?_eq_getElem hj']; rfl
            rw [hgd]
            have c0 := hcj 0 (by omega)
            have c1 := hcj 1 (by omega)
            have c2 := hcj 2 (by omega)
            rw [Addr.add_plain] at c0 c1 c2
            exact ⟨c0, c1, c2⟩
          · have hj' : j < l.length := by rw [List.length_map] at hj; exact hj
            rw [List.getElem_map]
            have hgd : l.getD j (.mk 0 [] [], .slice none 0 0) = l[j] := by rw [List.getD_eq_getElem?_getD, List.getElem?_eq_getElem hj']; rfl
            rw [hgd]
            exact (hlq j hj').2

set_option maxRecDepth 100000 in
theorem open_ss (fuel : Nat) (cv : Value) (y : DataW H × List MemPlace) (h : DataW.trod enc Tryd.prog W 0 sp held fuel 41 [cv] = some y) : ∃ l, RdSs W.heap.size W l cv := by
  rcases DataW.trod_slice Tryd.underlying41 h with ⟨e2, _⟩ | ⟨a, len, cap, elems, rest, n', rfl, e2, _, _, hlc, hcm, hel, hq, _⟩
  · obtain rfl : cv = .slice none 0 0 := by simpa using e2
    exact ⟨[], none, 0, rfl, Nat.le_refl _, by omega, fun s h => (by cases h), fun h => absurd rfl h⟩
  · obtain rfl : cv = .slice (some a) len cap := by simpa using e2
    obtain ⟨l, hll, hlq⟩ := list_of (fun i (s : List UInt8) => W.cell? (a.add i) = some (.string ⟨s.toArray⟩) ∧ s.length ≤ 9223372036854775807) len (fun i hi => by
      have hqi := hq i hi
      rw [List.getElem?_eq_getElem (by omega), cs9, Option.bind_eq_some_iff] at hqi
      obtain ⟨ci, hci, hti⟩ := hqi
      obtain ⟨s, rfl, _, hs⟩ := DataW.trod_string Tryd.underlying9 hti
      refine ⟨s.data.toList, ?_, ?_⟩
      · have := (World.cells?_some hci).2.2 0 (by omega)
        rw [Addr.add_add] at this
        simp only [Nat.mul_one, Nat.add_zero] at this
        rw [this]
        simp
      · have : s.data.toList.length = s.size := by rw [Array.length_toList]; rfl
        rw [this]
        exact hs)
    subst hll
    refine ⟨l, some a, cap, rfl, hlc, hcm, fun s hs => ?_, fun hne => ?_⟩
    · obtain ⟨j, hj, rfl⟩ := List.getElem_of_mem hs
      exact (hlq j hj).2
    · have hpos : 0 < l.length := by
        rcases Nat.eq_zero_or_pos l.length with e | e
        · exact absurd (List.eq_nil_of_length_eq_zero e) hne
        · exact e
      obtain ⟨hblk, hspot⟩ := cell_in (hlq 0 hpos).1
      obtain ⟨g, off, spot⟩ := a
      simp only [Addr.add] at hspot hblk
      subst hspot
      refine ⟨g, off, rfl, hblk, fun j hj => ?_⟩
      have := (hlq j hj).1
      rw [Addr.add_plain] at this
      exact this

abbrev exD : ExT × Value × Value × Value := (.mk 0 [] 0 (.mk 0 [] []) [] [], .slice none 0 0, .slice none 0 0, .slice none 0 0)
set_option maxRecDepth 100000 in
theorem open_ex : ∀ (fuel : Nat) (cs : List Value) (y : DataW H × List MemPlace), DataW.trod enc Tryd.prog W 0 sp held fuel 56 cs = some y → ∃ x a b c, cs = (exCells x a b c).toList ∧ RdEx W.heap.size W x a b c := by
  intro fuel
  induction fuel using Nat.strongRecOn with
  | _ fuel ih =>
    intro cs y h
    obtain ⟨xs, n, rfl, _, hl, hxl, hf⟩ := DataW.trod_struct Tryd.underlying56 h
    rw [csE] at hl
    have hxl6 : xs.length = 6 := hxl
    match cs, hl with
    | [c0, c1, c2, c3, c4, c5, c6, c7], _ =>
      have h0 : DataW.trod enc Tryd.prog W 0 sp held n 3 (([c0, c1, c2, c3, c4, c5, c6, c7].drop 0).take (Tryd.prog.cellsOf 3)) = xs[0]? := hf 0 _ rfl
      have h1 : DataW.trod enc Tryd.prog W 0 sp held n 9 (([c0, c1, c2, c3, c4, c5, c6, c7].drop 1).take (Tryd.prog.cellsOf 9)) = xs[1]? := hf 1 _ rfl
      have h2 : DataW.trod enc Tryd.prog W 0 sp held n 24 (([c0, c1, c2, c3, c4, c5, c6, c7].drop 2).take (Tryd.prog.cellsOf 24)) = xs[2]? := hf 2 _ rfl
      have h3 : DataW.trod enc Tryd.prog W 0 sp held n 53 (([c0, c1, c2, c3, c4, c5, c6, c7].drop 3).take (Tryd.prog.cellsOf 53)) = xs[3]? := hf 3 _ rfl
      have h4 : DataW.trod enc Tryd.prog W 0 sp held n 41 (([c0, c1, c2, c3, c4, c5, c6, c7].drop 6).take (Tryd.prog.cellsOf 41)) = xs[4]? := hf 4 _ rfl
      have h5 : DataW.trod enc Tryd.prog W 0 sp held n 54 (([c0, c1, c2, c3, c4, c5, c6, c7].drop 7).take (Tryd.prog.cellsOf 54)) = xs[5]? := hf 5 _ rfl
      rw [cs3, List.getElem?_eq_getElem (by omega)] at h0
      rw [cs9, List.getElem?_eq_getElem (by omega)] at h1
      rw [csU, List.getElem?_eq_getElem (by omega)] at h2
      rw [csT, List.getElem?_eq_getElem (by omega)] at h3
      rw [csS, List.getElem?_eq_getElem (by omega)] at h4
      rw [csEs, List.getElem?_eq_getElem (by omega)] at h5
      obtain ⟨k, e0, _, _⟩ := DataW.trod_int Tryd.underlying3 (show DataW.trod enc Tryd.prog W 0 sp held n 3 [c0] = some _ from h0)
      obtain ⟨s, e1, _, hs⟩ := DataW.trod_string Tryd.underlying9 (show DataW.trod enc Tryd.prog W 0 sp held n 9 [c1] = some _ from h1)
      obtain ⟨u, e2, _, hu⟩ := DataW.trod_int Tryd.underlying24 (show DataW.trod enc Tryd.prog W 0 sp held n 24 [c2] = some _ from h2)
      obtain ⟨ty, tv, e3, hty⟩ := open_ty n [c3, c4, c5] _ h3
      obtain ⟨ns, hns⟩ := open_ss n c6 _ h4
      obtain rfl : c0 = .int .i64 k := by simpa using e0
      obtain rfl : c1 = .string s := by simpa using e1
      obtain rfl : c2 = .int .u64 u := by simpa using e2
      obtain ⟨rfl, rfl, rfl⟩ : c3 = .int .i64 ty.kind ∧ c4 = .string ⟨ty.name.toArray⟩ ∧ c5 = tv := by simpa [tyCells] using e3
      have hub : 0 ≤ u ∧ u ≤ 18446744073709551615 := by
        simp only [Lit.wf] at hu
        have : IntKind.u64.min = 0 ∧ IntKind.u64.max = 18446744073709551615 := by decide
        simp_all
      have hss : s = ⟨s.data.toList.toArray⟩ := by
        apply ByteArray.ext
        simp
      have hsl : s.data.toList.length ≤ 9223372036854775807 := by
        have : s.data.toList.length = s.size := by rw [Array.length_toList]; rfl
        rw [this]
        exact hs
      rcases DataW.trod_slice Tryd.underlying54 (show DataW.trod enc Tryd.prog W 0 sp held n 54 [c7] = some _ from h5) with ⟨e7, _⟩ | ⟨a, len, cap, elems, rest, n', rfl, e7, _, _, hlc, hcm, hel, hq, _⟩
      · obtain rfl : c7 = .slice none 0 0 := by simpa using e7
        refine ⟨.mk k s.data.toList u ty ns [], c5, c6, .slice none 0 0, ?_, .mk k s.data.toList u ty ns [] c5 c6 none 0 (fun _ => .slice none 0 0) (fun _ => .slice none 0 0) (fun _ => .slice none 0 0) (Nat.le_refl _) (by omega) hsl hub hty hns (fun h => absurd rfl h) (fun j h => by cases h)⟩
        show _ = [Value.int .i64 k, .string ⟨s.data.toList.toArray⟩, .int .u64 u, .int .i64 ty.kind, .string ⟨ty.name.toArray⟩, c5, c6, .slice none 0 0]
        rw [← hss]
      · obtain rfl : c7 = .slice (some a) len cap := by simpa using e7
        obtain ⟨l, hll, hlq⟩ := list_of (fun i (p : ExT × Value × Value × Value) => (∀ q, q < 8 → W.cell? (a.add (i * 8 + q)) = (exCells p.1 p.2.1 p.2.2.1 p.2.2.2)[q]?) ∧ RdEx W.heap.size W p.1 p.2.1 p.2.2.1 p.2.2.2) len (fun i hi => by
          have hqi := hq i hi
          rw [List.getElem?_eq_getElem (by omega), csE, Option.bind_eq_some_iff] at hqi
          obtain ⟨ci, hci, hti⟩ := hqi
          obtain ⟨xi, ai, bi, vi, rfl, hri⟩ := ih n' (by omega) ci _ hti
          refine ⟨(xi, ai, bi, vi), fun q hq3 => ?_, hri⟩
          have := (World.cells?_some hci).2.2 q hq3
          rw [Addr.add_add] at this
          rw [this]
          simp)
        have hlen : (l.map (·.1)).length = len := by rw [List.length_map]; exact hll
        refine ⟨.mk k s.data.toList u ty ns (l.map (·.1)), c5, c6, .slice (some a) len cap, ?_, ?_⟩
        · show _ = [Value.int .i64 k, .string ⟨s.data.toList.toArray⟩, .int .u64 u, .int .i64 ty.kind, .string ⟨ty.name.toArray⟩, c5, c6, .slice (some a) len cap]
          rw [← hss]
        · have hm := RdEx.mk (B := W.heap.size) (W := W) k s.data.toList u ty ns (l.map (·.1)) c5 c6 (some a) cap (fun j => (l.getD j exD).2.1) (fun j => (l.getD j exD).2.2.1) (fun j => (l.getD j exD).2.2.2) (by omega) hcm hsl hub hty hns (fun hne => ?_) (fun j hj => ?_)
          · rw [hlen] at hm
            exact hm
          · have hpos : 0 < l.length := by
              rcases Nat.eq_zero_or_pos l.length with e | e
              · exact absurd (by rw [List.eq_nil_of_length_eq_zero e]; rfl) hne
              · exact e
            have hfst := (hlq 0 hpos).1 0 (by omega)
            have hin : W.cell? a = some (.int .i64 (l[0].1).kind) := hfst
            obtain ⟨hblk, hspot⟩ := cell_in hin
            obtain ⟨g, off, spot⟩ := a
            simp only at hspot hblk
            subst hspot
            refine ⟨g, off, rfl, hblk, fun j hj => ?_⟩
            have hj' : j < l.length := by rw [List.length_map] at hj; exact hj
            have hcj := (hlq j hj').1
            rw [List.getElem_map]
            have hgd : l.getD j exD = l[j] := by rw [List.getD_eq_getElem?_getD, List.getElem?_eq_getElem hj']; rfl
            rw [hgd]
            have d0 := hcj 0 (by omega)
            have d1 := hcj 1 (by omega)
            have d2 := hcj 2 (by omega)
            have d3 := hcj 3 (by omega)
            have d4 := hcj 4 (by omega)
            have d5 := hcj 5 (by omega)
            have d6 := hcj 6 (by omega)
            have d7 := hcj 7 (by omega)
            rw [Addr.add_plain] at d0 d1 d2 d3 d4 d5 d6 d7
            exact ⟨d0, d1, d2, d3, d4, d5, d6, d7⟩
          · have hj' : j < l.length := by rw [List.length_map] at hj; exact hj
            rw [List.getElem_map]
            have hgd : l.getD j exD = l[j] := by rw [List.getD_eq_getElem?_getD, List.getElem?_eq_getElem hj']; rfl
            rw [hgd]
            exact (hlq j hj').2
end
end Go.Proofs.YtaelanpmgckfkaaRRRRDoor
