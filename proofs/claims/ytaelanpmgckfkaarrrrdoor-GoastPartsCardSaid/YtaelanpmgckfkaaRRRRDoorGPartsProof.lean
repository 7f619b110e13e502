/- GoastParts: the row, then its card. -/
import Derived.Test.YtaelanpmgckfkaaRRRRDoorCards
import Derived.Test.YtaelanpmgckfkaaRRRRDoorTie
import Derived.Test.YtaelanpmgckfkaaRRRRDoorGParts
import Derived.Test.YtaelanpmgckfkaaRRRRDoorOpenTree
import Derived.Test.YtaelanpmgckfkaaRRRRDoorBytesArg
import Derived.Test.YtaelanpmgckfkaaRRRRDoorLaid
import Derived.ProofKit
import Derived.OpenShut
import Derived.ShutString
import Derived.Deep.DeepHandedRow
import Derived.Lay
namespace Go.Proofs.YtaelanpmgckfkaaRRRRDoor.goastParts
open Go.ChangeShapes Go.WideShapes Go.ChangeAt Go.RowKit Go.Av
open Go.ChangeMaps (open_string shut_string)
set_option linter.unusedVariables false

theorem own : ownKnob Tryd.prog.godebug = none := by kernel_rfl
theorem tab {W : World} (h : laidMetH Tryd.prog Rows.goastPartsRow.laid W) : Tabs W := by
  have h' : laidMet Tryd.prog Rows.goastPartsRow.laid W := h
  obtain ⟨ps, hv, _⟩ := h'
  obtain ⟨⟨u, fr, h1⟩, ps2, hv2⟩ := texts_of_vars (zs := signsL) (g := 0) (t := 67) (e := 9) (n := 29) (by kernel_rfl) (by kernel_rfl) Tryd.underlying67 Tryd.underlying9 (by kernel_rfl) (by kernel_rfl) hv
  obtain ⟨⟨u2, fr2, h2⟩, _⟩ := texts_of_vars (zs := keysL) (g := 1) (t := 69) (e := 9) (n := 22) (by kernel_rfl) (by kernel_rfl) Tryd.underlying69 Tryd.underlying9 (by kernel_rfl) (by kernel_rfl) hv2
  exact ⟨⟨u, fr, h1⟩, ⟨u2, fr2, h2⟩⟩
noncomputable def laidWorld (os : Os) : World := World.laidAll Tryd.prog os Rows.goastPartsRow.laid
theorem laid_met (os : Os) : laidMet Tryd.prog Rows.goastPartsRow.laid ((laidWorld os).forCall (fun _ _ => 0) ⟨#[], #[Value.agg #[.int .i64 0, .string ByteArray.empty, .int .u64 0, .int .i64 0, .string ByteArray.empty, .slice none 0 0, .slice none 0 0, .slice none 0 0]], []⟩).memory :=
  laidMet_laidAll _ (by kernel_rfl) (by kernel_rfl)
theorem reads (os : Os) {H : Type} (enc : TypeId × Value → H) : ∃ places, DataW.whole enc Tryd.prog ((laidWorld os).forCall (fun _ _ => 0) ⟨#[], #[Value.agg #[.int .i64 0, .string ByteArray.empty, .int .u64 0, .int .i64 0, .string ByteArray.empty, .slice none 0 0, .slice none 0 0, .slice none 0 0]], []⟩).memory Tryd.f7.params.toList Rows.goastPartsSpec.vars false #[Value.agg #[.int .i64 0, .string ByteArray.empty, .int .u64 0, .int .i64 0, .string ByteArray.empty, .slice none 0 0, .slice none 0 0, .slice none 0 0]].toList 8 = some ([.agg [.lit (.int .i64 0), .lit (.string []), .lit (.int .u64 0), .agg [.lit (.int .i64 0), .lit (.string []), .nil], .nil, .nil]], [], places) :=
  ⟨[], by kernel_rfl⟩

set_option maxRecDepth 100000 in
theorem lifted (os : Os) (started : os.Started) (H : Type) (enc : TypeId × Value → H) (F : Stop.Interp) :
    ReturnsInHanded {} Tryd.checked os 7 .any ((OpenSpec.ofChange Rows.goastPartsSpec).preRow enc Tryd.prog Tryd.f7 Rows.goastPartsRow.domain false Rows.goastPartsRow.laid) (((OpenSpec.ofChange Rows.goastPartsSpec).at F).post enc Tryd.prog Tryd.f7 false true false false) := by
  obtain ⟨places, hx⟩ := reads os enc
  refine returnsInHanded_of_row (C := Tryd.checked) (s := OpenSpec.ofChange Rows.goastPartsSpec) own started (by kernel_rfl) Tryd.func7
    (witness_row_at (enc := enc) (C := Tryd.checked) false (laidWorld os) #[Value.agg #[.int .i64 0, .string ByteArray.empty, .int .u64 0, .int .i64 0, .string ByteArray.empty, .slice none 0 0, .slice none 0 0, .slice none 0 0]] (World.laidAll_os _ _ _) (by kernel_rfl) (by kernel_rfl) (by kernel_rfl)
      (OpenSpec.preRow_of_cond 8 hx (by kernel_rfl) (fun k hk => by cases hk) (by kernel_rfl) (laid_met os))) ?_
  intro W base args ds gs before hval hW _ _ _ hL _ _
  have hW' := hW
  obtain ⟨p, q, hA0, hV, rfl, hfz, hnd⟩ := hW
  have hA : DataW.TrodAll enc Tryd.prog W 0 (fun _ => true) true Tryd.f7.params.toList args.toList ds p := hA0
  rw [Tryd.params7] at hA hval
  obtain ⟨v0, vs0, d0, ds0, p0, q0, hargs, rfl, rfl, h0, r0⟩ := trodAll_cons hA
  obtain ⟨rfl, rfl, rfl⟩ := trodAll_nil r0
  obtain rfl : args = #[v0] := by cases args; simp_all
  obtain ⟨rfl, rfl⟩ := trodVars_none hV
  have hlt : ∀ x ∈ (p0 ++ []), x.block < W.heap.size := fun x hx => by simpa using hW'.lt x (by simpa using hx)
  obtain ⟨c0, rfl, _⟩ := okWide_struct Tryd.underlying56 (hval 0 56 v0 rfl rfl)
  obtain ⟨u0, g0⟩ := h0
  obtain ⟨x0, xa0, xb0, xc0, hc0, hb0⟩ := open_ex u0 c0.toList _ g0
  have h0 := (⟨u0, g0⟩ : DataW.Trod enc Tryd.prog W 0 (fun _ => true) true 56 (.agg c0) d0 p0)
  obtain rfl : c0 = exCells x0 xa0 xb0 xc0 := Array.toList_inj.1 hc0
  clear hA0 hval
  simp only [List.append_nil] at hW'
  have hmx : maxLen = 9223372036854775807 := rfl
  refine (parts_walk x0 xa0 xb0 xc0 W hb0 (tab hL) (by have := (tab hL).size; omega)).mono fun e W' ⟨he, bel⟩ => ?_
  subst he
  exact ⟨_, rfl, _, _, _, [], _, [], hW', trodAll_mk1 (shut_bool Tryd.underlying4 _), (trodAll_cons_mk (kept_arg (by kernel_rfl) (of_decide_eq_true (by kernel_rfl)) h0 bel (fun x hx => hlt x (by simp [hx]))) trodAll_mk0), rfl, bel.frame _, fun h => by cases h⟩

theorem said : Rows.GoastPartsSaid :=
  OpenClaim.holds_of_cond 7 Tryd.f7 rfl rfl rfl rfl rfl rfl rfl ⟨rfl, rfl, rfl, rfl, rfl⟩ rfl rfl rfl rfl rfl (by kernel_rfl) Tryd.func7 (by kernel_rfl)
    (of_decide_eq_true (by kernel_rfl)) (by unfold Func.isWrapper; first | (rw [if_pos (by decide +kernel)]; kernel_rfl) | (rw [if_neg (by decide +kernel)]; exact ⟨rfl, rfl⟩))
    (fun os started H enc _ F => by rw [OpenClaim.pre_eq_preRow]; exact lifted os started H enc F)
theorem plain (f : FuncId) (fn : Func) (hf : Tryd.pinned.checked.prog.funcNamed "avocet/avocetlaw24.GoastParts" = some f) (hfn : Tryd.pinned.checked.prog.funcs[f]? = some fn) :
    false = Tryd.pinned.checked.prog.looks [] ∧ ∀ (j : Nat) t, fn.params[j]? = some t → Tryd.pinned.checked.prog.wantsStandIn t = false := by
  obtain rfl : f = 7 := Option.some.inj ((show Tryd.prog.funcNamed "avocet/avocetlaw24.GoastParts" = some 7 by kernel_rfl).symm.trans hf) |>.symm
  obtain rfl : fn = Tryd.f7 := (Option.some.inj (Tryd.func7.symm.trans hfn)).symm
  refine ⟨by kernel_rfl, fun j t ht => ?_⟩
  rw [Tryd.params7] at ht
  have hm := Array.mem_of_getElem? ht
  have : t = 56 := by simpa using hm
  subst this
  exact (show Tryd.prog.wantsStandIn 56 = false by kernel_rfl)
theorem proved : Rows.GoastPartsCardSaid :=
  Claim7.holds_tied_plain_at .later [] _ _ _ _ said (fun _ h => by cases h) (by kernel_rfl) (fun _ h => by cases h) goastParts_row_tie rfl ⟨rfl, rfl⟩ (by kernel_rfl) rfl plain (by kernel_rfl)
#print axioms proved
end Go.Proofs.YtaelanpmgckfkaaRRRRDoor.goastParts
