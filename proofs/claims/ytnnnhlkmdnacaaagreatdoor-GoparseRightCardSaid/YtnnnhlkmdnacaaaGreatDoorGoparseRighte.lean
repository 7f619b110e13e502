/- GoparseRight: what is parsed may be; an expression in parentheses, or returned by a function, is the same one; for any bytes and number, no condition. Part 5 of 5 of the proof. -/
import Derived.Test.YtnnnhlkmdnacaaaGreatDoorGoparseRightd
import Derived.OpenShut
import Derived.ChangeArms
import Derived.Test.YtnnnhlkmdnacaaaGreatDoorRows
import Derived.ProofKit
import Derived.ShutString
import Derived.Deep.DeepHandedRow
import Derived.Carry
import Derived.Lib.LaidTab
import Derived.LaidLaws
import Derived.WalkKit
import Derived.Test.YtnnnhlkmdnacaaaGreatDoorCards
import Derived.Test.YtnnnhlkmdnacaaaGreatDoorTie
import Derived.Lay
namespace Go.Ab
open Go.ChangeShapes Go.WideShapes Go.ChangeAt Go.RowKit Go.Av
def wfFs (T : TypeId → List D → Prop) : List Field → List D → Prop
 | [], ds => ds = []
 | f :: fs, ds => ∃ a b, ds = a ++ b ∧ T f.type a ∧ wfFs T fs b
def wfT (P : Program) : Nat → TypeId → List D → Prop
 | 0, _, _ => False
 | n + 1, t, ds => match P.underlying t with
  | some .bool => ∃ b, ds = [.bool b]
  | some (.int k) => ∃ m, ds = [.int k m] ∧ (Lit.int k m).wf = true
  | some .string => ∃ s, ds = [.str s] ∧ s.length ≤ 9223372036854775807
  | some (.slice e) => ∃ rows, ds = [.sl rows] ∧ rows.length ≤ 9223372036854775807 ∧ ∀ r ∈ rows, wfT P n e r
  | some (.struct fs) => wfFs (wfT P n) fs.toList ds
  | _ => False
def offsOf (P : Program) : List Field → Nat → Option Nat
 | [], o => some o
 | f :: fs, o => if f.offset = o then offsOf P fs (o + P.cellsOf f.type) else none
def plainT (P : Program) (L : List TypeId) (t : TypeId) : Bool :=
 match P.underlying t with
 | some .bool => true
 | some (.int _) => true
 | some .string => true
 | some (.slice e) => L.contains e && decide (0 < P.cellsOf e)
 | some (.struct fs) => fs.toList.all (fun f => L.contains f.type) && offsOf P fs.toList 0 == some (P.cellsOf t)
 | _ => false
theorem list_of2 {α : Type} (Q : Nat → α → Prop) : ∀ len : Nat, (∀ i < len, ∃ a, Q i a) → ∃ l : List α, l.length = len ∧ ∀ i (hi : i < l.length), Q i l[i]
 | 0, _ => ⟨[], rfl, fun i hi => by cases hi⟩
 | n + 1, h => by
  obtain ⟨l, hl, hq⟩ := list_of2 Q n (fun i hi => h i (by omega))
  obtain ⟨a, ha⟩ := h n (by omega)
  refine ⟨l ++ [a], by simp [hl], fun i hi => ?_⟩
  by_cases hin : i < l.length
  ·rw [List.getElem_append_left hin]
   exact hq i hin
  ·have : i = n := by simp at hi; omega
   subst this
   have hla : (l ++ [a])[i]'hi = a := by
    rw [List.getElem_append_right (by omega)]
    simp
   rw [hla]
   exact ha
theorem cell_in2 {w : World} {a : Addr} {v : Value} (h : w.cell? a = some v) : a.block < w.heap.size ∧ a.spot = none := by
 unfold World.cell? at h
 cases hb : w.heap[a.block]? with
 | none => rw [hb] at h; cases h
 | some o =>
  refine ⟨(Array.getElem?_eq_some_iff.1 hb).1, ?_⟩
  rw [hb] at h
  cases o <;> simp at h
  obtain ⟨h1, _⟩ := h
  exact h1
section
variable {P : Program} {H : Type} {enc : TypeId × Value → H} {W : World} {sp : Nat → Bool} {held : Bool}
abbrev NewM (W : World) : Nat → Nat → Prop := fun g _ => W.heap.size ≤ g
def Opened (P : Program) (W : World) (n : Nat) (t : TypeId) (cs : List Value) (ds : List D) : Prop := wfT P n t ds ∧ ds.length = cs.length ∧ ∀ j (h : j < ds.length), DR (NewM W) W ds[j] (cs.getD j undef)
theorem open_fields (n : Nat) (cs : List Value) : ∀ (l : List Field) (o : Nat), offsOf P l o = some cs.length →
 (∀ f ∈ l, ∃ ds, Opened P W n f.type ((cs.drop f.offset).take (P.cellsOf f.type)) ds) → o ≤ cs.length ∧ ∃ ds, wfFs (wfT P n) l ds ∧ ds.length = cs.length - o ∧ ∀ j (h : j < ds.length), DR (NewM W) W ds[j] (cs.getD (o + j) undef)
 | [], o, h, _ => by
  have : o = cs.length := Option.some.inj h
  exact ⟨by omega, [], rfl, by simp; omega, fun j h => by simp at h⟩
 | f :: fs, o, h, hf => by
  unfold offsOf at h
  split at h
  case isFalse => cases h
  rename_i ho
  obtain ⟨a, a1, a2, a3⟩ := hf f List.mem_cons_self
  obtain ⟨b0, b, b1, b2, b3⟩ := open_fields n cs fs _ h fun g hg => hf g (List.mem_cons_of_mem _ hg)
  rw [ho] at a2 a3
  have ha : a.length = P.cellsOf f.type := by rw [a2, List.length_take, List.length_drop]; omega
  refine ⟨by omega, a ++ b, ⟨a, b, rfl, a1, b1⟩, by rw [List.length_append, b2]; omega, fun j hj => ?_⟩
  rcases Nat.lt_or_ge j a.length with hlt | hge
  ·rw [List.getElem_append_left hlt]
   have := a3 j hlt
   rw [List.getD_eq_getElem?_getD, List.getElem?_take, if_pos (by omega), List.getElem?_drop] at this
   rw [List.getD_eq_getElem?_getD]
   exact this
  ·rw [List.getElem_append_right hge]
   have := b3 (j - a.length) (by rw [List.length_append] at hj; omega)
   rw [show o + P.cellsOf f.type + (j - a.length) = o + j by omega] at this
   exact this
theorem open_D (L : List TypeId) (hL : L.all (plainT P L) = true) : ∀ (fuel : Nat) (t : TypeId) (cs : List Value) (y : DataW H × List MemPlace), L.contains t = true → DataW.trod enc P W 0 sp held fuel t cs = some y → ∃ ds, Opened P W fuel t cs ds := by
 intro fuel
 induction fuel with
 | zero => intro t cs y _ h; simp [DataW.trod] at h
 | succ n ih =>
  intro t cs y ht h
  have hpl := List.all_eq_true.1 hL t (List.contains_iff_mem.1 ht)
  unfold plainT at hpl
  split at hpl
  ·rename_i hu
   obtain ⟨b, rfl, _⟩ := DataW.trod_bool hu h
   refine ⟨[.bool b], ?_, rfl, fun j hj => ?_⟩
   ·simp only [wfT, hu]; exact ⟨b, rfl⟩
   ·have : j = 0 := by simp at hj; exact hj
    subst this; exact .bool b
  ·rename_i k hu
   obtain ⟨m, rfl, _, hw⟩ := DataW.trod_int hu h
   refine ⟨[.int k m], ?_, rfl, fun j hj => ?_⟩
   ·simp only [wfT, hu]; exact ⟨m, rfl, hw⟩
   ·have : j = 0 := by simp at hj; exact hj
    subst this; exact .int k m
  ·rename_i hu
   obtain ⟨s, rfl, _, hs⟩ := DataW.trod_string hu h
   have hsl : s.data.toList.length ≤ 9223372036854775807 := by
    have : s.data.toList.length = s.size := by rw [Array.length_toList]; rfl
    rw [this]
    exact hs
   refine ⟨[.str s.data.toList], ?_, rfl, fun j hj => ?_⟩
   ·simp only [wfT, hu]; exact ⟨_, rfl, hsl⟩
   ·have : j = 0 := by simp at hj; exact hj
    subst this
    have := DR.str (M := NewM W) (w := W) s.data.toList hsl
    exact this
  ·rename_i e hu
   simp only [Bool.and_eq_true, decide_eq_true_eq] at hpl
   obtain ⟨he, hpos⟩ := hpl
   rcases DataW.trod_slice hu h with ⟨rfl, _⟩ | ⟨a, len, cap, elems, rest, n', hn', rfl, _, _, hlc, hcm, hel, hq, _⟩
   ·refine ⟨[.sl []], ?_, rfl, fun j hj => ?_⟩
    ·simp only [wfT, hu]; exact ⟨[], rfl, by simp, by simp⟩
    ·have : j = 0 := by simp at hj; exact hj
     subst this
     exact .sl [] 1 none 0 (fun _ _ => undef) (by omega) (by simp) (by simp) (by omega) (fun h => absurd rfl h) (fun j h => by simp at h)
   ·obtain rfl : n = n' := by omega
    obtain ⟨rows, hrl, hrq⟩ := list_of2 (fun i (ds : List D) => ∃ ci, W.cells? 0 (a.add (i * P.cellsOf e)) (P.cellsOf e) = some ci ∧ Opened P W n e ci ds) len (fun i hi => by
     have hqi := hq i hi
     rw [List.getElem?_eq_getElem (by omega), Option.bind_eq_some_iff] at hqi
     obtain ⟨ci, hci, hti⟩ := hqi
     obtain ⟨ds, hds⟩ := ih e ci _ he hti
     exact ⟨ds, ci, hci, hds⟩)
    subst hrl
    have hci : ∀ i (hi : i < rows.length), (rows[i]).length = P.cellsOf e ∧ ∀ q (h : q < (rows[i]).length), ∃ v, W.cell? (a.add (i * P.cellsOf e + q)) = some v ∧ DR (NewM W) W (rows[i])[q] v := by
     intro i hi
     obtain ⟨ci, h1, h2, h3, h4⟩ := hrq i hi
     have h5 := World.cells?_some h1
     have hlen : ci.length = P.cellsOf e := h5.2.1
     refine ⟨by omega, fun q hq => ?_⟩
     have h6 := h5.2.2 q (by omega)
     rw [Addr.add_add] at h6
     refine ⟨ci[q]'(by omega), by rw [h6]; simp, ?_⟩
     have h7 := h4 q hq
     rw [List.getD_eq_getElem?_getD, List.getElem?_eq_getElem (by omega)] at h7
     exact h7
    refine ⟨[.sl rows], ?_, rfl, fun j hj => ?_⟩
    ·simp only [wfT, hu]
     refine ⟨rows, rfl, by have : maxLen = 9223372036854775807 := rfl; omega, fun r hr => ?_⟩
     obtain ⟨i, hi, rfl⟩ := List.mem_iff_getElem.1 hr
     obtain ⟨ci, _, h2, _⟩ := hrq i hi
     exact h2
    ·have : j = 0 := by simp at hj; exact hj
     subst this
     have haddr : rows ≠ [] → a.block < W.heap.size ∧ a.spot = none := by
      intro hne
      have h0 : 0 < rows.length := by
       rcases Nat.eq_zero_or_pos rows.length with e' | e'
       ·exact absurd (List.eq_nil_of_length_eq_zero e') hne
       ·exact e'
      obtain ⟨hl0, hc0⟩ := hci 0 h0
      obtain ⟨v, hv, _⟩ := hc0 0 (by omega)
      rw [show a.add (0 * P.cellsOf e + 0) = a by rw [Nat.zero_mul]; rfl] at hv
      exact cell_in2 hv
     have := DR.sl (M := NewM W) (w := W) rows (P.cellsOf e) (some a) cap (fun i q => (W.cell? (a.add (i * P.cellsOf e + q))).getD undef) hpos (fun r hr => by
      obtain ⟨i, hi, rfl⟩ := List.mem_iff_getElem.1 hr
      exact (hci i hi).1) hlc (by have : maxLen = 9223372036854775807 := rfl; omega) (fun hne => by
      obtain ⟨h1, h2⟩ := haddr hne
      obtain ⟨g, off, spot⟩ := a
      simp only at h1 h2
      subst h2
      refine ⟨g, off, rfl, fun j hj q hq => ⟨by show ¬ W.heap.size ≤ g; omega, ?_⟩⟩
      obtain ⟨v, hv, _⟩ := (hci j hj).2 q hq
      rw [hv]
      rw [Addr.add_plain, ← Nat.add_assoc] at hv
      exact hv) (fun j hj q hq => by
      obtain ⟨v, hv, hd⟩ := (hci j hj).2 q hq
      rw [hv]
      exact hd)
     exact this
  ·rename_i fs hu
   simp only [Bool.and_eq_true] at hpl
   obtain ⟨hfs, hoff⟩ := hpl
   obtain ⟨xs, n', hn', _, hl, hxl, hf⟩ := DataW.trod_struct hu h
   obtain rfl : n = n' := by omega
   have hoff' : offsOf P fs.toList 0 = some cs.length := by rw [hl]; exact eq_of_beq hoff
   obtain ⟨_, ds, h1, h2, h3⟩ := open_fields (W := W) n cs fs.toList 0 hoff' (fun f hfm => by
    obtain ⟨i, hi, rfl⟩ := List.mem_iff_getElem.1 hfm
    have hi' : i < fs.size := by simpa using hi
    have := hf i fs[i] (by simp [hi'])
    rw [List.getElem?_eq_getElem (by omega)] at this
    exact ih _ _ _ (List.all_eq_true.1 hfs _ hfm) this)
   refine ⟨ds, ?_, by omega, fun j hj => ?_⟩
   ·simp only [wfT, hu]; exact h1
   ·have := h3 j hj
    rwa [Nat.zero_add] at this
  ·cases hpl
end
def cx0 (W : World) (I : Inv) : Cx := ⟨W.heap.size, [], [], I, fun _ _ => False, fun _ _ h => h.elim⟩
theorem DR.first {W : World} {I : Inv} {x : D} {v : Value} (h : DR (NewM W) W x v) : DR (cx0 W I).M W x v := h.mono fun g k v _ hv => ⟨by
 rintro ((hm | hm) | ⟨t, i, off, ht, _⟩)
 ·exact hm
 ·simp [cx0] at hm
 ·simp [cx0] at ht, hv⟩
theorem Rep.first {W : World} {I : Inv} (h2 : I.top ≤ W.heap.size) (hI : ∀ w', Below W.heap.size W w' → I.holds w') : Rep (cx0 W I) W ⟨[], []⟩ :=
 ⟨⟨h2, Nat.le_refl _⟩, rfl, fun i b h => by simp [cx0] at h, fun i j b h => by simp [cx0] at h, rfl, fun t i h => by simp [cx0] at h, fun t t' i i' g off off' h => by simp [cx0] at h, hI⟩
theorem first_one {P : Program} {W : World} {I : Inv} {n : Nat} {t : TypeId} {v : Value} {d : D} (h : Opened P W n t [v] [d]) : VR (cx0 W I) W (.d d) v := .d _ _ (h.2.2 0 (by simp)).first
theorem AFn.law {P : Program} {I : Inv} {f : FuncId} {args : List V} {b : Bool} (h : AFn P I f args ⟨[], []⟩ (fun v _ => v = .d (.bool b))) {W : World} {xs : Array Value} (h2 : I.top ≤ W.heap.size) (hI : ∀ w', Below W.heap.size W w' → I.holds w') (hs : xs.size = args.length) (hv : ∀ j (h : j < args.length), VR (cx0 W I) W args[j] (xs.getD j undef)) :
 Calls P f xs W fun e w' => e = .returned (.bool b) ∧ Below W.heap.size W w' := by
 refine (h.2 (cx0 W I) W xs hs hv (.first h2 hI) rfl).mono ?_
 rintro e w' ⟨v, x, S', c', rfl, rfl, _, hx, hvr⟩
 cases hvr with
 | d _ _ hd => cases hd with
  | bool _ => exact ⟨rfl, hx.below⟩
end Go.Ab
namespace Go.Proofs.YtnnnhlkmdnacaaaGreatDoor
open Go.RowKit Go.Av Go.Ab
set_option maxRecDepth 100000
def byL : List TypeId := [22, 5]
theorem byL_ok : byL.all (plainT Tryz.prog byL) = true := by kernel_rfl
theorem wf_byte {n : Nat} {r : List D} (h : wfT Tryz.prog n 5 r) : ∃ b : UInt8, r = byteRow b := by
 cases n with
 | zero => exact h.elim
 | succ n =>
  unfold wfT at h
  rw [Tryz.underlying5] at h
  obtain ⟨m, rfl, hm⟩ := h
  have h1 : IntKind.u8.min = 0 ∧ IntKind.u8.max = 255 := by decide
  simp only [Lit.wf, h1, Bool.and_eq_true, decide_eq_true_eq] at hm
  refine ⟨UInt8.ofNat m.toNat, ?_⟩
  have : ((UInt8.ofNat m.toNat).toNat : Int) = m := by rw [UInt8.toNat_ofNat']; omega
  unfold byteRow
  rw [this]
theorem wf_bytes {n : Nat} {ds : List D} (h : wfT Tryz.prog n 22 ds) : ∃ bs : List UInt8, ds = [.sl (byD bs)] := by
 cases n with
 | zero => exact h.elim
 | succ n =>
  unfold wfT at h
  rw [Tryz.underlying22] at h
  obtain ⟨rows, rfl, hl0, hr⟩ := h
  clear hl0
  have : ∃ l : List UInt8, rows = l.map byteRow := by
   induction rows with
   | nil => exact ⟨[], rfl⟩
   | cons r rows ihr =>
    obtain ⟨x, hx⟩ := wf_byte (hr r List.mem_cons_self)
    obtain ⟨l, hl⟩ := ihr fun y hy => hr y (List.mem_cons_of_mem _ hy)
    exact ⟨x :: l, by rw [hx, hl]; rfl⟩
  obtain ⟨l, rfl⟩ := this
  exact ⟨l, rfl⟩
end Go.Proofs.YtnnnhlkmdnacaaaGreatDoor
namespace Go.Proofs.YtnnnhlkmdnacaaaGreatDoor
open Go.ChangeShapes Go.WideShapes Go.ChangeAt Go.RowKit Go.Av
theorem laidOut : laidOutB Tryz.prog = true := by kernel_rfl
theorem kept_arg {H : Type} {enc : TypeId × Value → H} {t : TypeId} {W W' : World} {v : Value} {d : DataW H} {ps : List MemPlace} (hr : Tryz.prog.readableRec t = true) (hrow : t < Tryz.prog.types.size)
 (h : DataW.Trod enc Tryz.prog W 0 (fun _ => true) true t v d ps) (hb : Below W.heap.size W W') (hlt : ∀ x ∈ ps, x.block < W.heap.size) : DataW.Trod enc Tryz.prog W' 0 (fun b => decide (b < W.heap.size)) true t v d ps :=
 Below.trod laidOut hr hrow h hb hlt
end Go.Proofs.YtnnnhlkmdnacaaaGreatDoor
namespace Go.Av
def textData {H : Type} (zs : List (List UInt8)) : DataW H := .agg (zs.map fun z => .lit (.string z))
theorem cells_of_texts {H : Type} {enc : TypeId × Value → H} {P : Program} {w : World} {base : Nat} {sp : Nat → Bool} {held : Bool} {fuel : Nat} {t e : TypeId} {n : Nat} {cs : List Value} {zs : List (List UInt8)} {p : List MemPlace}
 (ht : P.underlying t = some (.array n e)) (he : P.underlying e = some .string) (hce : P.cellsOf e = 1) (hct : P.cellsOf t = n)
 (h : DataW.trod enc P w base sp held fuel t cs = some (textData zs, p)) : cs = zs.map fun z => Value.string ⟨z.toArray⟩ := by
 cases fuel with
 | zero => simp [DataW.trod] at h
 | succ fuel =>
  simp only [DataW.trod, ht, hce, hct, Nat.mul_one] at h
  split at h
  ·rename_i hl
   obtain ⟨xs, hm, hx⟩ := Option.map_eq_some_iff.1 h
   have hxs : xs.map (·.1) = zs.map fun z => (DataW.lit (.string z) : DataW H) := by
    have := congrArg Prod.fst hx
    simpa [textData] using this
   have hxl : xs.length = n := by simpa using Lib.mapM_length hm
   have hzl : zs.length = n := by
    have := congrArg List.length hxs
    simp at this
    omega
   apply List.ext_getElem?
   intro i
   by_cases hi : i < n
   ·obtain ⟨b, hb, hf⟩ := Lib.mapM_at hm i i (by simp [hi])
    obtain ⟨z, hc, rfl, _⟩ := DataW.trod_string he hf
    have h1 : cs[i]? = some (.string z) := by
     have := congrArg (·[0]?) hc
     simpa [List.getElem?_take, List.getElem?_drop] using this
    have h2 : (xs.map (·.1))[i]? = some (DataW.lit (.string z.data.toList) : DataW H) := by simp [hb]
    rw [hxs] at h2
    simp only [List.getElem?_map, Option.map_eq_some_iff, DataW.lit.injEq, Lit.string.injEq] at h2
    obtain ⟨z', hz', e⟩ := h2
    have ez : z = ⟨z'.toArray⟩ := by
     apply ByteArray.ext
     rw [e]
    simp [h1, hz', ez]
   ·rw [List.getElem?_eq_none (by omega), List.getElem?_eq_none (by simp; omega)]
  ·cases h
theorem texts_of_vars {P : Program} {W : World} {name : String} {zs : List (List UInt8)} {rest : List (String × DataW Unit)} {ps : List MemPlace} {g : Nat} {t e : TypeId} {n : Nat}
 (hg : P.globalNamed name = some g) (hty : (P.globals[g]?).map (·.type) = some t) (ht : P.underlying t = some (.array n e)) (he : P.underlying e = some .string) (hce : P.cellsOf e = 1) (hct : P.cellsOf t = n)
 (h : DataW.LaidVars P W ((name, textData zs) :: rest) ps) : (∃ u fr, W.heap[g]? = some (.cells (zs.map fun z => Value.string ⟨z.toArray⟩).toArray u fr)) ∧ ∃ q, DataW.LaidVars P W rest q := by
 obtain ⟨g', t', cs, fuel, p, q, hg', ht', hvar, hd, hr, _⟩ := h
 obtain rfl := Option.some.inj (hg.symm.trans hg')
 obtain rfl := Option.some.inj (hty.symm.trans ht')
 refine ⟨?_, q, hr⟩
 have hcs := cells_of_texts ht he hce hct hd
 have ecs : cs = (zs.map fun z => Value.string ⟨z.toArray⟩).toArray := by rw [← hcs]
 unfold World.var? at hvar
 rw [hg, Option.bind_some] at hvar
 split at hvar
 ·rename_i c u fr hh
  obtain rfl := Option.some.inj hvar
  exact ⟨u, fr, by rw [hh, ecs]⟩
 ·cases hvar
end Go.Av
namespace Go.Proofs.YtnnnhlkmdnacaaaGreatDoor.goparseRight
open Go.ChangeShapes Go.WideShapes Go.ChangeAt Go.RowKit Go.Av Go.Ab
open Go.ChangeMaps (open_string shut_string)
set_option linter.unusedVariables false
theorem own : ownKnob Tryz.prog.godebug = none := by kernel_rfl
theorem tab {W : World} (h : laidMetH Tryz.prog Rows.goparseRightRow.laid W) : Tabs W := by
 have h' : laidMet Tryz.prog Rows.goparseRightRow.laid W := h
 obtain ⟨ps, hv, _⟩ := h'
 obtain ⟨⟨u, fr, h1⟩, ps2, hv2⟩ := texts_of_vars (zs := signsL) (g := 0) (t := 152) (e := 9) (n := 29) (by kernel_rfl) (by kernel_rfl) Tryz.underlying152 Tryz.underlying9 (by kernel_rfl) (by kernel_rfl) hv
 obtain ⟨⟨u2, fr2, h2⟩, _⟩ := texts_of_vars (zs := keysL) (g := 2) (t := 164) (e := 9) (n := 22) (by kernel_rfl) (by kernel_rfl) Tryz.underlying164 Tryz.underlying9 (by kernel_rfl) (by kernel_rfl) hv2
 exact ⟨⟨u, fr, h1⟩, ⟨u2, fr2, h2⟩⟩
noncomputable def laidWorld (os : Os) : World := World.laidAll Tryz.prog os Rows.goparseRightRow.laid
theorem laid_met (os : Os) : laidMet Tryz.prog Rows.goparseRightRow.laid ((laidWorld os).forCall (fun _ _ => 0) ⟨#[], #[Value.slice none 0 0, .int .i64 0], []⟩).memory :=
 laidMet_laidAll _ (by kernel_rfl) (by kernel_rfl)
theorem reads (os : Os) {H : Type} (enc : TypeId × Value → H) : ∃ places, DataW.whole enc Tryz.prog ((laidWorld os).forCall (fun _ _ => 0) ⟨#[], #[Value.slice none 0 0, .int .i64 0], []⟩).memory Tryz.f4.params.toList Rows.goparseRightSpec.vars false #[Value.slice none 0 0, .int .i64 0].toList 8 = some ([.nil, .lit (.int .i64 0)], [], places) :=
 ⟨[], by kernel_rfl⟩
set_option maxRecDepth 100000 in
theorem lifted (os : Os) (started : os.Started) (H : Type) (enc : TypeId × Value → H) (F : Stop.Interp) :
 ReturnsInHanded {} Tryz.checked os 4 .any ((OpenSpec.ofChange Rows.goparseRightSpec).preRow enc Tryz.prog Tryz.f4 Rows.goparseRightRow.domain false Rows.goparseRightRow.laid) (((OpenSpec.ofChange Rows.goparseRightSpec).at F).post enc Tryz.prog Tryz.f4 false true false false) := by
 obtain ⟨places, hx⟩ := reads os enc
 refine returnsInHanded_of_row (C := Tryz.checked) (s := OpenSpec.ofChange Rows.goparseRightSpec) own started (by kernel_rfl) Tryz.func4
  (witness_row_at (enc := enc) (C := Tryz.checked) false (laidWorld os) #[Value.slice none 0 0, .int .i64 0] (World.laidAll_os _ _ _) (by kernel_rfl) (by kernel_rfl) (by kernel_rfl)
   (OpenSpec.preRow_of_cond 8 hx (by kernel_rfl) (fun k hk => by cases hk) (by kernel_rfl) (laid_met os))) ?_
 intro W base args ds gs before hval hW _ _ _ hL _ _
 have hW' := hW
 obtain ⟨p, q, hA0, hV, rfl, hfz, hnd⟩ := hW
 have hA : DataW.TrodAll enc Tryz.prog W 0 (fun _ => true) true Tryz.f4.params.toList args.toList ds p := hA0
 rw [Tryz.params4] at hA hval
 obtain ⟨v0, vs0, d0, ds0, p0, q0, hargs, rfl, rfl, h0, r0⟩ := trodAll_cons hA
 obtain ⟨v1, vs1, d1, ds1, p1, q1, rfl, rfl, rfl, h1, r1⟩ := trodAll_cons r0
 obtain ⟨rfl, rfl, rfl⟩ := trodAll_nil r1
 obtain rfl : args = #[v0, v1] := by cases args; simp_all
 obtain ⟨rfl, rfl⟩ := trodVars_none hV
 have hlt : ∀ x ∈ (p0 ++ (p1 ++ [])), x.block < W.heap.size := fun x hx => by simpa using hW'.lt x (by simpa using hx)
 obtain ⟨a0, l0, k0, rfl⟩ := okWide_slice Tryz.underlying22 (hval 0 22 v0 rfl rfl)
 obtain ⟨u0, g0⟩ := h0
 obtain ⟨y0, o0⟩ := open_D (W := W) (enc := enc) byL byL_ok u0 22 [.slice a0 l0 k0] _ (by kernel_rfl) g0
 have h0 := (⟨u0, g0⟩ : DataW.Trod enc Tryz.prog W 0 (fun _ => true) true 22 (.slice a0 l0 k0) d0 p0)
 obtain ⟨x0, rfl⟩ := wf_bytes o0.1
 have q0 := first_one (I := TabI) o0
 obtain ⟨a1, rfl, rfl, rfl, w1⟩ := open_int Tryz.underlying3 (hval 1 3 v1 rfl rfl) h1
 clear hA0 hval
 simp only [List.append_nil] at hW'
 have hmx : maxLen = 9223372036854775807 := rfl
 have hT := tab hL
 refine ((right25_ab x0 a1).law (W := W) (xs := #[.slice a0 l0 k0, .int .i64 a1]) (show 2 + 0 + 1 ≤ W.heap.size by have := hT.size; omega) (fun w hb => hT.below hb) rfl (fun j hj => ?_)).mono fun e W' ⟨he, bel⟩ => ?_
 ·match j, hj with
  | 0, _ => exact q0
  | 1, _ => exact .d _ _ (.int _ _)
 subst he
 exact ⟨_, rfl, _, _, _, [], _, [], hW', trodAll_mk1 (shut_bool Tryz.underlying4 _), (trodAll_cons_mk (kept_arg (by kernel_rfl) (of_decide_eq_true (by kernel_rfl)) h0 bel (fun x hx => hlt x (by simp [hx]))) (trodAll_cons_mk (shut_int Tryz.underlying3 w1) trodAll_mk0)), rfl, bel.frame _, fun h => by cases h⟩
theorem said : Rows.GoparseRightSaid :=
 OpenClaim.holds_of_cond 4 Tryz.f4 rfl rfl rfl rfl rfl rfl rfl ⟨rfl, rfl, rfl, rfl, rfl⟩ rfl rfl rfl rfl rfl (by kernel_rfl) Tryz.func4 (by kernel_rfl)
  (of_decide_eq_true (by kernel_rfl)) (by unfold Func.isWrapper; first | (rw [if_pos (by decide +kernel)]; kernel_rfl) | (rw [if_neg (by decide +kernel)]; exact ⟨rfl, rfl⟩))
  (fun os started H enc _ F => by rw [OpenClaim.pre_eq_preRow]; exact lifted os started H enc F)
theorem plain (f : FuncId) (fn : Func) (hf : Tryz.pinned.checked.prog.funcNamed "avocet/avocetlaw25.GoparseRight" = some f) (hfn : Tryz.pinned.checked.prog.funcs[f]? = some fn) :
 false = Tryz.pinned.checked.prog.looks [] ∧ ∀ (j : Nat) t, fn.params[j]? = some t → Tryz.pinned.checked.prog.wantsStandIn t = false := by
 obtain rfl : f = 4 := Option.some.inj ((show Tryz.prog.funcNamed "avocet/avocetlaw25.GoparseRight" = some 4 by kernel_rfl).symm.trans hf) |>.symm
 obtain rfl : fn = Tryz.f4 := (Option.some.inj (Tryz.func4.symm.trans hfn)).symm
 refine ⟨by kernel_rfl, fun j t ht => ?_⟩
 rw [Tryz.params4] at ht
 have hm := Array.mem_of_getElem? ht
 have : t = 22 ∨ t = 3 := by simpa using hm
 rcases this with rfl | rfl
 ·exact (show Tryz.prog.wantsStandIn 22 = false by kernel_rfl)
 ·exact (show Tryz.prog.wantsStandIn 3 = false by kernel_rfl)
theorem proved : Rows.GoparseRightCardSaid :=
 Claim7.holds_tied_plain_at .later [] _ _ _ _ said (fun _ h => by cases h) (by kernel_rfl) (fun _ h => by cases h) goparseRight_row_tie rfl ⟨rfl, rfl⟩ (by kernel_rfl) rfl plain (by kernel_rfl)
#print axioms proved
end Go.Proofs.YtnnnhlkmdnacaaaGreatDoor.goparseRight
