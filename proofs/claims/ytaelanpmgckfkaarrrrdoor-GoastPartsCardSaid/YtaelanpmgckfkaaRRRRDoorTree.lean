/- Types and expressions of the small language as trees, and how they lie in memory. -/
import Derived.Test.YtaelanpmgckfkaaRRRRDoorRows
import Derived.Test.YtaelanpmgckfkaaRRRRDoorOwn
import Derived.ProofKit
import Derived.OpenShut
import Derived.Carry
namespace Go.Proofs.YtaelanpmgckfkaaRRRRDoor
open Go.RowKit Go.Av

inductive TyT where
  | mk (kind : Int) (name : List UInt8) (elem : List TyT)
def TyT.kind : TyT → Int | .mk k _ _ => k
def TyT.name : TyT → List UInt8 | .mk _ n _ => n
def TyT.elem : TyT → List TyT | .mk _ _ es => es

/-- A slice of a type's elements (blocks below B). -/
inductive RdTy (B : Nat) (W : World) : TyT → Value → Prop where
  | mk (k : Int) (n : List UInt8) (es : List TyT) (o : Option Addr) (cap : Nat) (f : Nat → Value) (hc : es.length ≤ cap) (hm : cap ≤ 9223372036854775807)
      (hn : n.length ≤ 9223372036854775807)
      (hs : es ≠ [] → ∃ g off, o = some ⟨g, off, none⟩ ∧ g < B ∧ ∀ j (h : j < es.length), W.cell? ⟨g, off + j * 3, none⟩ = some (.int .i64 (es[j]).kind) ∧ W.cell? ⟨g, off + j * 3 + 1, none⟩ = some (.string ⟨(es[j]).name.toArray⟩) ∧ W.cell? ⟨g, off + j * 3 + 2, none⟩ = some (f j))
      (hr : ∀ j (h : j < es.length), RdTy B W es[j] (f j)) : RdTy B W (.mk k n es) (.slice o es.length cap)

theorem RdTy.kept {B : Nat} {W W' : World} (hb : Below B W W') {t : TyT} {v : Value} (h : RdTy B W t v) : RdTy B W' t v := by
  induction h with
  | mk k n es o cap f hc hm hn hs hr ih =>
    refine .mk k n es o cap f hc hm hn (fun he => ?_) ih
    obtain ⟨g, off, ho, hg, hcl⟩ := hs he
    refine ⟨g, off, ho, hg, fun j h => ?_⟩
    obtain ⟨h0, h1, h2⟩ := hcl j h
    refine ⟨?_, ?_, ?_⟩
    · rw [hb.cell (p := ⟨g, off + j * 3, none⟩) hg]; exact h0
    · rw [hb.cell (p := ⟨g, off + j * 3 + 1, none⟩) hg]; exact h1
    · rw [hb.cell (p := ⟨g, off + j * 3 + 2, none⟩) hg]; exact h2

/-- A slice of texts. -/
def RdSs (B : Nat) (W : World) (l : List (List UInt8)) (v : Value) : Prop :=
  ∃ (o : Option Addr) (cap : Nat), v = .slice o l.length cap ∧ l.length ≤ cap ∧ cap ≤ 9223372036854775807 ∧ (∀ s ∈ l, s.length ≤ 9223372036854775807) ∧
    (l ≠ [] → ∃ g off, o = some ⟨g, off, none⟩ ∧ g < B ∧ ∀ j (h : j < l.length), W.cell? ⟨g, off + j, none⟩ = some (.string ⟨(l[j]).toArray⟩))
theorem RdSs.kept {B : Nat} {W W' : World} (hb : Below B W W') {l : List (List UInt8)} {v : Value} (h : RdSs B W l v) : RdSs B W' l v := by
  obtain ⟨o, cap, hv, hc, hm, hn, hs⟩ := h
  refine ⟨o, cap, hv, hc, hm, hn, fun he => ?_⟩
  obtain ⟨g, off, ho, hg, hcl⟩ := hs he
  exact ⟨g, off, ho, hg, fun j h => by rw [hb.cell (p := ⟨g, off + j, none⟩) hg]; exact hcl j h⟩

inductive ExT where
  | mk (kind : Int) (text : List UInt8) (int : Int) (type : TyT) (names : List (List UInt8)) (kids : List ExT)
def ExT.kind : ExT → Int | .mk k _ _ _ _ _ => k
def ExT.text : ExT → List UInt8 | .mk _ t _ _ _ _ => t
def ExT.int : ExT → Int | .mk _ _ i _ _ _ => i
def ExT.type : ExT → TyT | .mk _ _ _ t _ _ => t
def ExT.names : ExT → List (List UInt8) | .mk _ _ _ _ n _ => n
def ExT.kids : ExT → List ExT | .mk _ _ _ _ _ k => k

/-- An expression's type, names and kids (blocks below B): the values of the three slices. -/
inductive RdEx (B : Nat) (W : World) : ExT → Value → Value → Value → Prop where
  | mk (k : Int) (t : List UInt8) (i : Int) (ty : TyT) (ns : List (List UInt8)) (ks : List ExT) (tv nv : Value) (o : Option Addr) (cap : Nat) (f1 f2 f3 : Nat → Value) (hc : ks.length ≤ cap) (hm : cap ≤ 9223372036854775807)
      (ht : t.length ≤ 9223372036854775807) (hi : 0 ≤ i ∧ i ≤ 18446744073709551615) (hty : RdTy B W ty tv) (hns : RdSs B W ns nv)
      (hs : ks ≠ [] → ∃ g off, o = some ⟨g, off, none⟩ ∧ g < B ∧ ∀ j (h : j < ks.length), W.cell? ⟨g, off + j * 8, none⟩ = some (.int .i64 (ks[j]).kind) ∧ W.cell? ⟨g, off + j * 8 + 1, none⟩ = some (.string ⟨(ks[j]).text.toArray⟩) ∧
        W.cell? ⟨g, off + j * 8 + 2, none⟩ = some (.int .u64 (ks[j]).int) ∧ W.cell? ⟨g, off + j * 8 + 3, none⟩ = some (.int .i64 (ks[j]).type.kind) ∧ W.cell? ⟨g, off + j * 8 + 4, none⟩ = some (.string ⟨(ks[j]).type.name.toArray⟩) ∧
        W.cell? ⟨g, off + j * 8 + 5, none⟩ = some (f1 j) ∧ W.cell? ⟨g, off + j * 8 + 6, none⟩ = some (f2 j) ∧ W.cell? ⟨g, off + j * 8 + 7, none⟩ = some (f3 j))
      (hr : ∀ j (h : j < ks.length), RdEx B W ks[j] (f1 j) (f2 j) (f3 j)) : RdEx B W (.mk k t i ty ns ks) tv nv (.slice o ks.length cap)
theorem RdEx.kept {B : Nat} {W W' : World} (hb : Below B W W') {x : ExT} {a b c : Value} (h : RdEx B W x a b c) : RdEx B W' x a b c := by
  induction h with
  | mk k t i ty ns ks tv nv o cap f1 f2 f3 hc hm ht hi hty hns hs hr ih =>
    refine .mk k t i ty ns ks tv nv o cap f1 f2 f3 hc hm ht hi (hty.kept hb) (hns.kept hb) (fun he => ?_) ih
    obtain ⟨g, off, ho, hg, hcl⟩ := hs he
    refine ⟨g, off, ho, hg, fun j h => ?_⟩
    have key : ∀ q : Nat, W'.cell? ⟨g, q, none⟩ = W.cell? ⟨g, q, none⟩ := fun q => hb.cell (p := ⟨g, q, none⟩) hg
    rw [key, key, key, key, key, key, key, key]
    exact hcl j h
/-- The cells of a type, of an expression. -/
def tyCells (t : TyT) (v : Value) : Array Value := #[.int .i64 t.kind, .string ⟨t.name.toArray⟩, v]
def exCells (x : ExT) (a b c : Value) : Array Value := #[.int .i64 x.kind, .string ⟨x.text.toArray⟩, .int .u64 x.int, .int .i64 x.type.kind, .string ⟨x.type.name.toArray⟩, a, b, c]

/-! The checker, plain. -/
def partOk (d p : Int) : Bool := decide (p + 1 ≤ 60000) && decide (d ≤ 60)
def tyS (idn : List UInt8 → Bool) : TyT → Int → Int → Bool × Int
  | .mk k n es, d, p =>
    if partOk d p = false then (false, p + 1)
    else if 1 ≤ k ∧ k ≤ 6 then (decide (n = []) && decide (es.length = 0), p + 1)
    else if k = 7 then (idn n && decide (es.length = 0), p + 1)
    else match es with
      | [e] => if k = 8 ∧ n = [] then tyS idn e (d + 1) (p + 1) else (false, p + 1)
      | _ => (false, p + 1)
end Go.Proofs.YtaelanpmgckfkaaRRRRDoor
