/- The checker's count of parts: what a call does to memory; part, zero. -/
import Derived.Test.YtaelanpmgckfkaaRRRRDoorTree
import Derived.Test.YtaelanpmgckfkaaRRRRDoorIdent2
import Derived.BigQuiet
namespace Go.Proofs.YtaelanpmgckfkaaRRRRDoor
open Go.RowKit Go.Av

/-- The cell that counts. -/
def Cnt (w : World) (g : Nat) (p : Int) : Prop := w.cell? ⟨g, 0, none⟩ = some (.int .i64 p) ∧ w.frozen? ⟨g, 0, none⟩ = false
theorem Cnt.lt {w : World} {g : Nat} {p : Int} (h : Cnt w g p) : g < w.heap.size := by
  rcases Nat.lt_or_ge g w.heap.size with h' | h'
  · exact h'
  · have := h.1
    simp [World.cell?, Array.getElem?_eq_none h'] at this
/-- Nothing but the counter's block, and new blocks, changed; it holds p. -/
structure Chk (g : Nat) (p : Int) (w w' : World) : Prop where
  grown : w.grownBy w' (some g)
  cnt : Cnt w' g p
theorem Chk.below {g : Nat} {p : Int} {w w' : World} (h : Chk g p w w') {B : Nat} (hB : B ≤ g) (hg : g < w.heap.size) : Below B w w' :=
  ⟨h.grown.os, h.grown.tape, h.grown.output, h.grown.size, fun k hk => h.grown.block k (by omega) (by intro e; have := Option.some.inj e; omega)⟩
theorem Chk.cell {g : Nat} {p : Int} {w w' : World} (h : Chk g p w w') {b k : Nat} (hb : b < w.heap.size) (hne : b ≠ g) : w'.cell? ⟨b, k, none⟩ = w.cell? ⟨b, k, none⟩ :=
  World.cell?_of_block (a := ⟨b, k, none⟩) (h.grown.block b hb (fun e => hne (Option.some.inj e)))
theorem Cnt.alloc {w : World} {g : Nat} {p : Int} (h : Cnt w g p) (o : Obj) : Cnt (w.alloc o) g p :=
  ⟨by rw [alloc_cell _ _ _ h.lt]; exact h.1, by rw [World.frozen?_alloc_old _ _ _ (by have := h.lt; show g ≠ _; omega)]; exact h.2⟩
theorem Cnt.below {w w' : World} {g : Nat} {p : Int} (h : Cnt w g p) (hb : Below w.heap.size w w') : Cnt w' g p :=
  ⟨by rw [hb.cell (p := ⟨g, 0, none⟩) h.lt]; exact h.1, by rw [hb.frozen (p := ⟨g, 0, none⟩) h.lt]; exact h.2⟩
theorem Chk.ofBelow {g : Nat} {p : Int} {w w' : World} (h : Cnt w g p) (hb : Below w.heap.size w w') : Chk g p w w' := ⟨grownBy_of_below hb _, h.below hb⟩
theorem Chk.trans {g : Nat} {p q : Int} {a b c : World} (h : Chk g p a b) (k : Chk g q b c) : Chk g q a c := ⟨grownBy_trans h.grown k.grown (.inl rfl), k.cnt⟩
theorem Chk.thenBelow {g : Nat} {p : Int} {a b c : World} (h : Chk g p a b) (hb : Below b.heap.size b c) : Chk g p a c := h.trans (.ofBelow h.cnt hb)
theorem Chk.afterBelow {g : Nat} {p : Int} {a b c : World} (hb : Below a.heap.size a b) (h : Chk g p b c) : Chk g p a c := ⟨grownBy_trans (grownBy_of_below hb _) h.grown (.inl rfl), h.cnt⟩
theorem Chk.set {w : World} {g : Nat} {p q : Int} (h : Cnt w g p) : Chk g q w (w.setCell ⟨g, 0, none⟩ (.int .i64 q)) := by
  refine ⟨⟨rfl, rfl, rfl, by rw [World.size_setCell]; exact Nat.le_refl _, fun k hk hne => ?_⟩, World.cell?_setCell_same _ _ _ h.1, by rw [World.frozen?_setCell]; exact h.2⟩
  exact Below.heap_setCell _ _ _ _ (by intro e; exact hne (congrArg some e))

set_option maxRecDepth 100000 in
set_option maxHeartbeats 400000 in
theorem part_at (g : Nat) (d p : Int) (w : World) (h : Cnt w g p) (hp : 0 ≤ p ∧ p ≤ 60000) : Calls Tryd.prog 79 #[.pointer (some ⟨g, 0, none⟩), .int .i64 d] w fun e w' => e = .returned (.bool (partOk d p)) ∧ Chk g (p + 1) w w' := by
  obtain ⟨h1, h2⟩ := h
  have HC := Lib.hid (Chk.set (q := p + 1) ⟨h1, h2⟩)
  unfold partOk
  by_cases hq : p + 1 ≤ 60000
  · rw [decide_eq_true hq]
    go_enter Tryd.func79, Tryd.ntmps79
    go_wp2_with fail
    go_ret
    exact ⟨rfl, HC.out⟩
  · rw [decide_eq_false hq]
    go_enter Tryd.func79, Tryd.ntmps79
    go_wp2_with fail
    go_ret
    exact ⟨rfl, HC.out⟩

/-- .. and the slice of a type's elements, opened. -/
theorem RdTy.slice {B : Nat} {W : World} {t : TyT} {v : Value} (h : RdTy B W t v) : ∃ o cap, v = .slice o t.elem.length cap ∧ t.elem.length ≤ cap ∧ cap ≤ 9223372036854775807 ∧ t.name.length ≤ 9223372036854775807 := by
  cases h with
  | mk k n es o cap f hc hm hn hs hr => exact ⟨o, cap, rfl, hc, hm, hn⟩

/-- A block of three cells, read behind a call that counts. -/
theorem three_at {g : Nat} {p : Int} (w W : World) (t : TypeId) (v0 v1 v2 : Value) (hg : g < w.heap.size) (h : Chk g p (w.alloc (Obj.cells #[v0, v1, v2] t)) W) :
    W.cell? ⟨w.heap.size, 0, none⟩ = some v0 ∧ W.cell? ⟨w.heap.size, 1, none⟩ = some v1 ∧ W.cell? ⟨w.heap.size, 2, none⟩ = some v2 := by
  have hs : w.heap.size < (w.alloc (Obj.cells #[v0, v1, v2] t)).heap.size := by rw [World.size_alloc]; omega
  have key : ∀ k : Nat, W.cell? ⟨w.heap.size, k, none⟩ = (w.alloc (Obj.cells #[v0, v1, v2] t)).cell? ⟨w.heap.size, k, none⟩ := fun k => h.cell hs (by omega)
  rw [key, key, key]
  simp only [World.cell?, World.alloc, Array.getElem?_push_size]
  exact ⟨rfl, rfl, rfl⟩
def tyRest (idn : List UInt8 → Bool) (k : Int) (n : List UInt8) (d p : Int) : List TyT → Bool × Int
  | [e] => if k = 8 ∧ n = [] then tyS idn e (d + 1) (p + 1) else (false, p + 1)
  | _ => (false, p + 1)
theorem tyS_go (idn : List UInt8 → Bool) (k : Int) (n : List UInt8) (es : List TyT) (d p : Int) (hk : ¬ partOk d p = false) : tyS idn (.mk k n es) d p = (if 1 ≤ k ∧ k ≤ 6 then (decide (n = []) && decide (es.length = 0), p + 1)
    else if k = 7 then (idn n && decide (es.length = 0), p + 1) else tyRest idn k n d p es) := by
  match es with
  | [] => conv => lhs; unfold tyS
          rw [if_neg hk]; rfl
  | [e] => conv => lhs; unfold tyS
           rw [if_neg hk]; rfl
  | e :: f :: l => conv => lhs; unfold tyS
                   rw [if_neg hk]; rfl
theorem tyRest_no (idn : List UInt8 → Bool) (k : Int) (n : List UInt8) (d p : Int) (es : List TyT) (h : ¬ (k = 8 ∧ n = []) ∨ es.length ≠ 1) : tyRest idn k n d p es = (false, p + 1) := by
  match es with
  | [] => rfl
  | [e] => rcases h with h | h
           · exact if_neg h
           · exact absurd rfl h
  | e :: f :: l => rfl
theorem tyRest_yes (idn : List UInt8 → Bool) (d p : Int) (es : List TyT) (h : es.length = 1) : tyRest idn 8 [] d p es = tyS idn (es[0]'(by omega)) (d + 1) (p + 1) := by
  match es, h with
  | [e], _ => rfl

theorem nil_beq (n : List UInt8) : (n == []) = decide (n = []) := by
  rw [Bool.eq_iff_iff, beq_iff_eq, decide_eq_true_iff]

set_option maxRecDepth 100000 in
set_option maxHeartbeats 1000000 in
theorem typ_at (B : Nat) (W0 : World) (t : TyT) (v : Value) (h : RdTy B W0 t v) : ∀ (g : Nat) (d p : Int) (w : World), 2 ≤ B → B ≤ g → Below B W0 w → Tabs w → Cnt w g p → 0 ≤ p ∧ p ≤ 60000 → 0 ≤ d ∧ d ≤ 61 →
    Calls Tryd.prog 91 #[.pointer (some ⟨g, 0, none⟩), .agg (tyCells t v), .int .i64 d] w fun e w' => e = .returned (.bool (tyS identS t d p).1) ∧ Chk g (tyS identS t d p).2 w w' := by
  induction h with
  | mk k n es o cap f hc hm hn hs hr ih =>
    intro g d p w hB2 hBg hb ht hct hp hd
    have HP := Lib.hid (fun w hct => part_at g d p w hct hp)
    have hlt := hct.lt
    by_cases hk : partOk d p = false
    · have hS : tyS identS (.mk k n es) d p = (false, p + 1) := by unfold tyS; rw [if_pos hk]
      rw [hS]
      rw [hk] at HP
      simp only [tyCells, TyT.kind, TyT.name]
      go_enter Tryd.func91, Tryd.ntmps91
      go_wp2_with fail
      refine (HP.out _ (hct.alloc _)).mono ?_
      rintro e w1 ⟨rfl, hk1⟩
      go_wp2_with fail
      go_ret
      exact ⟨rfl, hk1.afterBelow ((Below.refl _ _).alloc (Nat.le_refl _) _)⟩
    · have hk2 : partOk d p = true := by simpa using hk
      rw [hk2] at HP
      have hS0 := tyS_go identS k n es d p hk
      by_cases hA : 1 ≤ k ∧ k ≤ 6
      · rw [if_pos hA] at hS0
        rw [hS0]
        obtain ⟨a1, a2⟩ := hA
        by_cases hn0 : n = []
        · subst hn0
          by_cases he0 : es.length = 0
          · have he0' : ((es.length : Int) == 0) = true := beq_iff_eq.2 (by omega)
            rw [show (decide (([] : List UInt8) = []) && decide (es.length = 0)) = true by simp [he0]]
            simp only [tyCells, TyT.kind, TyT.name]
            go_enter Tryd.func91, Tryd.ntmps91
            go_wp2_with fail
            refine (HP.out _ (hct.alloc _)).mono ?_
            rintro e w1 ⟨rfl, hk1⟩
            obtain ⟨c0, c1, c2⟩ := three_at w w1 _ _ _ _ hlt hk1
            have hkb := Chk.afterBelow ((Below.refl _ _).alloc (Nat.le_refl _) _) hk1
            go_wp2_with fail
            go_ret
            exact ⟨rfl, hkb⟩
          · have he0' : ((es.length : Int) == 0) = false := beq_eq_false_iff_ne.2 (by omega)
            rw [show (decide (([] : List UInt8) = []) && decide (es.length = 0)) = false by simp [he0]]
            simp only [tyCells, TyT.kind, TyT.name]
            go_enter Tryd.func91, Tryd.ntmps91
            go_wp2_with fail
            refine (HP.out _ (hct.alloc _)).mono ?_
            rintro e w1 ⟨rfl, hk1⟩
            obtain ⟨c0, c1, c2⟩ := three_at w w1 _ _ _ _ hlt hk1
            have hkb := Chk.afterBelow ((Below.refl _ _).alloc (Nat.le_refl _) _) hk1
            go_wp2_with fail
            go_ret
            exact ⟨rfl, hkb⟩
        · have hn0' : (n == []) = false := by rw [nil_beq]; exact decide_eq_false hn0
          rw [show (decide (n = []) && decide (es.length = 0)) = false by rw [decide_eq_false hn0]; rfl]
          simp only [tyCells, TyT.kind, TyT.name]
          go_enter Tryd.func91, Tryd.ntmps91
          go_wp2_with fail
          refine (HP.out _ (hct.alloc _)).mono ?_
          rintro e w1 ⟨rfl, hk1⟩
          obtain ⟨c0, c1, c2⟩ := three_at w w1 _ _ _ _ hlt hk1
          have hkb := Chk.afterBelow ((Below.refl _ _).alloc (Nat.le_refl _) _) hk1
          go_wp2_with fail
          go_ret
          exact ⟨rfl, hkb⟩
      · rw [if_neg hA] at hS0
        have hA' : ¬ 1 ≤ k ∨ (1 ≤ k ∧ ¬ k ≤ 6) := by omega
        by_cases h7 : k = 7
        · rw [if_pos h7] at hS0
          rw [hS0]
          subst h7
          have HI := Lib.hid (fun W ht => gIdent n W ht hn)
          cases hi : identS n
          · rw [hi] at HI
            rw [Bool.false_and]
            simp only
            simp only [tyCells, TyT.kind, TyT.name]
            go_enter Tryd.func91, Tryd.ntmps91
            go_wp2_with fail
            refine (HP.out _ (hct.alloc _)).mono ?_
            rintro e w1 ⟨rfl, hk1⟩
            obtain ⟨c0, c1, c2⟩ := three_at w w1 _ _ _ _ hlt hk1
            have hkb := Chk.afterBelow ((Below.refl _ _).alloc (Nat.le_refl _) _) hk1
            go_wp2_with fail
            refine (HI.out _ ((ht.below ((Below.refl _ _).alloc (Nat.le_refl _) _)).kept (hk1.below hBg (by rw [World.size_alloc]; omega)) hB2)).mono ?_
            rintro e w2 ⟨rfl, hb2⟩
            go_wp2_with fail
            go_ret
            exact ⟨rfl, hkb.thenBelow hb2⟩
          · rw [hi] at HI
            rw [Bool.true_and]
            by_cases he0 : es.length = 0
            · have he0' : ((es.length : Int) == 0) = true := beq_iff_eq.2 (by omega)
              rw [decide_eq_true he0]
              clear he0
              simp only [tyCells, TyT.kind, TyT.name]
              go_enter Tryd.func91, Tryd.ntmps91
              go_wp2_with fail
              refine (HP.out _ (hct.alloc _)).mono ?_
              rintro e w1 ⟨rfl, hk1⟩
              obtain ⟨c0, c1, c2⟩ := three_at w w1 _ _ _ _ hlt hk1
              have hkb := Chk.afterBelow ((Below.refl _ _).alloc (Nat.le_refl _) _) hk1
              go_wp2_with fail
              refine (HI.out _ ((ht.below ((Below.refl _ _).alloc (Nat.le_refl _) _)).kept (hk1.below hBg (by rw [World.size_alloc]; omega)) hB2)).mono ?_
              rintro e w2 ⟨rfl, hb2⟩
              have c2' : w2.cell? ⟨w.heap.size, 2, none⟩ = some (.slice o es.length cap) := by rw [hb2.cell (p := ⟨w.heap.size, 2, none⟩) (by have := hk1.grown.size; rw [World.size_alloc] at this; show w.heap.size < _; omega)]; exact c2
              go_wp2_with fail
              go_ret
              exact ⟨rfl, hkb.thenBelow hb2⟩
            · have he0' : ((es.length : Int) == 0) = false := beq_eq_false_iff_ne.2 (by omega)
              rw [decide_eq_false he0]
              clear he0
              simp only [tyCells, TyT.kind, TyT.name]
              go_enter Tryd.func91, Tryd.ntmps91
              go_wp2_with fail
              refine (HP.out _ (hct.alloc _)).mono ?_
              rintro e w1 ⟨rfl, hk1⟩
              obtain ⟨c0, c1, c2⟩ := three_at w w1 _ _ _ _ hlt hk1
              have hkb := Chk.afterBelow ((Below.refl _ _).alloc (Nat.le_refl _) _) hk1
              go_wp2_with fail
              refine (HI.out _ ((ht.below ((Below.refl _ _).alloc (Nat.le_refl _) _)).kept (hk1.below hBg (by rw [World.size_alloc]; omega)) hB2)).mono ?_
              rintro e w2 ⟨rfl, hb2⟩
              have c2' : w2.cell? ⟨w.heap.size, 2, none⟩ = some (.slice o es.length cap) := by rw [hb2.cell (p := ⟨w.heap.size, 2, none⟩) (by have := hk1.grown.size; rw [World.size_alloc] at this; show w.heap.size < _; omega)]; exact c2
              go_wp2_with fail
              go_ret
              exact ⟨rfl, hkb.thenBelow hb2⟩
        · rw [if_neg h7] at hS0
          have h7' : (k == 7) = false := beq_eq_false_iff_ne.2 h7
          have hp2 : p + 1 ≤ 60000 ∧ d ≤ 60 := by
            unfold partOk at hk2
            rw [Bool.and_eq_true, decide_eq_true_iff, decide_eq_true_iff] at hk2
            exact hk2
          by_cases h8 : k = 8
          · subst h8
            by_cases hn0 : n = []
            · subst hn0
              by_cases he1 : es.length = 1
              · rw [tyRest_yes _ _ _ _ he1] at hS0
                rw [hS0]
                obtain ⟨g1, f1, rfl, hg1, hcl⟩ := hs (by intro e; rw [e] at he1; cases he1)
                obtain ⟨q0, q1, q2⟩ := hcl 0 (by omega)
                have hIH := ih 0 (by omega) g (d + 1) (p + 1)
                have he1' : ((es.length : Int) == 1) = true := beq_iff_eq.2 (by omega)
                have hpos : 0 < es.length := by omega
                generalize es[0] = e0 at *
                generalize f 0 = f0 at *
                have HIH := Lib.hid hIH
                have hcap1 : 1 ≤ cap := by omega
                clear hIH ih hr hs hcl he1
                generalize es.length = len at *
                simp only [Nat.zero_mul, Nat.add_zero] at q0 q1 q2
                simp only [tyCells, TyT.kind, TyT.name]
                go_enter Tryd.func91, Tryd.ntmps91
                go_wp2_with fail
                refine (HP.out _ (hct.alloc _)).mono ?_
                rintro e w1 ⟨rfl, hk1⟩
                obtain ⟨c0, c1, c2⟩ := three_at w w1 _ _ _ _ hlt hk1
                have hkb := Chk.afterBelow ((Below.refl _ _).alloc (Nat.le_refl _) _) hk1
                have hbW : Below B W0 w1 := (hb.trans ((Below.refl B w).alloc (by omega) _)).trans (hk1.below hBg (by rw [World.size_alloc]; omega))
                rw [← hbW.cell (p := ⟨g1, f1, none⟩) hg1] at q0
                rw [← hbW.cell (p := ⟨g1, f1 + 1, none⟩) hg1] at q1
                rw [← hbW.cell (p := ⟨g1, f1 + 2, none⟩) hg1] at q2
                have htw : Tabs w1 := (ht.below ((Below.refl _ _).alloc (Nat.le_refl _) _)).kept (hk1.below hBg (by rw [World.size_alloc]; omega)) hB2
                go_wp2_with fail
                refine (HIH.out w1 hB2 hBg hbW htw hk1.cnt (by omega) (by omega)).mono ?_
                rintro e w2 ⟨rfl, hk2⟩
                go_wp2_with fail
                go_ret
                exact ⟨rfl, hkb.trans hk2⟩
              · have he1' : ((es.length : Int) == 1) = false := beq_eq_false_iff_ne.2 (by omega)
                rw [tyRest_no _ _ _ _ _ _ (.inr he1)] at hS0
                rw [hS0]
                simp only [tyCells, TyT.kind, TyT.name]
                go_enter Tryd.func91, Tryd.ntmps91
                go_wp2_with fail
                refine (HP.out _ (hct.alloc _)).mono ?_
                rintro e w1 ⟨rfl, hk1⟩
                obtain ⟨c0, c1, c2⟩ := three_at w w1 _ _ _ _ hlt hk1
                have hkb := Chk.afterBelow ((Below.refl _ _).alloc (Nat.le_refl _) _) hk1
                go_wp2_with fail
                go_ret
                exact ⟨rfl, hkb⟩
            · have hn0' : (n == []) = false := by rw [nil_beq]; exact decide_eq_false hn0
              rw [tyRest_no _ _ _ _ _ _ (.inl (fun h => hn0 h.2))] at hS0
              rw [hS0]
              simp only [tyCells, TyT.kind, TyT.name]
              go_enter Tryd.func91, Tryd.ntmps91
              go_wp2_with fail
              refine (HP.out _ (hct.alloc _)).mono ?_
              rintro e w1 ⟨rfl, hk1⟩
              obtain ⟨c0, c1, c2⟩ := three_at w w1 _ _ _ _ hlt hk1
              have hkb := Chk.afterBelow ((Below.refl _ _).alloc (Nat.le_refl _) _) hk1
              go_wp2_with fail
              go_ret
              exact ⟨rfl, hkb⟩
          · have h8' : (k == 8) = false := beq_eq_false_iff_ne.2 h8
            rw [tyRest_no _ _ _ _ _ _ (.inl (fun h => h8 h.1))] at hS0
            rw [hS0]
            rcases hA' with hA1 | ⟨hA1, hA2⟩
            all_goals
              simp only [tyCells, TyT.kind, TyT.name]
              go_enter Tryd.func91, Tryd.ntmps91
              go_wp2_with fail
              refine (HP.out _ (hct.alloc _)).mono ?_
              rintro e w1 ⟨rfl, hk1⟩
              obtain ⟨c0, c1, c2⟩ := three_at w w1 _ _ _ _ hlt hk1
              have hkb := Chk.afterBelow ((Below.refl _ _).alloc (Nat.le_refl _) _) hk1
              go_wp2_with fail
              go_ret
              exact ⟨rfl, hkb⟩
end Go.Proofs.YtaelanpmgckfkaaRRRRDoor
