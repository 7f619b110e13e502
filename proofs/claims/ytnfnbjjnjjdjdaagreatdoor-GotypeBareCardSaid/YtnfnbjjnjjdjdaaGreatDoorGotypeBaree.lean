/- GotypeBare answers true, for any program. Part 5 of 6 of the proof. -/
import Derived.Test.YtnfnbjjnjjdjdaaGreatDoorGotypeBared
namespace Go.Proofs.YtnfnbjjnjjdjdaaGreatDoor
open Go.RowKit Go.Av Go.Ab
set_option linter.unusedSimpArgs false
set_option maxRecDepth 100000
set_option linter.defProp false
def ox := by
 have c := aN Tryz.f110 (by conv => lhs; cbv)
 dsimp only [KK, fj, eR, eS, List.map_cons, List.map_nil, List.toList_toArray] at c
 exact c
theorem OV : bK Tryz.prog 110 Tryz.f110 65 := ⟨Tryz.func110, by kernel_rfl⟩
structure mh (B : List (List V)) (n c s f w : Nat) (E : bG) (res : List az) (lo hi : Nat) (v : V) (l : List aj) : Prop where
 k : rF B c s f w E res
 own : fN B l lo hi v
 oc : c < lo ∨ hi ≤ c
 os : s < lo ∨ hi ≤ s
 of : f < lo ∨ hi ≤ f
 ow : w < lo ∨ hi ≤ w
 nb : c < n ∧ s < n ∧ f < n ∧ w < n ∧ hi ≤ n
 nl : n ≤ B.length
def LU (lo hi : Nat) (v : V) (B B' : List (List V)) (r : Option (List aj)) : Prop := cm B.length lo hi B.length B B' ∧ B'.length = B.length ∧ ∀ l, r = some l → fN B' l lo hi v
def U7 (r : Option (List aj)) (lo hi : Nat) (v : V) (B : List (List V)) (T : List (Nat × Nat)) (u : V) (S' : Mem) : Prop :=
 ∃ B', S' = ⟨B', T⟩ ∧ LU lo hi v B B' r ∧ u = .d (.bool r.isSome)
theorem CY : ∀ a b : List az, fP tG a b = gq a b
 | [], [] => by unfold gq; rfl
 | [], _ :: _ => by unfold gq; rfl
 | _ :: _, [] => by unfold gq; rfl
 | x :: a, y :: b => by
  unfold gq fP
  dsimp only
  rw [CY a b]
theorem Fa (E : bG) : bA E [] [] = some [] := by unfold bA; rfl
theorem oy (E : bG) (x : aj) (ts : List az) : fQ E [x] ts = if 1 < ts.length ∧ x.kind = 7 then (match mb E x with
 | some (y, rs) => if gq rs ts = true then some [y] else none
 | none => none) else bA E [x] ts := rfl
structure U8 where
 i : Nat
 ys : List aj
 B : List (List V)
section
variable {E : bG} {res : List az} {n c s f w : Nat} {B : List (List V)} {T : List (Nat × Nat)} {lo hi : Nat} {v : V}
theorem mh.mem {B' : List (List V)} {l : List aj} (h : mh B n c s f w E res lo hi v l) (hl : B.length ≤ B'.length) (he : ∀ i, i < n → B'[i]? = B[i]?) : mh B' n c s f w E res lo hi v l := by
 obtain ⟨n1, n2, n3, n4, n5⟩ := h.nb
 exact ⟨h.k.dZ (he _ n1) (he _ n2) (he _ n3) (he _ n4), h.own.frame fun i _ hi => he i (by omega), h.oc, h.os, h.of, h.ow, h.nb, by have := h.nl; omega⟩
theorem mh.more {J : List (List V)} {l : List aj} (h : mh B n c s f w E res lo hi v l) : mh (B ++ J) n c s f w E res lo hi v l :=
 h.mem (by simp) fun i hi => ai (Nat.lt_of_lt_of_le hi h.nl)
theorem mh.MJ {B' : List (List V)} {J : Nat} {l l' : List aj} (h : mh B n c s f w E res lo hi v l) (hJ : n ≤ J) (he : cm J lo hi n B B') (ho : fN B' l' lo hi v) : mh B' n c s f w E res lo hi v l' := by
 obtain ⟨n1, n2, n3, n4, n5⟩ := h.nb
 exact ⟨h.k.dZ (he.2.1 _ n1 ⟨by omega, h.oc⟩) (he.2.1 _ n2 ⟨by omega, h.os⟩) (he.2.1 _ n3 ⟨by omega, h.of⟩) (he.2.1 _ n4 ⟨by omega, h.ow⟩), ho, h.oc, h.os, h.of, h.ow, h.nb, by have := h.nl; have := he.1; omega⟩
theorem mh.bx {l : List aj} (h : mh B n c s f w E res lo hi v l) (hn : l ≠ []) : ∃ j1 m cap, v = .bx j1 m cap ∧ m = l.length := by
 rcases h.own with ⟨h0, _⟩ | ⟨_, j1, cap, Y, h1, _⟩
 ·exact absurd (List.length_eq_zero_iff.1 h0) hn
 ·exact ⟨j1, _, cap, h1, rfl⟩
theorem mh.pV {j1 m cap : Nat} {l : List aj} {y : aj} (h : mh B n c s f w E res lo hi (.bx j1 m cap) l) {k : Nat} (hk : l[k]? = some y) :
 ∃ (eC dM : Nat) (A1 C1 : List V) (mc : V), A1.length = k * 8 ∧ bU B n c s f w E res j1 eC dM A1 C1 mc y ∧
  (∀ J B1 q, cm j1 eC dM q B B1 → cm J lo hi q B B1) ∧
  ∀ B1 z, kJ j1 eC dM A1 C1 mc B B1 (some z) → mh B1 n c s f w E res lo hi (.bx j1 m cap) (l.set k z) := by
 have au := (List.getElem?_eq_some_iff.1 hk).1
 rcases h.own with ⟨h0, _⟩ | ⟨hn, YH, cj, Y, h1, h2, h3, h4, h5⟩
 ·omega
 obtain ⟨rfl, rfl, rfl⟩ := V.bx.inj h1
 rw [jg] at h5
 obtain ⟨A1, r, C1, eC, dM, e1, e2, e3, e4, e5, e6, e7, e8⟩ := h5.at k y hk
 obtain ⟨mc, rfl, hv⟩ := iH.1 e7
 obtain ⟨n1, n2, n3, n4, n6⟩ := h.nb
 have sub : ∀ i, (i < lo ∨ hi ≤ i) → Out j1 eC dM i := fun i hi => ⟨by omega, by omega⟩
 have hE : ∀ J B1 q, cm j1 eC dM q B B1 → cm J lo hi q B B1 := fun J B1 q he => he.sub h2 h3 (by omega) e6
 refine ⟨eC, dM, A1, C1, mc, e2, ⟨h.k, by rw [h4, e1], hv, by omega, sub _ h.oc, sub _ h.os, sub _ h.of, sub _ h.ow, ⟨n1, n2, n3, n4, by omega, by omega⟩, h.nl⟩, hE, fun B1 z hd => ?_⟩
 have he := hd.1.less h.nl
 refine h.MJ (Nat.le_refl n) (hE n _ _ he) (.inr ⟨by rw [List.length_set]; exact hn, j1, cap, _, by rw [List.length_set], h2, h3, (hd.2.2 z rfl).1, ?_⟩)
 rw [jg]
 refine e8 (iG B1) z _ rfl (iH.2 ⟨_, rfl, (hd.2.2 z rfl).2⟩) fun u _ a b q ha hb hc hf => iG.frame u hf fun i h7 h8 => he.2.1 i (by omega) ⟨by omega, by omega⟩
theorem LU.refl {r : Option (List aj)} (hr : r = none) : LU lo hi v B B r := ⟨.refl _ _ _ _ _, rfl, fun z hz => by rw [hr] at hz; cases hz⟩
theorem U7.ne {l : List aj} (h : mh B n c s f w E res lo hi v l) (ts : List az) : ∃ u S', U7 (fQ E l ts) lo hi v B T u S' := by
 cases hr : fQ E l ts with
 | none => exact ⟨_, _, B, rfl, .refl rfl, rfl⟩
 | some m =>
  obtain ⟨B1, i1, i2⟩ := An h.own (mU hr).symm
  exact ⟨_, _, B1, rfl, ⟨⟨by rw [i1.1]; exact Nat.le_refl _, fun i _ ho => i1.2.1 i (by have := ho.2; omega), fun i _ => i1.2.2 i⟩, i1.1, fun l hl => by rw [← Option.some.inj hl]; exact i2⟩, rfl⟩
structure VOk (E : bG) (res : List az) (n c s f w lo hi : Nat) (v : V) (l : List aj) (ts : List az) (B : List (List V)) (a : U8) : Prop where
 le : a.i ≤ l.length
 le' : a.i ≤ ts.length
 len : a.ys.length = a.i
 MJ : cm B.length lo hi B.length B a.B
 bl : a.B.length = B.length
 at' : mh a.B n c s f w E res lo hi v (a.ys ++ l.drop a.i)
 res : l.length = ts.length → (bA E (l.drop a.i) (ts.drop a.i)).map (a.ys ++ ·) = bA E l ts
set_option maxHeartbeats 8000000 in
theorem yM {l : List aj} (hT : nx E.su E.fu) (hl : ∀ y ∈ l, dI E res y) (E4 : ∀ y ∈ l, ∀ z ∈ y.kids, dI E res z) (hlen : l.length ≤ 60000) (ts : List az) (h : mh B n c s f w E res lo hi v l) : aD Tryz.prog av 110 [.ptr c 0, v, .d (.sl (ts.map ej))] ⟨B, T⟩ (U7 (fQ E l ts) lo hi v B T) := by
 obtain ⟨N, hn⟩ : ∃ N, B.length = N := ⟨_, rfl⟩
 have gy := h.nl
 have xN := Ai h.own
 rw [fE.eq_1, yH] at xN
 have gJ : ∀ M : List (List V), M.length = B.length → M.take B.length = M := fun M hM => List.take_of_length_le (by omega)
 have main : fQ E l ts = bA E l ts → af Tryz.prog av (N, T.length) 110 [.code (.loop (kF Tryz.f110 17)), .inBlock 0, .code (kF Tryz.f110 35)] (bu 65 [(0, .ptr c 0), (1, v), (2, .d (.sl (ts.map ej))), (38, v), (39, .d (.int .i64 (l.length : Int))), (40, .d (.int .i64 0))]) ⟨B, T⟩ (Go.Ab.Left ⟨B, T⟩ (U7 (fQ E l ts) lo hi v B T)) := by
  intro hv
  rw [hv]
  refine af.cJ (fun a : U8 => (bu 65 [(0, .ptr c 0), (1, v), (2, .d (.sl (ts.map ej))), (39, .d (.int .i64 (l.length : Int))), (40, .d (.int .i64 (a.i : Int)))], ⟨a.B, T⟩)) (VOk E res n c s f w lo hi v l ts B) (fun a => l.length - a.i) ⟨0, [], B⟩ ⟨Nat.zero_le _, Nat.zero_le _, rfl, .refl _ _ _ _ _, rfl, by simpa using h, fun _ => by simp⟩ ?_ rfl ?_
  ·skip
   refine ay.env _ ?_
   simp only [cZ, seval]
  rintro ⟨i, ys, Bi⟩ ⟨h2, QM, h3, h4, h5, h6, h7⟩ ih
  dsimp only at h2 QM h3 h4 h5 h6 h7 ih ⊢
  have hbi : Bi.length = N := h5.trans hn
  by_cases au : i < l.length
  case neg =>
   have e2 : decide ((i : Int) < (l.length : Int)) = false := decide_eq_false (by omega)
   obtain rfl : i = l.length := by omega
   rw [List.drop_eq_nil_of_le (Nat.le_refl _), List.append_nil] at h6
   by_cases mZ : l.length = ts.length
   ·have e3 : decide ((l.length : Int) = (ts.length : Int)) = true := decide_eq_true (by omega)
    have h7 := h7 mZ
    rw [List.drop_eq_nil_of_le (Nat.le_refl _), List.drop_eq_nil_of_le (by omega)] at h7
    rw [Fa, Option.map_some, List.append_nil] at h7
    refine af.go 160 ?_
    simp only [W, seval, ox, e2, xN, e3]
    refine af.ret Tryz.func110 rfl (an h4 ?_)
    rw [gJ _ h5, ← h7]
    exact ⟨_, rfl, ⟨h4, h5, fun m hm => by rw [← Option.some.inj hm]; exact h6.own⟩, rfl⟩
   ·have e3 : decide ((l.length : Int) = (ts.length : Int)) = false := decide_eq_false (by omega)
    refine af.go 160 ?_
    simp only [W, seval, ox, e2, xN, e3]
    refine af.ret Tryz.func110 rfl (an h4 ?_)
    rw [gJ _ h5, kL E _ _ mZ]
    exact ⟨_, rfl, ⟨h4, h5, fun m hm => by cases hm⟩, rfl⟩
  have e2 : decide ((i : Int) < (l.length : Int)) = true := decide_eq_true (by omega)
  have nZ := aI ((i : Int) + 1) (by omega)
  by_cases LV : i < ts.length
  case neg =>
   have e3 : decide ((ts.length : Int) ≤ (i : Int)) = true := decide_eq_true (by omega)
   refine af.go 160 ?_
   simp only [W, seval, ox, e2]
   refine af.bp 16 [] [] (by kernel_rfl) (by kernel_rfl) (by kernel_rfl) (by kernel_rfl) (by kernel_rfl) (by kernel_rfl) (by kernel_rfl) ?_
   simp (maxSteps := 4000000) only [W, seval, ox, xw, e3, Bool.not_true, Bool.not_false]
   refine af.go 60 ?_
   simp only [W, seval, ox]
   refine af.ret Tryz.func110 rfl (an h4 ?_)
   rw [gJ _ h5, kL E _ _ (by omega)]
   exact ⟨_, rfl, ⟨h4, h5, fun m hm => by cases hm⟩, rfl⟩
  have e3 : decide ((ts.length : Int) ≤ (i : Int)) = false := decide_eq_false (by omega)
  obtain ⟨y, hy⟩ : ∃ y, l[i] = y := ⟨_, rfl⟩
  obtain ⟨t, ht⟩ : ∃ t, ts[i] = t := ⟨_, rfl⟩
  have fk := hl l[i] (List.getElem_mem au)
  have hg : (ts.map ej)[i]? = some (ej ts[i]) := by simp [LV]
  rw [ht, cO] at hg
  rw [hy] at fk
  have lU : (ys ++ l.drop i)[i]? = some y := by rw [wm _ _ h3, List.getElem?_eq_getElem au, hy]
  obtain ⟨j1, m, cap, rfl, mB⟩ := h6.bx (by intro h0; rw [h0] at lU; simp at lU)
  have hm : (i : Int) < (m : Int) := by have := (List.getElem?_eq_some_iff.1 lU).1; omega
  obtain ⟨eC, dM, A1, C1, mc, a1, k1, k2, k3⟩ := h6.pV lU
  have hh := iJ (T := T) fk t k1
  rw [a1] at hh
  unfold aT at hh
  refine af.go 160 ?_
  simp only [W, seval, ox, e2]
  refine af.bp 16 [] [] (by kernel_rfl) (by kernel_rfl) (by kernel_rfl) (by kernel_rfl) (by kernel_rfl) (by kernel_rfl) (by kernel_rfl) ?_
  simp (maxSteps := 4000000) only [W, seval, ox, xw, ie, e3, Bool.not_true, Bool.not_false, hm, hg, LV]
  refine cz (pH.ne (T := T) k1 t) hh ?_
  rintro u _ ⟨B2, rfl, dU, rfl⟩
  have e4 : cm B.length lo hi B.length B B2 := h4.step (k2 _ _ _ dU.1)
  have pe : B2.length = B.length := dU.2.1.trans h5
  refine ⟨trivial, ?_⟩
  simp (maxSteps := 4000000) only [W, seval, ox, xw, nZ]
  cases hw : aV (aC E y t) t with
  | none =>
   refine af.go 60 ?_
   simp only [W, seval, ox, Option.isSome_none, Bool.not_false]
   refine af.ret Tryz.func110 rfl (an e4 ?_)
   rw [gJ _ pe]
   have hr : bA E l ts = none := by
    by_cases mZ : l.length = ts.length
    ·rw [← h7 mZ, ot E _ _ i au LV, ht, hy, hw]; rfl
    ·exact kL E _ _ mZ
   rw [hr]
   exact ⟨_, rfl, ⟨e4, pe, fun m hm => by cases hm⟩, rfl⟩
  | some z =>
   rw [hw] at dU
   refine af.go 60 ?_
   simp only [W, seval, ox, Option.isSome_some, Bool.not_true, nZ]
   have h8 := k3 B2 z dU
   rw [rM _ _ h3 au] at h8
   refine ih ⟨i + 1, ys ++ [z], B2⟩ ⟨au, LV, by simp [h3], e4, pe, h8, fun mZ => ?_⟩ (by dsimp only; omega) _ _ ?_ rfl
   ·rw [← h7 mZ, ot E _ _ i au LV, ht, hy, hw]
    dsimp only
    cases bA E (l.drop (i + 1)) (ts.drop (i + 1)) <;> simp
   ·skip
    refine ay.env _ ?_
    simp only [cZ, seval]
 by_cases h1 : l.length = 1
 case neg =>
  have e1 : decide ((l.length : Int) = 1) = false := decide_eq_false (by omega)
  refine OV.go 160 rfl fun bh => ?_
  simp only [eI] at bh
  simp only [W, seval, ox, hn, xN, e1]
  refine af.fX ?_ (main ?_)
  ·skip
   refine ay.env _ ?_
   simp only [cZ, seval]
  ·match l, h1 with
   | [], _ => rfl
   | [_], h1 => exact absurd rfl h1
   | _ :: _ :: _, _ => rfl
 have e1 : decide ((l.length : Int) = 1) = true := decide_eq_true (by omega)
 obtain ⟨x, rfl⟩ := List.length_eq_one_iff.1 h1
 by_cases h2 : 1 < ts.length
 case neg =>
  have e2 : decide ((1 : Int) < (ts.length : Int)) = false := decide_eq_false (by omega)
  refine OV.go 160 rfl fun bh => ?_
  simp only [eI] at bh
  simp only [W, seval, ox, hn, xN, e1, e2]
  refine af.fX ?_ (main ?_)
  ·skip
   refine ay.env _ ?_
   simp only [cZ, seval]
   all_goals rfl
  ·rw [oy, if_neg fun h => h2 h.1]
 have e2 : decide ((1 : Int) < (ts.length : Int)) = true := decide_eq_true (by omega)
 obtain ⟨j1, m, cap, rfl, mB⟩ := h.bx (by simp)
 have hm : (0 : Int) < (m : Int) := by rw [mB]; simp
 have U9 : decide ((m : Int) = 1) = true := by rw [mB]; rfl
 obtain ⟨eC, dM, A1, C1, mc, a1, k1, k2, k3⟩ := h.pV (k := 0) (y := x) rfl
 rw [Nat.zero_mul] at a1
 obtain ⟨Y, hY⟩ : ∃ Y, A1 ++ aR x mc ++ C1 = Y := ⟨_, rfl⟩
 obtain ⟨y0, y7, y8, y9⟩ := Ag hY.symm a1
 have aA := k1.row
 rw [hY] at aA
 have qc : j1 < N := by have := k1.nb; omega
 by_cases h7 : x.kind = 7
 case neg =>
  have e7 := decide_eq_false h7
  refine OV.go 160 rfl fun bh => ?_
  simp only [eI] at bh
  simp only [W, seval, ox, ie, hn, U9, e2, hm, qc, aA, y0, e7]
  refine af.fX ?_ (main ?_)
  ·skip
   refine ay.env _ ?_
   simp only [cZ, seval]
   all_goals (rw [mB])
  ·rw [oy, if_neg fun h => h7 h.2]
 have e7 := decide_eq_true h7
 have hc := yI (T := T) hT (E4 x (by simp)) k1
 rw [a1] at hc
 have hva : fQ E [x] ts = match mb E x with
  | some (y, rs) => if gq rs ts = true then some [y] else none
  | none => none := by rw [oy, if_pos ⟨h2, h7⟩]
 rw [hva]
 refine OV.go 160 rfl fun bh => ?_
 simp only [eI] at bh
 simp only [W, seval, ox, ie, hn, U9, e2, hm, qc, aA, y0, e7]
 refine aQ hc ?_
 rintro u _ ⟨B1, rfl, hd, hv⟩
 have e3 := k2 B.length _ _ hd.1
 cases hr : mb E x with
 | none =>
  rw [hr] at hv
  obtain rfl : u = _ := hv
  refine af.go 60 ?_
  simp only [W, seval, ox]
  refine af.ret Tryz.func110 rfl (an e3 ?_)
  rw [gJ _ hd.2.1]
  exact ⟨_, rfl, ⟨e3, hd.2.1, fun m hm => by cases hm⟩, rfl⟩
 | some p =>
  obtain ⟨y, rs⟩ := p
  rw [hr] at hv hd
  obtain rfl : u = _ := hv
  dsimp only
  refine af.go 60 ?_
  simp only [W, seval, ox]
  refine ag (kH 37 [] [] tG rs ts B1 T fun x _ y _ J => Cy x y _) ?_
  rintro _ _ ⟨rfl, rfl⟩
  rw [CY]
  refine af.go 60 ?_
  simp only [W, seval, ox]
  refine af.ret Tryz.func110 rfl (an e3 ?_)
  rw [gJ _ hd.2.1]
  cases gq rs ts with
  | false => exact ⟨_, rfl, ⟨e3, hd.2.1, fun m hm => by cases hm⟩, rfl⟩
  | true => exact ⟨_, rfl, ⟨e3, hd.2.1, fun m hm => by rw [← Option.some.inj hm]; exact (k3 B1 y hd).own⟩, rfl⟩
end
def Ao := by
 have c := aN Tryz.f109 (by conv => lhs; cbv)
 dsimp only [KK, fj, eR, eS, List.map_cons, List.map_nil, List.toList_toArray] at c
 exact c
theorem YP : bK Tryz.prog 109 Tryz.f109 43 := ⟨Tryz.func109, by kernel_rfl⟩
def iK (w p lo hi n m : Nat) (B B' : List (List V)) : Prop := B.length ≤ B'.length ∧ (∀ i, i < n → i ≠ w → i ≠ p → (i < lo ∨ hi ≤ i) → B'[i]? = B[i]?) ∧ ∀ i, i < n → ∀ Y, B'[i]? = some Y → ∀ v ∈ Y, (∃ X, B[i]? = some X ∧ v ∈ X) ∨ fit 0 0 v = true ∨ (i = p ∧ fit 0 m v = true)
section
variable {w p lo hi n m : Nat} {B B1 B2 : List (List V)}
theorem iK.mem (h : iK w p lo hi n m B B1) (hl : B.length ≤ B2.length) (he : ∀ i, i < n → B2[i]? = B1[i]?) : iK w p lo hi n m B B2 :=
 ⟨hl, fun i hn h1 h2 h3 => (he i hn).trans (h.2.1 i hn h1 h2 h3), fun i hn Y hY v hv => h.2.2 i hn Y (by rw [← he i hn]; exact hY) v hv⟩
theorem iK.refl (w p lo hi n m : Nat) (B : List (List V)) : iK w p lo hi n m B B := ⟨Nat.le_refl _, fun _ _ _ _ _ => rfl, fun _ _ Y hY _ hv => .inl ⟨Y, hY, hv⟩⟩
theorem iK.trans (h : iK w p lo hi n m B B1) (h1 : iK w p lo hi n m B1 B2) : iK w p lo hi n m B B2 :=
 ⟨Nat.le_trans h.1 h1.1, fun i hn a b c => (h1.2.1 i hn a b c).trans (h.2.1 i hn a b c), fun i hn Y hY v hv => (h1.2.2 i hn Y hY v hv).elim (fun ⟨X, hX, hm⟩ => h.2.2 i hn X hX v hm) .inr⟩
theorem iK.fX {w1 p1 eC dM n1 m1 : Nat} (h : iK w1 p1 eC dM n1 m1 B B1) (hn : n ≤ n1) (hm : (p1 = p ∧ m1 ≤ m) ∨ n ≤ p1 ∨ m1 = 0) (hw : w1 = w ∨ w1 = p ∨ (lo ≤ w1 ∧ w1 < hi) ∨ n ≤ w1) (hp : p1 = w ∨ p1 = p ∨ (lo ≤ p1 ∧ p1 < hi) ∨ n ≤ p1) (A7 : lo ≤ eC) (PG : dM ≤ hi) : iK w p lo hi n m B B1 :=
 ⟨h.1, fun i a b c d => h.2.1 i (by omega) (by omega) (by omega) (by omega), fun i a Y hY v hv => (h.2.2 i (by omega) Y hY v hv).imp id fun h => h.elim .inl fun ⟨h1, h2⟩ => by
  rcases hm with ⟨e, hm⟩ | hm | hm
  ·exact .inr ⟨h1.trans e, lV (Nat.le_refl _) hm v h2⟩
  ·omega
  ·rw [hm] at h2; exact .inl h2⟩
theorem cm.WK {J : Nat} (h : cm J lo hi n B B1) (hJ : n ≤ J ∨ J = w ∨ J = p ∨ (lo ≤ J ∧ J < hi)) : iK w p lo hi n m B B1 :=
 ⟨h.1, fun i a b c d => h.2.1 i a ⟨by omega, d⟩, fun i a Y hY v hv => (h.2.2 i a Y hY v hv).imp id .inl⟩
theorem iK.step (h0 : iK w p lo hi B.length m B B1) (h : iK w p lo hi B1.length m B1 B2) : iK w p lo hi B.length m B B2 :=
 h0.trans (h.fX h0.1 (.inl ⟨rfl, Nat.le_refl _⟩) (.inl rfl) (.inr (.inl rfl)) (Nat.le_refl _) (Nat.le_refl _))
theorem iK.app {J : List (List V)} (h0 : iK w p lo hi B.length m B B1) : iK w p lo hi B.length m B (B1 ++ J) := h0.mem (by have := h0.1; rw [List.length_append]; omega) fun i hi => ai (Nat.lt_of_lt_of_le hi h0.1)
theorem iK.jh {k : Nat} {x : List V} (h0 : iK w p lo hi B.length m B B1) (hk : B.length ≤ k) : iK w p lo hi B.length m B (B1.set k x) := h0.mem (by rw [List.length_set]; exact h0.1) fun i hi => List.getElem?_set_ne (by omega)
theorem iK.cut (h : iK w p lo hi B.length m B B1) : iK w p lo hi B.length m B (B1.take B.length) := h.mem (by have := h.1; rw [List.length_take]; omega) fun i hi => by rw [List.getElem?_take, if_pos hi]
theorem iK.put {k : Nat} {x : List V} (h0 : iK w p lo hi n m B B1) (hk : k = w ∨ k = p ∨ (lo ≤ k ∧ k < hi)) (hx : ∀ v ∈ x, fit 0 0 v = true ∨ (k = p ∧ fit 0 m v = true)) : iK w p lo hi n m B (B1.set k x) := by
 refine ⟨by rw [List.length_set]; exact h0.1, fun i a b c d => ?_, fun i a Y hY v hv => ?_⟩
 ·rw [List.getElem?_set_ne (by omega)]; exact h0.2.1 i a b c d
 ·by_cases e : k = i
  ·subst e
   by_cases hl : k < B1.length
   ·rw [List.getElem?_set_self hl] at hY
    obtain rfl := Option.some.inj hY
    exact .inr (hx v hv)
   ·rw [List.getElem?_eq_none (by rw [List.length_set]; omega)] at hY
    cases hY
  ·rw [List.getElem?_set_ne e] at hY
   exact h0.2.2 i a Y hY v hv
end
theorem wA {w p lo hi m : Nat} {B M : List (List V)} {T T' K : List (Nat × Nat)} {R : V → Mem → Prop} {v : V} (he : iK w p lo hi B.length m B M) (hm : m ≤ T.length) (hT : T'.length = T.length) (h : R (wk B.length T.length v) ⟨M.take B.length, T'⟩) : Go.Ab.Left ⟨B, T⟩ R v ⟨M, T' ++ K⟩ := by
 have hl : (M.take B.length).length = B.length := by have := he.1; rw [List.length_take]; omega
 have := Go.Ab.Left.Xp (J := M.drop B.length) (U := T') (K := K) hl hT (fun i vs hi v hv => ?_) h
 ·rwa [List.take_append_drop] at this
 ·have au : i < B.length := by have := (List.getElem?_eq_some_iff.1 hi).1; omega
  rw [List.getElem?_take, if_pos au] at hi
  exact (he.2.2 i au vs hi v hv).imp id fun h => h.elim (fun h => lV (Nat.zero_le _) (Nat.zero_le _) v h) fun h => lV (Nat.zero_le _) hm v h.2
theorem cX {w p lo hi m : Nat} {B M : List (List V)} {T T' : List (Nat × Nat)} {R : V → Mem → Prop} {v : V} (he : iK w p lo hi B.length m B M) (hm : m ≤ T.length) (hT : T'.length = T.length) (h : R (wk B.length T.length v) ⟨M.take B.length, T'⟩) : Go.Ab.Left ⟨B, T⟩ R v ⟨M, T'⟩ := by
 have := wA (K := []) he hm hT h
 rwa [List.append_nil] at this
structure Lay where
 j : Nat
 lo : Nat
 m1 : Nat
 m2 : Nat
 m3 : Nat
 m4 : Nat
 hi : Nat
 A : List V
 C : List V
 v1 : V
 v2 : V
 v3 : V
 v4 : V
 v5 : V
def Lay.row (L : Lay) (x : aF) : List V := L.A ++ cT x L.v1 L.v2 L.v3 L.v4 L.v5 ++ L.C
def Lay.parts (L : Lay) (B : List (List V)) (x : aF) : Prop := tO B x L.lo L.m1 L.m2 L.m3 L.m4 L.hi L.v1 L.v2 L.v3 L.v4 L.v5
structure pY (B : List (List V)) (n c s f w : Nat) (E : bG) (res : List az) (L : Lay) (x : aF) : Prop where
 k : rF B c s f w E res
 row : B[L.j]? = some (L.row x)
 own : L.parts B x
 jo : L.j < L.lo ∨ L.hi ≤ L.j
 oc : Out L.j L.lo L.hi c
 os : Out L.j L.lo L.hi s
 of : Out L.j L.lo L.hi f
 ow : Out L.j L.lo L.hi w
 wd : c ≠ w ∧ s ≠ w ∧ f ≠ w
 nb : c < n ∧ s < n ∧ f < n ∧ w < n ∧ L.j < n ∧ L.hi ≤ n
 nl : n ≤ B.length
structure lP (B : List (List V)) (n c s f w : Nat) (E : bG) (res : List az) (lo hi : Nat) (v : V) (l : List aF) : Prop where
 k : rF B c s f w E res
 own : fH B l lo hi v
 oc : c < lo ∨ hi ≤ c
 os : s < lo ∨ hi ≤ s
 of : f < lo ∨ hi ≤ f
 ow : w < lo ∨ hi ≤ w
 wd : c ≠ w ∧ s ≠ w ∧ f ≠ w
 nb : c < n ∧ s < n ∧ f < n ∧ w < n ∧ hi ≤ n
 nl : n ≤ B.length
def CZ (w lo hi : Nat) (v : V) (vs : List bI) (B B' : List (List V)) (r : Option (List aF)) : Prop := iK w w lo hi B.length 0 B B' ∧ B'.length = B.length ∧ ∀ l, r = some l → fH B' l lo hi v ∧ B'[w]? = some (pU vs)
def Tb (r : Option (List aF)) (w lo hi : Nat) (v : V) (vs : List bI) (B : List (List V)) (T : List (Nat × Nat)) (u : V) (S' : Mem) : Prop :=
 ∃ B', S' = ⟨B', T⟩ ∧ CZ w lo hi v vs B B' r ∧ u = .d (.bool r.isSome)
def OW (su : List cM) (fu : List cR) (res : List az) (l : List aF) : Prop := ∀ (vs : List bI) (n c s f w : Nat) (B : List (List V)) (T : List (Nat × Nat)) (lo hi : Nat) (v : V), (∀ p ∈ vs, TW p.type) → lP B n c s f w ⟨su, fu, vs⟩ res lo hi v l →
 aD Tryz.prog av 27 [.ptr c 0, v] ⟨B, T⟩ (Tb (cB su fu res l vs) w lo hi v vs B T)
def MK (r : Option (aF × List bI)) (L : Lay) (w p M : Nat) (vs : List bI) (nm : List (List UInt8)) (B : List (List V)) (T : List (Nat × Nat)) (u : V) (S' : Mem) : Prop :=
 ∃ B' T', S' = ⟨B', T'⟩ ∧ B'.length = B.length ∧ T'.length = T.length ∧ (∀ q, q ≠ M → T'[q]? = T[q]?) ∧ iK w p L.lo L.hi B.length T.length B B' ∧ u = .d (.bool r.isSome) ∧
  ∀ x nN, r = some (x, nN) → L.parts B' x ∧ B'[L.j]? = some (L.row x) ∧ ∃ ks, nN = vs ++ ks ∧ B'[w]? = some (pU nN) ∧ B'[p]? = some [.sl (gu (nm ++ ks.map bI.name)) (.own M)] ∧ T'[M]? = some ((nm ++ ks.map bI.name).length, 1)
def RY (su : List cM) (fu : List cR) (res : List az) (x : aF) : Prop := ∀ (vs : List bI) (n c s f w : Nat) (B : List (List V)) (T : List (Nat × Nat)) (L : Lay) (p M : Nat) (nm : List (List UInt8)), (∀ p ∈ vs, TW p.type) → pY B n c s f w ⟨su, fu, vs⟩ res L x → n ≤ p → B[p]? = some [.sl (gu nm) (.own M)] → T[M]? = some (nm.length, 1) → nm.length ≤ 60000 →
 aD Tryz.prog av 75 [.ptr c 0, .ptr L.j L.A.length, .ptr p 0] ⟨B, T⟩ (MK (iE su fu res x vs) L w p M vs nm B T)
section
variable {E : bG} {res : List az} {n c s f w : Nat} {B B' : List (List V)} {T : List (Nat × Nat)} {L : Lay} {x : aF} {lo hi : Nat} {v : V} {l : List aF}
theorem pY.mem (h : pY B n c s f w E res L x) (hl : B.length ≤ B'.length) (he : ∀ i, i < n → B'[i]? = B[i]?) : pY B' n c s f w E res L x := by
 obtain ⟨n1, n2, n3, n4, n5, n6⟩ := h.nb
 obtain ⟨l1, l2, l3, l4, l5⟩ := h.own.le
 exact ⟨h.k.dZ (he _ n1) (he _ n2) (he _ n3) (he _ n4), by rw [he _ n5]; exact h.row, ⟨h.own.1.frame fun i _ hi => he i (by omega), h.own.2.1.frame fun i _ hi => he i (by omega), h.own.2.2.1.frame fun i _ hi => he i (by omega), h.own.2.2.2.1.frame fun i _ hi => he i (by omega), h.own.2.2.2.2.frame fun i _ hi => he i (by omega)⟩, h.jo, h.oc, h.os, h.of, h.ow, h.wd, h.nb, by have := h.nl; omega⟩
theorem pY.more {J : List (List V)} (h : pY B n c s f w E res L x) : pY (B ++ J) n c s f w E res L x :=
 h.mem (by simp) fun i hi => ai (Nat.lt_of_lt_of_le hi h.nl)
theorem pY.aG (h : pY B n c s f w E res L x) : mh B n c s f w E res L.lo L.m1 L.v1 x.aG := by
 obtain ⟨n1, n2, n3, n4, n5, n6⟩ := h.nb
 obtain ⟨l1, l2, l3, l4, l5⟩ := h.own.le
 exact ⟨h.k, h.own.1, by have := h.oc.2; omega, by have := h.os.2; omega, by have := h.of.2; omega, by have := h.ow.2; omega, ⟨n1, n2, n3, n4, by omega⟩, h.nl⟩
theorem pY.exprs (h : pY B n c s f w E res L x) : mh B n c s f w E res L.m1 L.m2 L.v2 x.exprs := by
 obtain ⟨n1, n2, n3, n4, n5, n6⟩ := h.nb
 obtain ⟨l1, l2, l3, l4, l5⟩ := h.own.le
 exact ⟨h.k, h.own.2.1, by have := h.oc.2; omega, by have := h.os.2; omega, by have := h.of.2; omega, by have := h.ow.2; omega, ⟨n1, n2, n3, n4, by omega⟩, h.nl⟩
theorem pY.body (h : pY B n c s f w E res L x) : lP B n c s f w E res L.m2 L.m3 L.v3 x.body := by
 obtain ⟨n1, n2, n3, n4, n5, n6⟩ := h.nb
 obtain ⟨l1, l2, l3, l4, l5⟩ := h.own.le
 exact ⟨h.k, h.own.2.2.1, by have := h.oc.2; omega, by have := h.os.2; omega, by have := h.of.2; omega, by have := h.ow.2; omega, h.wd, ⟨n1, n2, n3, n4, by omega⟩, h.nl⟩
theorem pY.dO (h : pY B n c s f w E res L x) : lP B n c s f w E res L.m3 L.m4 L.v4 x.dO := by
 obtain ⟨n1, n2, n3, n4, n5, n6⟩ := h.nb
 obtain ⟨l1, l2, l3, l4, l5⟩ := h.own.le
 exact ⟨h.k, h.own.2.2.2.1, by have := h.oc.2; omega, by have := h.os.2; omega, by have := h.of.2; omega, by have := h.ow.2; omega, h.wd, ⟨n1, n2, n3, n4, by omega⟩, h.nl⟩
theorem gh {X A C : List V} {x : aF} {v1 v2 v3 v4 v5 : V} {a : Nat} (hX : X = A ++ cT x v1 v2 v3 v4 v5 ++ C) (ha : A.length = a) :
 X[a]? = some (.d (.int .i64 x.kind)) ∧ X[a + 1]? = some (.d (.sl (gu x.names))) ∧ X[a + 5]? = some v1 ∧ X[a + 6]? = some v2 ∧ X[a + 7]? = some v3 ∧ X[a + 8]? = some v4 ∧ X[a + 9]? = some v5 ∧ a + 2 + 3 ≤ X.length ∧ (X.drop (a + 2)).take 3 = jt x.type ∧ a + 10 ≤ X.length ∧ (X.drop a).take 10 = cT x v1 v2 v3 v4 v5 := by
 have e : X = A ++ (cT x v1 v2 v3 v4 v5 ++ C) := by rw [hX, List.append_assoc]
 have g : ∀ q, X[a + q]? = (cT x v1 v2 v3 v4 v5 ++ C)[q]? := fun q => by rw [e, List.getElem?_append_right (by omega)]; congr 1; omega
 have d : ∀ q, X.drop (a + q) = (cT x v1 v2 v3 v4 v5 ++ C).drop q := fun q => by rw [e, List.drop_append, List.drop_of_length_le (by omega), List.nil_append]; congr 1; omega
 have hl : X.length = a + 10 + C.length := by rw [e, List.length_append, List.length_append, ha]; simp [cT]; omega
 refine ⟨g 0, g 1, g 5, g 6, g 7, g 8, g 9, by omega, by rw [d 2]; rfl, by omega, ?_⟩
 have := d 0
 rw [Nat.add_zero] at this
 rw [this]; rfl
end
theorem cm.wide {J J' lo hi eC dM n : Nat} {B B1 : List (List V)} (h : cm J eC dM n B B1) (hJ : n ≤ J) (h1 : lo ≤ eC) (h2 : dM ≤ hi) : cm J' lo hi n B B1 :=
 ⟨h.1, fun i hn ho => h.2.1 i hn ⟨by omega, by have := ho.2; omega⟩, h.2.2⟩
def seG (r : Option (List aj)) (L : Lay) (x : aF) (B : List (List V)) (T : List (Nat × Nat)) (u : V) (S' : Mem) : Prop :=
 ∃ B', S' = ⟨B', T⟩ ∧ B'.length = B.length ∧ cm B.length L.lo L.m2 B.length B B' ∧ u = .d (.bool r.isSome) ∧ ∀ es, r = some es → fN B' x.aG L.lo L.m1 L.v1 ∧ fN B' es L.m1 L.m2 L.v2
structure TSt where
 i : Nat
 ts : List az
 B : List (List V)
structure TOk (E : bG) (res : List az) (n c s f w : Nat) (L : Lay) (l : List aj) (B : List (List V)) (a : TSt) : Prop where
 le : a.i ≤ l.length
 len : a.ts.length = a.i
 MJ : cm B.length L.lo L.m1 B.length B a.B
 at' : mh a.B n c s f w E res L.lo L.m1 L.v1 l
 res : (nh E (l.drop a.i)).map (a.ts ++ ·) = nh E l
theorem Fb (E : bG) (l : List aj) (i : Nat) (h : i < l.length) : nh E (l.drop i) = match aC E l[i] bO with
 | some (_, t) => (nh E (l.drop (i + 1))).map fun ts => t :: ts
 | none => none := by
 rw [List.drop_eq_getElem_cons h]
 conv => lhs; unfold nh
 rfl
theorem oz {α : Type} (l : List α) (i : Nat) (x : α) (h : l[i]? = some x) : l.set i x = l := by
 apply List.ext_getElem?
 intro k
 by_cases e : i = k
 ·subst e
  rw [List.getElem?_set_self (List.getElem?_eq_some_iff.1 h).1, h]
 ·rw [List.getElem?_set_ne e]
section
variable {E : bG} {res : List az} {n c s f w : Nat} {B : List (List V)} {T : List (Nat × Nat)} {L : Lay}
set_option maxHeartbeats 8000000 in
theorem RZ {x : aF} (hT : nx E.su E.fu) (SJ : ∀ y ∈ x.aG, dI E res y ∧ ∀ w z t, aC E y w = some (z, t) → z = y) (hl : ∀ y ∈ x.exprs, dI E res y) (E4 : ∀ y ∈ x.exprs, ∀ z ∈ y.kids, dI E res z) (hlen : x.exprs.length ≤ 60000) (Qk : x.aG.length ≤ 60000) (h : pY B n c s f w E res L x) :
 aD Tryz.prog av 109 [.ptr c 0, .ptr L.j L.A.length] ⟨B, T⟩ (seG (match nh E x.aG with
  | some ts => fQ E x.exprs ts
  | none => none) L x B T) := by
 obtain ⟨N, hn⟩ : ∃ N, B.length = N := ⟨_, rfl⟩
 obtain ⟨M, hM⟩ : ∃ M, T.length = M := ⟨_, rfl⟩
 obtain ⟨al, dA⟩ : ∃ a, L.A.length = a := ⟨_, rfl⟩
 obtain ⟨j, tQ⟩ : ∃ j, L.j = j := ⟨_, rfl⟩
 obtain ⟨X, hX⟩ : ∃ X, L.row x = X := ⟨_, rfl⟩
 obtain ⟨x0, x1, x5, x6, x7, x8, x9, j9, lM, _⟩ := gh (show X = _ from hX.symm) dA
 have aA := h.row
 rw [hX, tQ] at aA
 have gy := h.nl
 have hj : j < N := by have := h.nb; omega
 have SV := h.jo
 have hle := h.own.le
 have xN := Ai h.own.1
 rw [fE.eq_1, yH] at xN
 rw [dA, tQ]
 refine YP.go 160 rfl fun bh => ?_
 simp only [eI] at bh
 simp only [W, seval, Ao, hn, hj, aA, x5, xN]
 refine af.token 5 [] (by rfl) 3 (by omega) rfl ?_
 simp only [ko, hM]
 refine af.cJ (fun a : TSt => (bu 43 [(0, .ptr c 0), (1, .ptr j al), (5, .sl (a.ts.map ej) (.own M)), (13, .d (.int .i64 (x.aG.length : Int))), (14, .d (.int .i64 (a.i : Int)))], ⟨a.B, T ++ [(a.i, 3)]⟩)) (TOk E res n c s f w L x.aG B) (fun a => x.aG.length - a.i) ⟨0, [], B⟩ ⟨Nat.zero_le _, rfl, .refl _ _ _ _ _, h.aG, by simp⟩ ?_ rfl ?_
 ·skip
  refine ay.env _ ?_
  simp only [cZ, seval]
  all_goals rfl
 rintro ⟨i, ts, Bi⟩ ⟨h2, h3, h4, h6, h7⟩ ih
 dsimp only at h2 h3 h4 h6 h7 ih ⊢
 obtain ⟨Ni, mA⟩ : ∃ Ni, Bi.length = Ni := ⟨_, rfl⟩
 have hNN : N ≤ Ni := by have := h4.1; omega
 have fh : j < Ni := by omega
 have Ql : Out B.length L.lo L.m1 j := ⟨by omega, by omega⟩
 have jP : Bi[j]? = some X := by rw [h4.2.1 j (by omega) Ql]; exact aA
 by_cases au : i < x.aG.length
 case neg =>
  have e2 : decide ((i : Int) < (x.aG.length : Int)) = false := decide_eq_false (by omega)
  obtain rfl : i = x.aG.length := by omega
  rw [List.drop_eq_nil_of_le (Nat.le_refl _), nh, Option.map_some, List.append_nil] at h7
  rw [← h7]
  dsimp only
  have Yi : pY Bi n c s f w E res L x := by
   obtain ⟨n1, n2, n3, n4, n5, n6⟩ := h.nb
   have hk : ∀ i, i < n → (i < L.lo ∨ L.m1 ≤ i) → Bi[i]? = B[i]? := fun i hi ho => h4.2.1 i (by omega) ⟨by omega, ho⟩
   exact ⟨h.k.dZ (hk _ n1 (by have := h.oc.2; omega)) (hk _ n2 (by have := h.os.2; omega)) (hk _ n3 (by have := h.of.2; omega)) (hk _ n4 (by have := h.ow.2; omega)), by rw [tQ, jP, hX], ⟨h6.own, h.own.2.1.frame fun i a _ => hk i (by omega) (by omega), h.own.2.2.1.frame fun i a _ => hk i (by omega) (by omega), h.own.2.2.2.1.frame fun i a _ => hk i (by omega) (by omega), h.own.2.2.2.2.frame fun i a _ => hk i (by omega) (by omega)⟩, h.jo, h.oc, h.os, h.of, h.ow, h.wd, h.nb, by omega⟩
  have hv := yM (T := T ++ [(x.aG.length, 3)]) hT hl E4 hlen ts Yi.exprs
  have hv := aD.less (kM.same (kM.same (kM.sl (tk := .own M) .nil))) hv
  refine af.go 160 ?_
  simp only [W, seval, Ao, e2, fh, jP, x6]
  refine aQ hv ?_
  rintro u _ ⟨B2, rfl, hd, rfl⟩
  have e5 : cm B.length L.lo L.m2 B.length B B2 := (h4.wide (Nat.le_refl _) (Nat.le_refl _) hle.2.1).step (hd.1.wide (Nat.le_refl _) hle.1 (Nat.le_refl _))
  refine af.go 60 ?_
  simp only [W, seval, Ao]
  refine af.ret Tryz.func109 rfl (v7 e5 ?_)
  refine ⟨_, rfl, by have := e5.1; rw [List.length_take]; omega, e5.cut, rfl, fun es Ec => ⟨?_, ?_⟩⟩
  ·exact h6.own.frame fun i a b => by rw [fB (by have := h.nb; omega), hd.1.2.1 i (by have := h.nb; omega) ⟨by have := h.nb; omega, by omega⟩]
  ·exact (hd.2.2 es Ec).frame fun i a b => by rw [fB (by have := h.nb; omega)]
 have e2 : decide ((i : Int) < (x.aG.length : Int)) = true := decide_eq_true (by omega)
 have nZ := aI ((i : Int) + 1) (by omega)
 obtain ⟨y, hy⟩ : ∃ y, x.aG[i] = y := ⟨_, rfl⟩
 obtain ⟨fk, FG⟩ := SJ x.aG[i] (List.getElem_mem au)
 rw [hy] at fk FG
 have lU : x.aG[i]? = some y := by rw [List.getElem?_eq_getElem au, hy]
 obtain ⟨j1, m, cap, Ry, mB⟩ := h6.bx (by intro h0; rw [h0] at lU; simp at lU)
 rw [Ry] at h6 x5
 have hm : (i : Int) < (m : Int) := by omega
 obtain ⟨eC, dM, A1, C1, mc, a1, k1, k2, k3⟩ := h6.pV lU
 refine af.go 160 ?_
 simp only [W, seval, Ao, mA, e2]
 refine af.bp 13 [12] [j] (by kernel_rfl) (by kernel_rfl) (by kernel_rfl) (by kernel_rfl) (by kernel_rfl) (by kernel_rfl) (by kernel_rfl) ?_
 simp (maxSteps := 4000000) only [W, seval, Ao, xw, ie, mA, fh, jP, x5, hm]
 refine bf (fun Z => cH _ _) ?_
 simp (maxSteps := 4000000) only [W, seval, Ao, xw, mA, aT]
 refine IY fk k1 bO a1 ?_
 intro B1 t b0 hd aU lD iM
 have g1 : B1[j]? = Bi[j]? := by
  have := (k2 B.length _ _ hd.1).2.1 j (by omega) Ql
  exact this
 have e5 : cm B.length L.lo L.m1 B.length B B1 := h4.step ((k2 Bi.length _ _ hd.1).wide (Nat.le_refl _) (Nat.le_refl _) (Nat.le_refl _))
 rw [mA] at aU
 refine ⟨⟨g1, trivial⟩, ?_⟩
 rw [Fb _ _ _ au, hy] at h7
 unfold aT
 simp (maxSteps := 4000000) only [W, seval, Ao, xw, aU]
 refine ⟨g1, ?_⟩
 cases b0
 ·have hr := iM rfl
  rw [hr] at h7
  rw [← h7]
  refine af.go 60 ?_
  simp only [W, seval, Ao, Bool.not_false]
  refine af.ret Tryz.func109 rfl (v7 e5.app ?_)
  exact ⟨_, rfl, by have := e5.1; rw [List.length_take, List.length_append]; omega, (e5.app.wide (Nat.le_refl _) (Nat.le_refl _) hle.2.1).cut, rfl, fun es Ec => by cases Ec⟩
 obtain ⟨z, hr⟩ := lD rfl
 rw [hr] at h7 hd
 obtain rfl := FG _ _ _ hr
 have mg := k3 B1 z hd
 rw [oz _ _ _ lU] at mg
 have Va : ts.map ej ++ [[.int .i64 t.kind, .str t.name, .sl (t.elem.map ej)]] = (ts ++ [t]).map ej := by
  rw [List.map_append, List.map_cons, List.map_nil, cO]
 have hr3 : cV 3 [[D.int .i64 t.kind, .str t.name, .sl (t.elem.map ej)]] = true := rfl
 have ek : (i + 1) * 48 ≤ 140737488355328 := by omega
 refine af.go 160 ?_
 simp only [W, seval, Ao, Bool.not_true, hM, aU, h3, bX, bH, Nat.reduceMul, ek, Va, hr3, nZ]
 refine ih ⟨i + 1, ts ++ [t], B1 ++ [[V.d (.int .i64 t.kind), .d (.str t.name), .d (.sl (t.elem.map ej))]]⟩ ⟨au, by simp [h3], e5.app, ?_, ?_⟩ (by dsimp only; omega) _ _ ?_ rfl
 ·rw [Ry]
  exact mg.more
 ·dsimp only at h7 ⊢
  rw [← h7]
  cases nh E (x.aG.drop (i + 1)) <;> simp
 ·skip
  refine ay.env _ ?_
  simp only [cZ, seval]
end
structure uk (B : List (List V)) (n c s f w : Nat) (E : bG) (res : List az) (lo hi : Nat) (v : V) (l : List cQ) : Prop where
 k : rF B c s f w E res
 own : lz B l lo hi v
 oc : c < lo ∨ hi ≤ c
 os : s < lo ∨ hi ≤ s
 of : f < lo ∨ hi ≤ f
 ow : w < lo ∨ hi ≤ w
 wd : c ≠ w ∧ s ≠ w ∧ f ≠ w
 nb : c < n ∧ s < n ∧ f < n ∧ w < n ∧ hi ≤ n
 nl : n ≤ B.length
section
variable {E : bG} {res : List az} {n c s f w : Nat} {B B' : List (List V)} {lo hi : Nat} {v : V}
theorem lP.mem {l : List aF} (h : lP B n c s f w E res lo hi v l) (hl : B.length ≤ B'.length) (he : ∀ i, i < n → B'[i]? = B[i]?) : lP B' n c s f w E res lo hi v l := by
 obtain ⟨n1, n2, n3, n4, n5⟩ := h.nb
 exact ⟨h.k.dZ (he _ n1) (he _ n2) (he _ n3) (he _ n4), h.own.frame fun i _ hi => he i (by omega), h.oc, h.os, h.of, h.ow, h.wd, h.nb, by have := h.nl; omega⟩
theorem lP.more {J : List (List V)} {l : List aF} (h : lP B n c s f w E res lo hi v l) : lP (B ++ J) n c s f w E res lo hi v l :=
 h.mem (by simp) fun i hi => ai (Nat.lt_of_lt_of_le hi h.nl)
theorem uk.mem {l : List cQ} (h : uk B n c s f w E res lo hi v l) (hl : B.length ≤ B'.length) (he : ∀ i, i < n → B'[i]? = B[i]?) : uk B' n c s f w E res lo hi v l := by
 obtain ⟨n1, n2, n3, n4, n5⟩ := h.nb
 exact ⟨h.k.dZ (he _ n1) (he _ n2) (he _ n3) (he _ n4), h.own.frame fun i _ hi => he i (by omega), h.oc, h.os, h.of, h.ow, h.wd, h.nb, by have := h.nl; omega⟩
theorem uk.more {J : List (List V)} {l : List cQ} (h : uk B n c s f w E res lo hi v l) : uk (B ++ J) n c s f w E res lo hi v l :=
 h.mem (by simp) fun i hi => ai (Nat.lt_of_lt_of_le hi h.nl)
theorem rF.vars {E' : bG} (h : rF B c s f w E res) (hc : B'[c]? = B[c]?) (hs : B'[s]? = B[s]?) (hf : B'[f]? = B[f]?) (hw : B'[w]? = some (pU E'.vs)) (h1 : E'.su = E.su) (h2 : E'.fu = E.fu) : rF B' c s f w E' res :=
 ⟨by rw [hc]; exact h.c, by rw [hs, h1]; exact h.s, by rw [hf, h2]; exact h.f, hw⟩
theorem lP.bx {l : List aF} (h : lP B n c s f w E res lo hi v l) (hn : l ≠ []) : ∃ j1 m cap, v = .bx j1 m cap ∧ m = l.length := by
 rcases h.own with ⟨h0, _⟩ | ⟨_, j1, cap, Y, h1, _⟩
 ·exact absurd (List.length_eq_zero_iff.1 h0) hn
 ·exact ⟨j1, _, cap, h1, rfl⟩
theorem uk.bx {l : List cQ} (h : uk B n c s f w E res lo hi v l) (hn : l ≠ []) : ∃ j1 m cap, v = .bx j1 m cap ∧ m = l.length := by
 rcases h.own with ⟨h0, _⟩ | ⟨_, j1, cap, Y, h1, _⟩
 ·exact absurd (List.length_eq_zero_iff.1 h0) hn
 ·exact ⟨j1, _, cap, h1, rfl⟩
theorem fH.len {l : List aF} (h : fH B l lo hi v) (P : Program) {t e : TypeId} {ti : tc} (ht : bB P t = some ti) (hd : ti.d = .slice e) : fE P t v = some (.d (.int .i64 (l.length : Int))) := by
 rcases h with ⟨h0, rfl, _⟩ | ⟨_, j, cap, Y, rfl, _⟩
 ·rw [h0, fE.eq_1, ht]; simp [mE, hd]
 ·rw [fE.eq_1, ht]; simp [mE, sn, hd]
theorem lz.len {l : List cQ} (h : lz B l lo hi v) (P : Program) {t e : TypeId} {ti : tc} (ht : bB P t = some ti) (hd : ti.d = .slice e) : fE P t v = some (.d (.int .i64 (l.length : Int))) := by
 rcases h with ⟨h0, rfl, _⟩ | ⟨_, j, cap, Y, rfl, _⟩
 ·rw [h0, fE.eq_1, ht]; simp [mE, hd]
 ·rw [fE.eq_1, ht]; simp [mE, sn, hd]
theorem lP.pV {j1 m cap : Nat} {l : List aF} {x : aF} (h : lP B n c s f w E res lo hi (.bx j1 m cap) l) {k : Nat} (hk : l[k]? = some x) :
 ∃ L : Lay, L.j = j1 ∧ L.A.length = k * 10 ∧ lo ≤ j1 ∧ j1 < hi ∧ lo ≤ L.lo ∧ L.hi ≤ hi ∧ pY B n c s f w E res L x ∧
  ∀ (B1 : List (List V)) (y : aF) (vs : List bI) (p q : Nat), iK w p L.lo L.hi n q B B1 → n ≤ p → L.parts B1 y → B1[j1]? = some (L.row y) → B1[w]? = some (pU vs) → lP B1 n c s f w ⟨E.su, E.fu, vs⟩ res lo hi (.bx j1 m cap) (l.set k y) := by
 have au := (List.getElem?_eq_some_iff.1 hk).1
 rcases h.own with ⟨h0, _⟩ | ⟨hn, YH, cj, Y, h1, h2, h3, h4, h5⟩
 ·omega
 obtain ⟨rfl, rfl, rfl⟩ := V.bx.inj h1
 rw [jk] at h5
 obtain ⟨A1, r, C1, eC, dM, e1, e2, e3, e4, e5, e6, e7, e8⟩ := h5.at k x hk
 obtain ⟨v1, v2, v3, v4, v5, m1, m2, m3, m4, rfl, hp⟩ := kN.1 e7
 obtain ⟨n1, n2, n3, n4, n5⟩ := h.nb
 have sub : ∀ i, (i < lo ∨ hi ≤ i) → Out j1 eC dM i := fun i hi => ⟨by omega, by omega⟩
 refine ⟨⟨j1, eC, m1, m2, m3, m4, dM, A1, C1, v1, v2, v3, v4, v5⟩, rfl, e2, h2, h3, by dsimp only; omega, e6, ⟨h.k, by rw [h4, e1]; rfl, hp, by dsimp only; omega, sub _ h.oc, sub _ h.os, sub _ h.of, sub _ h.ow, h.wd, ⟨n1, n2, n3, n4, by dsimp only; omega, by dsimp only; omega⟩, h.nl⟩, fun B1 y vs p q he V0 tJ hro hw => ?_⟩
 have WL := h.oc
 have hos := h.os
 have hof := h.of
 obtain ⟨w1, w2, w3⟩ := h.wd
 have hq : ∀ i, i < n → i ≠ w → (i < eC ∨ dM ≤ i) → B1[i]? = B[i]? := fun i a b c => he.2.1 i a b (by omega) c
 refine ⟨h.k.vars (hq _ n1 w1 (by omega)) (hq _ n2 w2 (by omega)) (hq _ n3 w3 (by omega)) hw rfl rfl, .inr ⟨by rw [List.length_set]; exact hn, j1, cap, _, by rw [List.length_set], h2, h3, hro, ?_⟩, h.oc, h.os, h.of, h.ow, h.wd, h.nb, by have := h.nl; have := he.1; omega⟩
 rw [jk]
 have uG := h.ow
 refine e8 (ia B1) y _ rfl (kN.2 ⟨v1, v2, v3, v4, v5, m1, m2, m3, m4, rfl, tJ⟩) fun u _ a b q ha hb hc hf => ia.frame u hf fun i h7 h8 => hq i (by omega) (by omega) (by omega)
theorem uk.pV {j1 m cap : Nat} {l : List cQ} {i : Int} {b : List aF} (h : uk B n c s f w E res lo hi (.bx j1 m cap) l) {k : Nat} (hk : l[k]? = some (.mk i b)) :
 ∃ (eC dM : Nat) (A1 C1 : List V) (bv : V), A1.length = k * 2 ∧ B[j1]? = some (A1 ++ [.d (.int .u64 i), bv] ++ C1) ∧ lo ≤ j1 ∧ j1 < hi ∧ lo ≤ eC ∧ dM ≤ hi ∧ lP B n c s f w E res eC dM bv b ∧
  ∀ (J B1 : List (List V)) (b' : List aF), CZ w eC dM bv E.vs (B ++ J) B1 (some b') → uk B1 n c s f w E res lo hi (.bx j1 m cap) (l.set k (.mk i b')) := by
 have au := (List.getElem?_eq_some_iff.1 hk).1
 rcases h.own with ⟨h0, _⟩ | ⟨hn, YH, cj, Y, h1, h2, h3, h4, h5⟩
 ·omega
 obtain ⟨rfl, rfl, rfl⟩ := V.bx.inj h1
 rw [jl] at h5
 obtain ⟨A1, r, C1, eC, dM, e1, e2, e3, e4, e5, e6, e7, e8⟩ := h5.at k _ hk
 obtain ⟨bv, rfl, hp⟩ := kO.1 e7
 obtain ⟨n1, n2, n3, n4, n5⟩ := h.nb
 have gy := h.nl
 have WL := h.oc
 have hos := h.os
 have hof := h.of
 have uG := h.ow
 refine ⟨eC, dM, A1, C1, bv, e2, by rw [h4, e1]; rfl, h2, h3, by omega, e6, ⟨h.k, hp, by omega, by omega, by omega, by omega, h.wd, ⟨n1, n2, n3, n4, by omega⟩, h.nl⟩, fun J B1 b' hd => ?_⟩
 obtain ⟨w1, w2, w3⟩ := h.wd
 have hq : ∀ i, i < n → i ≠ w → (i < eC ∨ dM ≤ i) → B1[i]? = B[i]? := fun i a b c => (hd.1.2.1 i (by rw [List.length_append]; omega) b b c).trans (ai (by omega))
 obtain ⟨o1, o2⟩ := hd.2.2 b' rfl
 refine ⟨h.k.vars (hq _ n1 w1 (by omega)) (hq _ n2 w2 (by omega)) (hq _ n3 w3 (by omega)) o2 rfl rfl, .inr ⟨by rw [List.length_set]; exact hn, j1, cap, _, by rw [List.length_set], h2, h3, (hq j1 (by omega) (by omega) (by omega)).trans (by rw [h4, e1]), ?_⟩, h.oc, h.os, h.of, h.ow, h.wd, h.nb, by have := h.nl; have := hd.1.1; rw [List.length_append] at this; omega⟩
 rw [jl]
 refine e8 (jj B1) (.mk i b') _ rfl (kO.2 ⟨bv, rfl, o1⟩) fun u _ a b q ha hb hc hf => jj.frame u hf fun i h7 h8 => hq i (by omega) (by omega) (by omega)
theorem CZ.refl {vs : List bI} {r : Option (List aF)} (hr : r = none) : CZ w lo hi v vs B B r := ⟨.refl _ _ _ _ _ _ _, rfl, fun z hz => by rw [hr] at hz; cases hz⟩
theorem Tb.ne {su : List cM} {fu : List cR} {vs : List bI} {l : List aF} {T : List (Nat × Nat)} (h : lP B n c s f w ⟨su, fu, vs⟩ res lo hi v l) : ∃ u S', Tb (cB su fu res l vs) w lo hi v vs B T u S' := by
 cases hr : cB su fu res l vs with
 | none => exact ⟨_, _, B, rfl, .refl rfl, rfl⟩
 | some m =>
  obtain ⟨B1, i1, i2⟩ := OU h.own (fq su fu res _ _ _ hr).symm
  exact ⟨_, _, B1, rfl, ⟨⟨by rw [i1.1]; exact Nat.le_refl _, fun i _ _ _ ho => i1.2.1 i (by omega), fun i _ Y hY v hv => (i1.2.2 i Y hY v hv).imp id .inl⟩, i1.1, fun l hl => by
   rw [← Option.some.inj hl]
   exact ⟨i2, by rw [i1.2.1 w (by have := h.ow; omega)]; exact h.k.w⟩⟩, rfl⟩
theorem lP.done {su : List cM} {fu : List cR} {vs : List bI} {LJ LK : Nat} {v2 : V} {l m : List aF} {r : Option (List aF)} {B1 : List (List V)} (h : lP B n c s f w ⟨su, fu, vs⟩ res LJ LK v2 l) (hd : CZ w lo hi v vs B B1 r) (hr : r = some m) (hdj : hi ≤ LJ ∨ LK ≤ lo) (hc : c < lo ∨ hi ≤ c) (hs : s < lo ∨ hi ≤ s) (hf : f < lo ∨ hi ≤ f) : lP B1 n c s f w ⟨su, fu, vs⟩ res LJ LK v2 l := by
 obtain ⟨n1, n2, n3, n4, n5⟩ := h.nb
 obtain ⟨w1, w2, w3⟩ := h.wd
 have gy := h.nl
 have uG := h.ow
 have hq : ∀ i, i < n → i ≠ w → (i < lo ∨ hi ≤ i) → B1[i]? = B[i]? := fun i a b c => hd.1.2.1 i (by omega) b b c
 exact ⟨h.k.vars (hq _ n1 w1 hc) (hq _ n2 w2 hs) (hq _ n3 w3 hf) (hd.2.2 m hr).2 rfl rfl, h.own.frame fun i a b => hq i (by omega) (by omega) (by omega), h.oc, h.os, h.of, h.ow, h.wd, h.nb, by have := hd.2.1; omega⟩
end
def mj := by
 have c := aN Tryz.f111 (by conv => lhs; cbv)
 dsimp only [KK, fj, eR, eS, List.map_cons, List.map_nil, List.toList_toArray] at c
 exact c
theorem YQ : bK Tryz.prog 111 Tryz.f111 56 := ⟨Tryz.func111, by kernel_rfl⟩
def wB : aF → aj → List cQ → List aF → aF
 | .mk k ns ty ls _ b _ _, y, cs, e => .mk k ns ty ls [y] b e cs
theorem oA (L : Lay) (x : aF) (y : aj) (cs : List cQ) (e : List aF) : L.row (wB x y cs e) = L.row x := by cases x; rfl
theorem ju (x : aF) (y : aj) (cs : List cQ) (e : List aF) : (wB x y cs e).aG = x.aG ∧ (wB x y cs e).exprs = [y] ∧ (wB x y cs e).body = x.body ∧ (wB x y cs e).dO = e ∧ (wB x y cs e).cases = cs := by cases x; exact ⟨rfl, rfl, rfl, rfl, rfl⟩
def chG (r : Option (aj × List cQ × List aF)) (L : Lay) (x : aF) (w : Nat) (vs : List bI) (B : List (List V)) (T : List (Nat × Nat)) (u : V) (S' : Mem) : Prop :=
 ∃ B', S' = ⟨B', T⟩ ∧ B'.length = B.length ∧ iK w w L.lo L.hi B.length 0 B B' ∧ u = .d (.bool r.isSome) ∧ ∀ y cs e, r = some (y, cs, e) → L.parts B' (wB x y cs e) ∧ B'[w]? = some (pU vs)
theorem C0 (su : List cM) (fu : List cR) (res : List az) (top : Int) (l : List cQ) (vs : List bI) (i : Nat) (h : i < l.length) {ci : Int} {cb : List aF} (hc : l[i] = .mk ci cb) : gO su fu res top (l.drop i) vs = if top < ci then none else match cB su fu res cb vs with
 | some b => (gO su fu res top (l.drop (i + 1)) vs).map fun m => .mk ci b :: m
 | none => none := by
 rw [List.drop_eq_getElem_cons h, hc]
 conv => lhs; unfold gO
 rfl
structure DSt where
 i : Nat
 ys : List cQ
 B : List (List V)
theorem GB : bB Tryz.prog 39 = some ⟨.slice 53, 1, 24, false, [.sl [] .full]⟩ := by kernel_rfl
theorem GC : bB Tryz.prog 51 = some ⟨.slice 96, 1, 24, false, [.sl [] .full]⟩ := by kernel_rfl
section
variable {su : List cM} {fu : List cR} {vs : List bI} {res : List az} {n c s f w : Nat} {B : List (List V)} {T : List (Nat × Nat)} {L : Lay} {x : aF}
theorem pY.cases (h : pY B n c s f w ⟨su, fu, vs⟩ res L x) : uk B n c s f w ⟨su, fu, vs⟩ res L.m4 L.hi L.v5 x.cases := by
 obtain ⟨n1, n2, n3, n4, n5, n6⟩ := h.nb
 obtain ⟨l1, l2, l3, l4, l5⟩ := h.own.le
 exact ⟨h.k, h.own.2.2.2.2, by have := h.oc.2; omega, by have := h.os.2; omega, by have := h.of.2; omega, by have := h.ow.2; omega, h.wd, ⟨n1, n2, n3, n4, n6⟩, h.nl⟩
theorem pY.part {B1 : List (List V)} {y : aF} {p q eC dM : Nat} (h : pY B n c s f w ⟨su, fu, vs⟩ res L x) (he : iK w p eC dM n q B B1) (hp : n ≤ p ∨ p = w) (A7 : L.lo ≤ eC) (PG : dM ≤ L.hi) (hw : B1[w]? = some (pU vs)) (hr : L.row y = L.row x) (tJ : L.parts B1 y) : pY B1 n c s f w ⟨su, fu, vs⟩ res L y := by
 obtain ⟨n1, n2, n3, n4, n5, n6⟩ := h.nb
 obtain ⟨w1, w2, w3⟩ := h.wd
 have hq : ∀ i, i < n → i ≠ w → (i < L.lo ∨ L.hi ≤ i) → B1[i]? = B[i]? := fun i a b c => he.2.1 i a b (by omega) (by omega)
 exact ⟨h.k.vars (hq _ n1 w1 h.oc.2) (hq _ n2 w2 h.os.2) (hq _ n3 w3 h.of.2) hw rfl rfl, by rw [hq _ n5 (fun e => h.ow.1 e.symm) h.jo, hr]; exact h.row, tJ, h.jo, h.oc, h.os, h.of, h.ow, h.wd, h.nb, by have := h.nl; have := he.1; omega⟩
structure DOk (su : List cM) (fu : List cR) (vs : List bI) (res : List az) (n c s f w : Nat) (L : Lay) (x : aF) (y : aj) (t : az) (N : Nat) (B : List (List V)) (a : DSt) : Prop where
 le : a.i ≤ x.cases.length
 len : a.ys.length = a.i
 MJ : iK w w L.lo L.hi B.length 0 B a.B
 at' : pY a.B n c s f w ⟨su, fu, vs⟩ res L (wB x y (a.ys ++ x.cases.drop a.i) x.dO)
 tb : a.B[N]? = some (jt t)
 res : (gO su fu res (iD t.kind) (x.cases.drop a.i) vs).map (a.ys ++ ·) = gO su fu res (iD t.kind) x.cases vs
set_option maxHeartbeats 16000000 in
theorem I7 {a : aj} (hk : x.exprs = [a]) (o9 : ∀ p ∈ vs, TW p.type) (ha : dI ⟨su, fu, vs⟩ res a) (oF : ∀ q ∈ x.cases, OW su fu res q.body) (G2 : OW su fu res x.dO) (hlen : x.cases.length ≤ 60000) (h : pY B n c s f w ⟨su, fu, vs⟩ res L x) :
 aD Tryz.prog av 111 [.ptr c 0, .ptr L.j L.A.length] ⟨B, T⟩ (chG (match aC ⟨su, fu, vs⟩ a bO with
  | some (y, t) => if jV t.kind = true then (match gO su fu res (iD t.kind) x.cases vs with
   | some cs => (cB su fu res x.dO vs).map fun e => (y, cs, e)
   | none => none) else none
  | none => none) L x w vs B T) := by
 obtain ⟨N, hn⟩ : ∃ N, B.length = N := ⟨_, rfl⟩
 obtain ⟨al, dA⟩ : ∃ a, L.A.length = a := ⟨_, rfl⟩
 obtain ⟨j, tQ⟩ : ∃ j, L.j = j := ⟨_, rfl⟩
 obtain ⟨X, hX⟩ : ∃ X, L.row x = X := ⟨_, rfl⟩
 obtain ⟨x0, x1, x5, x6, x7, x8, x9, j9, lM, _⟩ := gh (show X = _ from hX.symm) dA
 have aA := h.row
 rw [hX, tQ] at aA
 have gy := h.nl
 have hj : j < N := by have := h.nb; omega
 have SV := h.jo
 have uG := h.ow
 have hle := h.own.le
 rw [dA, tQ]
 have hex := h.exprs
 rw [hk] at hex
 obtain ⟨j1, m, cap, Jy, mB⟩ := hex.bx (by simp)
 rw [Jy] at hex x6
 have hm : (0 : Int) < (m : Int) := by rw [mB]; simp
 obtain ⟨eC, dM, A1, C1, mc, a1, k1, k2, k3⟩ := hex.pV (k := 0) (y := a) rfl
 rw [Nat.zero_mul] at a1
 refine YQ.go 160 rfl fun bh => ?_
 simp only [eI] at bh
 simp only [W, seval, mj, hn]
 refine af.bp 12 [11] [j] (by kernel_rfl) (by kernel_rfl) (by kernel_rfl) (by kernel_rfl) (by kernel_rfl) (by kernel_rfl) (by kernel_rfl) ?_
 simp (maxSteps := 4000000) only [W, seval, mj, xw, ie, hn, hj, aA, x6, hm]
 refine bf (fun Z => cH _ _) ?_
 simp (maxSteps := 4000000) only [W, seval, mj, xw, hn, aT]
 refine IY ha k1 bO a1 ?_
 intro B1 t b0 hd aU lD iM
 have e1 := k2 B.length _ _ hd.1
 have g1 : B1[j]? = B[j]? := e1.2.1 j (by omega) ⟨by omega, by omega⟩
 have e2 : iK w w L.lo L.hi B.length 0 B B1 := iK.fX (e1.WK (w := w) (p := w) (m := 0) (.inl (Nat.le_refl _))) (Nat.le_refl _) (.inr (.inr rfl)) (.inl rfl) (.inl rfl) hle.1 (by omega)
 rw [hn] at aU
 refine ⟨⟨g1, trivial⟩, ?_⟩
 unfold aT
 simp (maxSteps := 4000000) only [W, seval, mj, xw, aU]
 refine ⟨g1, ?_⟩
 cases b0
 ·have hr := iM rfl
  rw [hr]
  refine af.go 60 ?_
  simp only [W, seval, mj, Bool.not_false]
  refine af.ret Tryz.func111 rfl (cX e2.app (Nat.zero_le _) rfl ?_)
  exact ⟨_, rfl, by have := e2.1; rw [List.length_take, List.length_append]; omega, e2.app.cut, rfl, fun y cs e he => by cases he⟩
 obtain ⟨y, hr⟩ := lD rfl
 rw [hr] at hd ⊢
 dsimp only
 cases LP : jV t.kind
 ·rw [if_neg (by decide)]
  refine af.go 60 ?_
  simp only [W, seval, mj, Bool.not_true, aU]
  refine ag (eZ t _ _) ?_
  rintro _ _ ⟨rfl, rfl⟩
  rw [LP]
  refine af.go 60 ?_
  simp only [W, seval, mj, Bool.not_false]
  refine af.ret Tryz.func111 rfl (cX e2.app (Nat.zero_le _) rfl ?_)
  exact ⟨_, rfl, by have := e2.1; rw [List.length_take, List.length_append]; omega, e2.app.cut, rfl, fun y cs e he => by cases he⟩
 rw [if_pos rfl]
 have mg := k3 B1 y hd
 have BZ := h.own.2.2.2.2.len Tryz.prog GC rfl
 rw [fE.eq_1, GC] at BZ
 have lu : B1[j]? = some X := g1.trans aA
 refine af.go 60 ?_
 simp only [W, seval, mj, Bool.not_true, aU]
 refine ag (eZ t _ _) ?_
 rintro _ _ ⟨rfl, rfl⟩
 rw [LP]
 refine af.go 60 ?_
 simp only [W, seval, mj, Bool.not_true, aU, hj, lu, x9, BZ]
 have xp : B1[w]? = some (pU vs) := by rw [e1.2.1 w (by have := h.nb; omega) ⟨by have := h.nb; omega, by have := uG.2; omega⟩]; exact h.k.w
 have fr : ∀ i, i < n → (i < L.m1 ∨ L.m2 ≤ i) → B1[i]? = B[i]? := fun i a b => e1.2.1 i (by omega) ⟨by omega, b⟩
 have Tc := h.nb
 have MZ : pY B1 n c s f w ⟨su, fu, vs⟩ res L (wB x y x.cases x.dO) := by
  obtain ⟨s1, s2, s3, s4, s5⟩ := ju x y x.cases x.dO
  refine h.part (e2.fX (n := n) (m := 0) gy (.inr (.inr rfl)) (.inl rfl) (.inl rfl) (Nat.le_refl _) (Nat.le_refl _)) (.inr rfl) (Nat.le_refl _) (Nat.le_refl _) xp (oA _ _ _ _ _) ⟨?_, ?_, ?_, ?_, ?_⟩
  ·rw [s1]; exact h.own.1.frame fun i a b => fr i (by omega) (by omega)
  ·rw [s2, Jy]; exact mg.own
  ·rw [s3]; exact h.own.2.2.1.frame fun i a b => fr i (by omega) (by omega)
  ·rw [s4]; exact h.own.2.2.2.1.frame fun i a b => fr i (by omega) (by omega)
  ·rw [s5]; exact h.own.2.2.2.2.frame fun i a b => fr i (by omega) (by omega)
 refine af.cJ (fun a : DSt => (bu 56 [(0, .ptr c 0), (1, .ptr j al), (5, .ptr N 0), (30, L.v5), (31, .d (.int .i64 (x.cases.length : Int))), (32, .d (.int .i64 (a.i : Int)))], ⟨a.B, T⟩)) (DOk su fu vs res n c s f w L x y t N B) (fun a => x.cases.length - a.i) ⟨0, [], B1 ++ [[.d (.int .i64 t.kind), .d (.str t.name), .d (.sl (t.elem.map ej))]]⟩ ⟨Nat.zero_le _, rfl, e2.app, by simpa using MZ.more, by rw [cy aU]; rfl, by simp⟩ ?_ rfl ?_
 ·skip
  refine ay.env _ ?_
  simp only [cZ, seval]
 rintro ⟨i, ys, Bi⟩ ⟨h2, h3, h4, h6, h5, h7⟩ ih
 dsimp only at h2 h3 h4 h6 h5 h7 ih ⊢
 obtain ⟨Ni, mA⟩ : ∃ Ni, Bi.length = Ni := ⟨_, rfl⟩
 have wq : N < Ni := by rw [← mA]; exact (List.getElem?_eq_some_iff.1 h5).1
 have fh : j < Ni := by omega
 have jP := h6.row
 rw [oA, hX, tQ] at jP
 unfold jt at h5
 by_cases au : i < x.cases.length
 case neg =>
  have e3 : decide ((i : Int) < (x.cases.length : Int)) = false := decide_eq_false (by omega)
  obtain rfl : i = x.cases.length := by omega
  rw [List.drop_eq_nil_of_le (Nat.le_refl _), gO, Option.map_some, List.append_nil] at h7
  rw [List.drop_eq_nil_of_le (Nat.le_refl _), List.append_nil] at h6
  obtain ⟨s1, s2, s3, s4, s5⟩ := ju x y ys x.dO
  have Qa := h6.dO
  rw [s4] at Qa
  have hb := G2 vs n c s f w Bi T _ _ _ o9 Qa
  rw [← h7]
  dsimp only
  refine af.go 160 ?_
  simp only [W, seval, mj, e3, fh, jP, x8]
  refine aQ hb ?_
  rintro u _ ⟨B2, rfl, dU, rfl⟩
  have e4 : iK w w L.lo L.hi B.length 0 B B2 := h4.step (dU.1.fX (Nat.le_refl _) (.inr (.inr rfl)) (.inl rfl) (.inl rfl) (by omega) (by omega))
  refine af.go 60 ?_
  simp only [W, seval, mj]
  refine af.ret Tryz.func111 rfl (cX e4 (Nat.zero_le _) rfl ?_)
  refine ⟨_, rfl, by have := e4.1; rw [List.length_take]; omega, e4.cut, by cases cB su fu res x.dO vs <;> rfl, fun y' cs e he => ?_⟩
  obtain ⟨e', AM, q⟩ := Option.map_eq_some_iff.1 he
  obtain ⟨z0, q⟩ := Prod.mk.inj q
  obtain ⟨z1, z2⟩ := Prod.mk.inj q
  rw [← z0, ← z1, ← z2]
  obtain ⟨o1, o2⟩ := dU.2.2 e' AM
  have AO : ∀ i, i < n → i ≠ w → (i < L.m3 ∨ L.m4 ≤ i) → (B2.take B.length)[i]? = Bi[i]? := fun i a b c => by rw [fB (by omega), dU.1.2.1 i (by omega) b b c]
  have Vb := uG.2
  obtain ⟨p1, p2, p3, p4, p5⟩ := h6.own
  rw [s1] at p1
  rw [s2] at p2
  rw [s3] at p3
  rw [s5] at p5
  refine ⟨⟨?_, ?_, ?_, ?_, ?_⟩, by rw [fB (by omega)]; exact o2⟩
  ·rw [(ju x y ys e').1]; exact p1.frame fun i a b => AO i (by omega) (by omega) (by omega)
  ·rw [(ju x y ys e').2.1]; exact p2.frame fun i a b => AO i (by omega) (by omega) (by omega)
  ·rw [(ju x y ys e').2.2.1]; exact p3.frame fun i a b => AO i (by omega) (by omega) (by omega)
  ·rw [(ju x y ys e').2.2.2.1]; exact o1.frame fun i a b => by rw [fB (by omega)]
  ·rw [(ju x y ys e').2.2.2.2]; exact p5.frame fun i a b => AO i (by omega) (by omega) (by omega)
 have e3 : decide ((i : Int) < (x.cases.length : Int)) = true := decide_eq_true (by omega)
 have nZ := aI ((i : Int) + 1) (by omega)
 obtain ⟨ci, cb, wo⟩ : ∃ ci cb, x.cases[i] = .mk ci cb := by
  cases x.cases[i] with
  | mk ci cb => exact ⟨ci, cb, rfl⟩
 have Nx := oF x.cases[i] (List.getElem_mem au)
 rw [wo] at Nx
 rw [C0 _ _ _ _ _ _ _ au wo] at h7
 have ME := h6.cases
 rw [(ju x y (ys ++ x.cases.drop i) x.dO).2.2.2.2] at ME
 have lU : (ys ++ x.cases.drop i)[i]? = some (.mk ci cb) := by rw [wm _ _ h3, List.getElem?_eq_getElem au, wo]
 obtain ⟨j5, m5, Vc, Vd, hm5⟩ := ME.bx (by intro h0; rw [h0] at lU; simp at lU)
 rw [Vd] at ME
 have YR : (i : Int) < (m5 : Int) := by have := (List.getElem?_eq_some_iff.1 lU).1; omega
 obtain ⟨lo5, hi5, A5, C5, bv, a5, r5, Wu, ado, adp, YS, q1, q2⟩ := ME.pV lU
 have YT : j5 < Ni := by omega
 obtain ⟨Y, hY⟩ : ∃ Y, A5 ++ [.d (.int .u64 ci), bv] ++ C5 = Y := ⟨_, rfl⟩
 rw [hY] at r5
 have y2 : i * 2 + 2 ≤ Y.length := by rw [← hY]; simp; omega
 have y3 : (Y.drop (i * 2)).take 2 = [.d (.int .u64 ci), bv] := by
  rw [← hY, ← a5, List.append_assoc, List.drop_left]; rfl
 have Qm := Nx vs n c s f w (Bi ++ [[.d (.int .u64 ci), bv]]) T _ _ _ o9 q1.more
 rw [Vd] at ih ⊢
 refine af.go 160 ?_
 simp only [W, seval, mj, ie, mA, e3, YR, YT, r5, y2, y3]
 by_cases OX : iD t.kind < ci
 ·have et := decide_eq_true OX
  rw [if_pos OX] at h7
  rw [← h7]
  refine af.bp 13 [] [Ni, N] (by kernel_rfl) (by kernel_rfl) (by kernel_rfl) (by kernel_rfl) (by kernel_rfl) (by kernel_rfl) (by kernel_rfl) ?_
  simp (maxSteps := 4000000) only [W, seval, mj, xw, mA, wq, h5]
  refine bf (fun Z => rK t.kind _) ?_
  simp (maxSteps := 4000000) only [W, seval, mj, xw, mA, et, Bool.not_true]
  refine af.go 60 ?_
  simp only [W, seval, mj]
  refine af.ret Tryz.func111 rfl (cX h4.app (Nat.zero_le _) rfl ?_)
  exact ⟨_, rfl, by have := h4.1; rw [List.length_take, List.length_append]; omega, h4.app.cut, rfl, fun y cs e he => by cases he⟩
 have et := decide_eq_false OX
 rw [if_neg OX] at h7
 refine af.bp 13 [] [Ni, N] (by kernel_rfl) (by kernel_rfl) (by kernel_rfl) (by kernel_rfl) (by kernel_rfl) (by kernel_rfl) (by kernel_rfl) ?_
 simp (maxSteps := 4000000) only [W, seval, mj, xw, mA, wq, h5]
 refine bf (fun Z => rK t.kind _) ?_
 simp (maxSteps := 4000000) only [W, seval, mj, xw, mA, et, Bool.not_false]
 refine cz (Tb.ne q1.more) Qm ?_
 rintro u _ ⟨B2, rfl, dU, rfl⟩
 have ic := dU.2.1
 simp only [List.length_append, List.length_cons, List.length_nil, mA, Nat.zero_add] at ic
 have e4 : iK w w L.lo L.hi B.length 0 B B2 := h4.app.step (dU.1.fX (Nat.le_refl _) (.inr (.inr rfl)) (.inl rfl) (.inl rfl) (by omega) (by omega))
 have Vb := uG.2
 have p1 := dU.1.2.1 Ni (by simp; omega) (by omega) (by omega) (by omega)
 have p2 := dU.1.2.1 N (by simp; omega) (by omega) (by omega) (by omega)
 refine ⟨⟨p1, p2, trivial⟩, ?_⟩
 simp (maxSteps := 4000000) only [W, seval, mj, xw, mA]
 refine ⟨⟨by rw [p1, cy mA]; rfl, p2⟩, ?_⟩
 cases hw : cB su fu res cb vs with
 | none =>
  rw [hw] at h7
  rw [← h7]
  refine af.go 60 ?_
  simp only [W, seval, mj, Option.isSome_none, Bool.not_false]
  refine af.ret Tryz.func111 rfl (cX e4 (Nat.zero_le _) rfl ?_)
  exact ⟨_, rfl, by have := e4.1; rw [List.length_take]; omega, e4.cut, rfl, fun y cs e he => by cases he⟩
 | some b' =>
  rw [hw] at h7 dU
  have f1 : B2[N]? = some [V.d (.int .i64 t.kind), .d (.str t.name), .d (.sl (t.elem.map ej))] := by rw [p2, ai (by omega), h5]
  have AO : ∀ i, i < n → i ≠ w → (i < lo5 ∨ hi5 ≤ i) → B2[i]? = (Bi ++ [[V.d (.int .u64 ci), bv]])[i]? := fun i a b c => dU.1.2.1 i (by simp; omega) b b c
  have hsB : pY B2 n c s f w ⟨su, fu, vs⟩ res L (wB x y (ys ++ [.mk ci b'] ++ x.cases.drop (i + 1)) x.dO) := by
   obtain ⟨s1, s2, s3, s4, s5⟩ := ju x y (ys ++ x.cases.drop i) x.dO
   obtain ⟨r1, r2, r3, r4, r5⟩ := ju x y (ys ++ [.mk ci b'] ++ x.cases.drop (i + 1)) x.dO
   obtain ⟨w1, w2, w3, w4, w5⟩ := (h6.more (J := [[V.d (.int .u64 ci), bv]])).own
   rw [s1] at w1
   rw [s2] at w2
   rw [s3] at w3
   rw [s4] at w4
   refine (h6.more (J := [[V.d (.int .u64 ci), bv]])).part (dU.1.fX (n := n) (m := 0) (by simp; omega) (.inr (.inr rfl)) (.inl rfl) (.inl rfl) (Nat.le_refl _) (Nat.le_refl _)) (.inr rfl) (by omega) YS (dU.2.2 b' rfl).2 (by rw [oA, oA]) ⟨?_, ?_, ?_, ?_, ?_⟩
   ·rw [r1]; exact w1.frame fun i a b => AO i (by omega) (by omega) (by omega)
   ·rw [r2]; exact w2.frame fun i a b => AO i (by omega) (by omega) (by omega)
   ·rw [r3]; exact w3.frame fun i a b => AO i (by omega) (by omega) (by omega)
   ·rw [r4]; exact w4.frame fun i a b => AO i (by omega) (by omega) (by omega)
   ·rw [r5, Vd]
    have := (q2 _ B2 b' dU).own
    rwa [rM _ _ h3 au] at this
  refine af.go 60 ?_
  simp only [W, seval, mj, Option.isSome_some, Bool.not_true, nZ]
  rw [← Vd] at ih
  refine ih ⟨i + 1, ys ++ [.mk ci b'], B2⟩ ⟨au, by simp [h3], e4, hsB, f1, ?_⟩ (by dsimp only; omega) _ _ ?_ rfl
  ·dsimp only at h7 ⊢
   rw [← h7]
   cases gO su fu res (iD t.kind) (x.cases.drop (i + 1)) vs <;> simp
  ·skip
   refine ay.env _ ?_
   simp only [cZ, seval]
   rw [Vd]
end
def sS := by
 have c := aN Tryz.f75 (by conv => lhs; cbv)
 dsimp only [KK, fj, eR, eS, List.map_cons, List.map_nil, List.toList_toArray] at c
 exact c
theorem Td : bK Tryz.prog 75 Tryz.f75 110 := ⟨Tryz.func75, by kernel_rfl⟩
theorem oX {α : Type} (nm : α → List UInt8) (n : List UInt8) : ∀ l : List α, fD nm l n = none → jG (l.map nm) n = none
 | [], _ => rfl
 | x :: l, h => by
  unfold fD at h
  split at h
  ·cases h
  ·rename_i hx
   rw [List.map_cons, jG, if_neg hx, oX nm n l h]; rfl
theorem LW {vs : List bI} {n : List UInt8} {ty : az} (h : fD bI.name vs n = none) : zq (vs.map bI.name) (vs.map fun p => aT p.type) n (aT ty) = pU (vs ++ [⟨n, ty⟩]) := by
 unfold zq pU
 rw [oX _ _ _ h]
 simp
theorem GD (vs : List bI) (m : Nat) : ∀ v ∈ pU vs, fit 0 m v = true := by
 intro v hv
 obtain rfl := List.mem_singleton.1 hv
 show iW 0 m _ = true
 rw [dN]
 intro j hj
 simp [aT, fit, iW]
section
variable {su : List cM} {fu : List cR} {vs : List bI} {res : List az} {n c s f w : Nat} {B : List (List V)} {T : List (Nat × Nat)}
theorem rF.Ve {E : bG} (h : rF B c s f w E res) {tR : List UInt8} (hn : fD bI.name E.vs tR = none) (ty : az) (J : List (List V)) (T : List (Nat × Nat)) : eP Tryz.prog ⟨B ++ J, T⟩ 62 (.mp w) (.d (.str tR)) (aT ty) = some (.undef, ⟨B.set w (pU (E.vs ++ [⟨tR, ty⟩])) ++ J, T⟩) := by
 have hw := (h.more J).w
 unfold eP
 unfold pU at hw
 simp only [E3, hw]
 rw [LW hn, gK h.lt.2.2.2]
set_option maxHeartbeats 8000000 in
theorem OY {tR : List UInt8} {ty : az} (fk : TW ty) {x : aF} (hx : x = .mk 1 [tR] ty [] [] [] [] []) : RY su fu res x := by
 intro vs n c s f w B T L p M nm o9 h hp Fc Fe SA
 obtain ⟨N, hn⟩ : ∃ N, B.length = N := ⟨_, rfl⟩
 obtain ⟨al, dA⟩ : ∃ a, L.A.length = a := ⟨_, rfl⟩
 obtain ⟨j, tQ⟩ : ∃ j, L.j = j := ⟨_, rfl⟩
 obtain ⟨X, hX⟩ : ∃ X, L.row x = X := ⟨_, rfl⟩
 obtain ⟨x0, x1, x5, x6, x7, x8, x9, j9, lM, _⟩ := gh (show X = _ from hX.symm) dA
 have aA := h.row
 rw [hX, tQ] at aA
 have gy := h.nl
 have hj : j < N := by have := h.nb; omega
 have R1 : x.kind = 1 := by rw [hx]; rfl
 have YU : x.names = [tR] := by rw [hx]; rfl
 have YV : x.type = ty := by rw [hx]; rfl
 rw [R1] at x0
 rw [YU] at x1
 rw [YV] at lM
 have wo : c < N := by rw [← hn]; exact h.k.lt.1
 have Kn : w < N := by rw [← hn]; exact h.k.lt.2.2.2
 have U6 := h.k.w
 have hb := h.k.c
 unfold xF at hb
 have A7 := h.k.fW tR true [] T
 rw [List.append_nil] at A7
 have hr : iE su fu res x vs = if (fD bI.name vs tR).isNone = true ∧ gV su fu tR = true ∧ bP su ty = true then some (x, vs ++ [⟨tR, ty⟩]) else none := by
  rw [hx]; unfold iE; rw [if_pos rfl]
 rw [dA, tQ]
 generalize iE su fu res x vs = r at hr ⊢
 have qo := fun J => OB (T := T) tR (h.k.more J)
 have jX := fun J => yE (T := T) fk (h.k.more J)
 dsimp only at qo jX
 have en : ∀ J, iK w p L.lo L.hi B.length T.length B (B ++ J) := fun J => (iK.refl _ _ _ _ _ _ B).app
 have fail : ∀ J, MK none L w p M vs nm B T (.d (.bool false)) ⟨(B ++ J).take B.length, T⟩ := fun J => ⟨_, T, rfl, by simp, rfl, fun _ _ => rfl, (en J).cut, rfl, fun x vs he => by cases he⟩
 unfold jt at lM
 unfold aT at jX
 cases h1 : fD bI.name vs tR with
 | some q =>
  have WM : fD bI.name (bG.mk su fu vs).vs tR = some q := h1
  rw [WM] at A7
  simp only [Go.Ab.fW, Option.map_some, if_true, aT] at A7
  obtain rfl : r = none := by rw [hr, h1]; exact if_neg (fun h => by cases h.1)
  refine Td.go 160 rfl fun bh => ?_
  simp only [eI] at bh
  simp only [W, seval, sS, nG, hn, hj, aA, x0, x1, wo, hb, A7, gu, bH, bX, decide_true]
  refine af.ret Tryz.func75 rfl (cX (en _) (Nat.le_refl _) rfl ?_)
  exact fail _
 | none =>
  have WM : fD bI.name (bG.mk su fu vs).vs tR = none := h1
  rw [WM] at A7
  simp only [Go.Ab.fW, Option.map_none, if_true, WE] at A7
  refine Td.go 160 rfl fun bh => ?_
  simp only [eI] at bh
  simp only [W, seval, sS, nG, hn, hj, aA, x0, x1, wo, hb, A7, gu, bH, bX, decide_true]
  refine ag (qo _) ?_
  rintro _ _ ⟨rfl, rfl⟩
  cases WN : gV su fu tR with
  | false =>
   obtain rfl : r = none := by rw [hr, WN]; exact if_neg (fun h => by cases h.2.1)
   refine af.go 60 ?_
   simp only [W, seval, sS, Bool.not_false]
   refine af.ret Tryz.func75 rfl (cX (en _) (Nat.le_refl _) rfl ?_)
   exact fail _
  | true =>
   refine af.go 60 ?_
   simp only [W, seval, sS, Bool.not_true, hn, hj, aA, j9, lM, x9]
   refine ag (jX _) ?_
   rintro _ _ ⟨rfl, rfl⟩
   cases MZ : bP su ty with
   | false =>
    obtain rfl : r = none := by rw [hr, MZ]; exact if_neg (fun h => by cases h.2.2)
    refine af.go 60 ?_
    simp only [W, seval, sS, Bool.not_false]
    refine af.ret Tryz.func75 rfl (cX (en _) (Nat.le_refl _) rfl ?_)
    exact fail _
   | true =>
    obtain rfl : r = some (x, vs ++ [⟨tR, ty⟩]) := by rw [hr, MZ, WN, h1]; exact if_pos ⟨rfl, rfl, rfl⟩
    have hpN : p < N := by rw [← hn]; exact (List.getElem?_eq_some_iff.1 Fc).1
    have hwn : w < n := by have := h.nb; omega
    have qy := fun J T => h.k.Ve WM ty J T
    unfold aT at qy
    dsimp only at qy
    have hpw : ∀ Z, (B.set w Z)[p]? = some [.sl (gu nm) (.own M)] := fun Z => by rw [List.getElem?_set_ne (by omega)]; exact Fc
    have ek : (nm.length + 1) * 16 ≤ 140737488355328 := by omega
    have Yl : cV 1 [[D.str tR]] = true := rfl
    refine af.go 60 ?_
    simp only [W, seval, sS, Bool.not_true, hn]
    refine af.bp 9 [] [c, j] (by kernel_rfl) (by kernel_rfl) (by kernel_rfl) (by kernel_rfl) (by kernel_rfl) (by kernel_rfl) (by kernel_rfl) ?_
    simp (maxSteps := 4000000) only [W, seval, sS, xw, nG, hn, hj, aA, j9, lM, wo, hb, qy]
    have lu : gu nm ++ [[.str tR]] = gu (nm ++ [tR]) := by simp [gu]
    refine af.go 160 ?_
    simp only [W, seval, sS, hn, hpN, hpw, Fe, bX, bH, fZ, Nat.reduceMul, ek, Yl, lu]
    have e1 : iK w p L.lo L.hi B.length T.length B ((B.set w (pU (vs ++ [⟨tR, ty⟩]))).set p [.sl (gu (nm ++ [tR])) (.own M)]) := ((iK.refl _ _ _ _ _ _ B).put (.inl rfl) (fun v hv => .inl (GD _ _ v hv))).put (.inr (.inl rfl)) (fun v hv => .inr ⟨rfl, by
     obtain rfl := List.mem_singleton.1 hv
     exact decide_eq_true (List.getElem?_eq_some_iff.1 Fe).1⟩)
    refine af.ret Tryz.func75 rfl (cX e1.app (Nat.le_refl _) List.length_set ?_)
    have hM := (List.getElem?_eq_some_iff.1 Fe).1
    have Tc := h.nb
    have uG := h.ow
    have at1 : ∀ J i, i < B.length → i ≠ w → i ≠ p → ((((B.set w (pU (vs ++ [⟨tR, ty⟩]))).set p [V.sl (gu (nm ++ [tR])) (.own M)]) ++ J).take B.length)[i]? = B[i]? := fun J i a b c => by
     rw [fB a, ai (by simp; omega), List.getElem?_set_ne (Ne.symm c), List.getElem?_set_ne (Ne.symm b)]
    refine ⟨_, _, rfl, by simp, List.length_set, fun q hq => List.getElem?_set_ne (Ne.symm hq), e1.app.cut, rfl, fun y nN he => ?_⟩
    obtain ⟨rfl, rfl⟩ := Prod.mk.inj (Option.some.inj he)
    have fr : ∀ J i, L.lo ≤ i → i < L.hi → ((((B.set w (pU (vs ++ [⟨tR, ty⟩]))).set p [V.sl (gu (nm ++ [tR])) (.own M)]) ++ J).take B.length)[i]? = B[i]? := fun J i a b => at1 J i (by omega) (by have := uG.2; omega) (by omega)
    obtain ⟨l1, l2, l3, l4, l5⟩ := h.own.le
    refine ⟨⟨h.own.1.frame fun i a b => fr _ i (by omega) (by omega), h.own.2.1.frame fun i a b => fr _ i (by omega) (by omega), h.own.2.2.1.frame fun i a b => fr _ i (by omega) (by omega), h.own.2.2.2.1.frame fun i a b => fr _ i (by omega) (by omega), h.own.2.2.2.2.frame fun i a b => fr _ i (by omega) (by omega)⟩, ?_, [⟨tR, ty⟩], rfl, ?_, ?_, ?_⟩
    ·rw [at1 _ _ (by omega) (fun e => uG.1 e.symm) (by omega)]; exact h.row
    ·rw [fB (by omega), ai (by simp; omega), List.getElem?_set_ne (by omega), List.getElem?_set_self (by omega)]
    ·rw [fB (by omega), ai (by simp; omega), List.getElem?_set_self (by simp; omega)]; rfl
    ·rw [List.getElem?_set_self hM]; simp
end
def pZ : aF → List aj → aF
 | .mk k ns ty ls _ b e cs, es => .mk k ns ty ls es b e cs
theorem oY (L : Lay) (x : aF) (es : List aj) : L.row (pZ x es) = L.row x := by cases x; rfl
theorem rU (x : aF) (es : List aj) : (pZ x es).aG = x.aG ∧ (pZ x es).exprs = es ∧ (pZ x es).body = x.body ∧ (pZ x es).dO = x.dO ∧ (pZ x es).cases = x.cases := by cases x; exact ⟨rfl, rfl, rfl, rfl, rfl⟩
section
variable {su : List cM} {fu : List cR} {vs : List bI} {res : List az} {n c s f w : Nat} {B : List (List V)} {T : List (Nat × Nat)} {L : Lay} {x : aF} {p M : Nat} {nm : List (List UInt8)}
theorem MK.of {B1 : List (List V)} {r : Option (aF × List bI)} (h : pY B n c s f w ⟨su, fu, vs⟩ res L x) (hp : n ≤ p) (Fc : B[p]? = some [.sl (gu nm) (.own M)]) (Fe : T[M]? = some (nm.length, 1)) (hl : B1.length = B.length) (he : iK w w L.lo L.hi B.length 0 B B1) {u : V} (hu : u = .d (.bool r.isSome)) (hr : ∀ y nN, r = some (y, nN) → nN = vs ∧ L.row y = L.row x ∧ L.parts B1 y ∧ B1[w]? = some (pU vs)) : MK r L w p M vs nm B T u ⟨B1, T⟩ := by
 have Tc := h.nb
 have gy := h.nl
 have FG := (List.getElem?_eq_some_iff.1 Fc).1
 refine ⟨B1, T, rfl, hl, rfl, fun _ _ => rfl, he.fX (Nat.le_refl _) (.inr (.inr rfl)) (.inl rfl) (.inl rfl) (Nat.le_refl _) (Nat.le_refl _), hu, fun y nN hy => ?_⟩
 obtain ⟨rfl, h2, h3, h4⟩ := hr y nN hy
 have uG := h.ow
 refine ⟨h3, ?_, [], by simp, h4, ?_, by simpa using Fe⟩
 ·rw [he.2.1 L.j (by omega) (fun e => uG.1 e.symm) (fun e => uG.1 e.symm) h.jo, h2]; exact h.row
 ·rw [he.2.1 p FG (by omega) (by omega) (by omega)]; simpa using Fc
theorem R2 (su : List cM) (fu : List cR) (res : List az) (vs : List bI) (x : aF) (a : aj) (h5 : x.kind = 5) (hk : x.exprs = [a]) : iE su fu res x vs = (match aC ⟨su, fu, vs⟩ a bO with
 | some (y, t) => if jV t.kind = true then (match gO su fu res (iD t.kind) x.cases vs with
  | some cs => (cB su fu res x.dO vs).map fun e => (y, cs, e)
  | none => none) else none
 | none => none).map fun r : aj × List cQ × List aF => (wB x r.1 r.2.1 r.2.2, vs) := by
 obtain ⟨k, ns, ty, ls, es, b, e, cs⟩ := x
 obtain rfl : k = 5 := h5
 obtain rfl : es = [a] := hk
 unfold iE
 rw [if_neg (by decide), if_neg (by decide), if_neg (by decide)]
 dsimp only
 rw [if_pos rfl]
 cases aC ⟨su, fu, vs⟩ a bO with
 | none => rfl
 | some q =>
  obtain ⟨y, t⟩ := q
  dsimp only [aF.cases, aF.dO]
  cases jV t.kind
  ·rfl
  ·rw [if_pos rfl, if_pos rfl]
   cases gO su fu res (iD t.kind) cs vs with
   | none => rfl
   | some m =>
    dsimp only
    cases cB su fu res e vs <;> rfl
set_option maxHeartbeats 8000000 in
theorem R3 {a : aj} (h5 : x.kind = 5) (hk : x.exprs = [a]) (ha : ∀ vs, (∀ p ∈ vs, TW p.type) → dI ⟨su, fu, vs⟩ res a) (oF : ∀ q ∈ x.cases, OW su fu res q.body) (G2 : OW su fu res x.dO) (hlen : x.cases.length ≤ 60000) : RY su fu res x := by
 intro vs n c s f w B T L p M nm o9 h hp Fc Fe SA
 obtain ⟨N, hn⟩ : ∃ N, B.length = N := ⟨_, rfl⟩
 obtain ⟨al, dA⟩ : ∃ a, L.A.length = a := ⟨_, rfl⟩
 obtain ⟨j, tQ⟩ : ∃ j, L.j = j := ⟨_, rfl⟩
 obtain ⟨X, hX⟩ : ∃ X, L.row x = X := ⟨_, rfl⟩
 obtain ⟨x0, x1, x5, x6, x7, x8, x9, j9, lM, _⟩ := gh (show X = _ from hX.symm) dA
 have aA := h.row
 rw [hX, tQ] at aA
 rw [h5] at x0
 have hj : j < N := by have := h.nb; have := h.nl; omega
 have hc := I7 (T := T) hk o9 (ha vs o9) oF G2 hlen h
 rw [R2 su fu res vs x a h5 hk]
 rw [dA, tQ] at hc ⊢
 refine Td.go 160 rfl fun bh => ?_
 simp only [eI] at bh
 simp only [W, seval, sS, hn, hj, aA, x0, Int.reduceEq, decide_true, decide_false]
 refine aQ hc ?_
 rintro u _ ⟨B1, rfl, hl, he, rfl, hr⟩
 refine af.go 60 ?_
 simp only [W, seval, sS]
 refine af.ret Tryz.func75 rfl (cX he (Nat.zero_le _) rfl ?_)
 rw [List.take_of_length_le (by omega)]
 refine MK.of h hp Fc Fe hl he (by rw [Option.isSome_map]; rfl) fun y nN hy => ?_
 obtain ⟨⟨y', cs, e⟩, hq, e2⟩ := Option.map_eq_some_iff.1 hy
 obtain ⟨rfl, rfl⟩ := Prod.mk.inj e2
 exact ⟨rfl, oA _ _ _ _ _, hr y' cs e hq⟩
theorem OZ (su : List cM) (fu : List cR) (res : List az) (vs : List bI) (x : aF) (h2 : x.kind = 2) : iE su fu res x vs = (match nh ⟨su, fu, vs⟩ x.aG with
 | some ts => fQ ⟨su, fu, vs⟩ x.exprs ts
 | none => none).map fun es => (pZ x es, vs) := by
 obtain ⟨k, ns, ty, ls, es, b, e, cs⟩ := x
 obtain rfl : k = 2 := h2
 unfold iE
 rw [if_neg (by decide), if_pos rfl]
 dsimp only [aF.aG, aF.exprs]
 cases nh ⟨su, fu, vs⟩ ls with
 | none => rfl
 | some ts => rfl
theorem O0 (su : List cM) (fu : List cR) (res : List az) (vs : List bI) (x : aF) (h6 : x.kind = 6) : iE su fu res x vs = (fQ ⟨su, fu, vs⟩ x.exprs res).map fun es => (pZ x es, vs) := by
 obtain ⟨k, ns, ty, ls, es, b, e, cs⟩ := x
 obtain rfl : k = 6 := h6
 unfold iE
 rw [if_neg (by decide), if_neg (by decide), if_pos rfl]
 rfl
theorem pY.SI {B1 : List (List V)} {es : List aj} (h : pY B n c s f w ⟨su, fu, vs⟩ res L x) (he : ∀ i, i < n → (i < L.m1 ∨ L.m2 ≤ i) → B1[i]? = B[i]?) (ho : fN B1 es L.m1 L.m2 L.v2) : L.parts B1 (pZ x es) ∧ B1[w]? = some (pU vs) := by
 obtain ⟨s1, s2, s3, s4, s5⟩ := rU x es
 have hle := h.own.le
 have Tc := h.nb
 have uG := h.ow
 refine ⟨⟨?_, ?_, ?_, ?_, ?_⟩, ?_⟩
 ·rw [s1]; exact h.own.1.frame fun i a b => he i (by omega) (by omega)
 ·rw [s2]; exact ho
 ·rw [s3]; exact h.own.2.2.1.frame fun i a b => he i (by omega) (by omega)
 ·rw [s4]; exact h.own.2.2.2.1.frame fun i a b => he i (by omega) (by omega)
 ·rw [s5]; exact h.own.2.2.2.2.frame fun i a b => he i (by omega) (by omega)
 ·rw [he w (by omega) (by have := uG.2; omega)]; exact h.k.w
set_option maxHeartbeats 8000000 in
theorem O1 (hT : nx su fu) (h2 : x.kind = 2) (SJ : ∀ vs, (∀ p ∈ vs, TW p.type) → ∀ y ∈ x.aG, dI ⟨su, fu, vs⟩ res y ∧ ∀ w z t, aC ⟨su, fu, vs⟩ y w = some (z, t) → z = y) (hl : ∀ vs, (∀ p ∈ vs, TW p.type) → ∀ y ∈ x.exprs, dI ⟨su, fu, vs⟩ res y ∧ ∀ z ∈ y.kids, dI ⟨su, fu, vs⟩ res z) (hlen : x.exprs.length ≤ 60000) (Qk : x.aG.length ≤ 60000) : RY su fu res x := by
 intro vs n c s f w B T L p M nm o9 h hp Fc Fe SA
 obtain ⟨N, hn⟩ : ∃ N, B.length = N := ⟨_, rfl⟩
 obtain ⟨al, dA⟩ : ∃ a, L.A.length = a := ⟨_, rfl⟩
 obtain ⟨j, tQ⟩ : ∃ j, L.j = j := ⟨_, rfl⟩
 obtain ⟨X, hX⟩ : ∃ X, L.row x = X := ⟨_, rfl⟩
 obtain ⟨x0, x1, x5, x6, x7, x8, x9, j9, lM, _⟩ := gh (show X = _ from hX.symm) dA
 have aA := h.row
 rw [hX, tQ] at aA
 rw [h2] at x0
 have gy := h.nl
 have hle := h.own.le
 have hj : j < N := by have := h.nb; omega
 have hc := RZ (T := T) hT (SJ vs o9) (fun y hy => (hl vs o9 y hy).1) (fun y hy => (hl vs o9 y hy).2) hlen Qk h
 rw [OZ su fu res vs x h2]
 rw [dA, tQ] at hc ⊢
 refine Td.go 160 rfl fun bh => ?_
 simp only [eI] at bh
 simp only [W, seval, sS, hn, hj, aA, x0, Int.reduceEq, decide_true, decide_false]
 refine aQ hc ?_
 rintro u _ ⟨B1, rfl, YW, he, rfl, hr⟩
 refine af.go 60 ?_
 simp only [W, seval, sS]
 have e1 : iK w w L.lo L.hi B.length 0 B B1 := iK.fX (he.WK (w := w) (p := w) (m := 0) (.inl (Nat.le_refl _))) (Nat.le_refl _) (.inr (.inr rfl)) (.inl rfl) (.inl rfl) (Nat.le_refl _) (by omega)
 refine af.ret Tryz.func75 rfl (cX e1 (Nat.zero_le _) rfl ?_)
 rw [List.take_of_length_le (by omega)]
 refine MK.of h hp Fc Fe YW e1 (by rw [Option.isSome_map]; rfl) fun y nN hy => ?_
 obtain ⟨es, hq, e2⟩ := Option.map_eq_some_iff.1 hy
 obtain ⟨rfl, rfl⟩ := Prod.mk.inj e2
 obtain ⟨o1, o2⟩ := hr es hq
 obtain ⟨s1, s2, s3, s4, s5⟩ := rU x es
 have Tc := h.nb
 have uG := h.ow
 have fr : ∀ i, i < n → (i < L.lo ∨ L.m2 ≤ i) → B1[i]? = B[i]? := fun i a b => he.2.1 i (by omega) ⟨by omega, b⟩
 refine ⟨rfl, oY _ _ _, ⟨?_, ?_, ?_, ?_, ?_⟩, ?_⟩
 ·rw [s1]; exact o1
 ·rw [s2]; exact o2
 ·rw [s3]; exact h.own.2.2.1.frame fun i a b => fr i (by omega) (by omega)
 ·rw [s4]; exact h.own.2.2.2.1.frame fun i a b => fr i (by omega) (by omega)
 ·rw [s5]; exact h.own.2.2.2.2.frame fun i a b => fr i (by omega) (by omega)
 ·rw [fr w (by omega) (by have := uG.2; omega)]; exact h.k.w
set_option maxHeartbeats 8000000 in
theorem O2 (hT : nx su fu) (h6 : x.kind = 6) (hl : ∀ vs, (∀ p ∈ vs, TW p.type) → ∀ y ∈ x.exprs, dI ⟨su, fu, vs⟩ res y ∧ ∀ z ∈ y.kids, dI ⟨su, fu, vs⟩ res z) (hlen : x.exprs.length ≤ 60000) : RY su fu res x := by
 intro vs n c s f w B T L p M nm o9 h hp Fc Fe SA
 obtain ⟨N, hn⟩ : ∃ N, B.length = N := ⟨_, rfl⟩
 obtain ⟨al, dA⟩ : ∃ a, L.A.length = a := ⟨_, rfl⟩
 obtain ⟨j, tQ⟩ : ∃ j, L.j = j := ⟨_, rfl⟩
 obtain ⟨X, hX⟩ : ∃ X, L.row x = X := ⟨_, rfl⟩
 obtain ⟨x0, x1, x5, x6, x7, x8, x9, j9, lM, _⟩ := gh (show X = _ from hX.symm) dA
 have aA := h.row
 rw [hX, tQ] at aA
 rw [h6] at x0
 have gy := h.nl
 have hle := h.own.le
 have SV := h.jo
 have hj : j < N := by have := h.nb; omega
 have wo : c < N := by rw [← hn]; exact h.k.lt.1
 have hb := h.k.c
 have WL := h.oc
 unfold xF at hb
 have hc := yM (T := T) hT (fun y hy => (hl vs o9 y hy).1) (fun y hy => (hl vs o9 y hy).2) hlen res h.exprs
 rw [O0 su fu res vs x h6]
 rw [dA, tQ]
 refine Td.go 160 rfl fun bh => ?_
 simp only [eI] at bh
 simp only [W, seval, sS, hn, hj, aA, x0, Int.reduceEq, decide_true, decide_false]
 refine af.bp 10 [] [j, c] (by kernel_rfl) (by kernel_rfl) (by kernel_rfl) (by kernel_rfl) (by kernel_rfl) (by kernel_rfl) (by kernel_rfl) ?_
 simp (maxSteps := 4000000) only [W, seval, sS, xw, hn, hj, aA, x6, wo, hb]
 refine cz (U7.ne h.exprs res) hc ?_
 rintro u _ ⟨B1, rfl, ⟨he, YW, hr⟩, rfl⟩
 have k1 : B1[j]? = B[j]? := he.2.1 j (by omega) ⟨by omega, by omega⟩
 have k2 : B1[c]? = B[c]? := he.2.1 c (by omega) ⟨by omega, by have := WL.2; omega⟩
 refine ⟨⟨k1, k2, trivial⟩, ?_⟩
 simp (maxSteps := 4000000) only [W, seval, sS, xw, hn]
 refine ⟨⟨k1, k2⟩, ?_⟩
 refine af.go 60 ?_
 simp only [W, seval, sS]
 have e1 : iK w w L.lo L.hi B.length 0 B B1 := iK.fX (he.WK (w := w) (p := w) (m := 0) (.inl (Nat.le_refl _))) (Nat.le_refl _) (.inr (.inr rfl)) (.inl rfl) (.inl rfl) (by omega) (by omega)
 refine af.ret Tryz.func75 rfl (cX e1 (Nat.zero_le _) rfl ?_)
 rw [List.take_of_length_le (by omega)]
 refine MK.of h hp Fc Fe YW e1 (by rw [Option.isSome_map]; rfl) fun y nN hy => ?_
 obtain ⟨es, hq, e2⟩ := Option.map_eq_some_iff.1 hy
 obtain ⟨rfl, rfl⟩ := Prod.mk.inj e2
 have := h.SI (fun i a b => he.2.1 i (by omega) ⟨by omega, b⟩) (hr es hq)
 exact ⟨rfl, oY _ _ _, this⟩
def C4 : aF → aj → List aF → List aF → aF
 | .mk k ns ty ls _ _ _ cs, y, b, e => .mk k ns ty ls [y] b e cs
theorem C6 (L : Lay) (x : aF) (y : aj) (b e : List aF) : L.row (C4 x y b e) = L.row x := by cases x; rfl
theorem uH (x : aF) (y : aj) (b e : List aF) : (C4 x y b e).aG = x.aG ∧ (C4 x y b e).exprs = [y] ∧ (C4 x y b e).body = b ∧ (C4 x y b e).dO = e ∧ (C4 x y b e).cases = x.cases := by cases x; exact ⟨rfl, rfl, rfl, rfl, rfl⟩
theorem R4 (su : List cM) (fu : List cR) (res : List az) (vs : List bI) (x : aF) (a : aj) (hx : x.kind = 3 ∨ x.kind = 4) (hk : x.exprs = [a]) : iE su fu res x vs = (match aV (aC ⟨su, fu, vs⟩ a bg) bg with
 | some y => (match cB su fu res x.body vs with
  | some b => (cB su fu res x.dO vs).map fun e => (C4 x y b e, vs)
  | none => none)
 | none => none) := by
 obtain ⟨k, ns, ty, ls, es, b, e, cs⟩ := x
 obtain rfl : es = [a] := hk
 have h1 : k = 3 ∨ k = 4 := hx
 unfold iE
 rw [if_neg (by omega), if_neg (by omega), if_neg (by omega)]
 dsimp only
 rw [if_neg (by omega)]
 rfl
set_option maxHeartbeats 16000000 in
theorem LX {a : aj} (hx : x.kind = 3 ∨ x.kind = 4) (hk : x.exprs = [a]) (ha : ∀ vs, (∀ p ∈ vs, TW p.type) → dI ⟨su, fu, vs⟩ res a) (z8 : OW su fu res x.body) (G2 : OW su fu res x.dO) : RY su fu res x := by
 intro vs n c s f w B T L p M nm o9 h hp Fc Fe SA
 obtain ⟨N, hn⟩ : ∃ N, B.length = N := ⟨_, rfl⟩
 obtain ⟨al, dA⟩ : ∃ a, L.A.length = a := ⟨_, rfl⟩
 obtain ⟨j, tQ⟩ : ∃ j, L.j = j := ⟨_, rfl⟩
 obtain ⟨X, hX⟩ : ∃ X, L.row x = X := ⟨_, rfl⟩
 obtain ⟨x0, x1, x5, x6, x7, x8, x9, j9, lM, _⟩ := gh (show X = _ from hX.symm) dA
 have aA := h.row
 rw [hX, tQ] at aA
 have gy := h.nl
 have hle := h.own.le
 have SV := h.jo
 have uG := h.ow
 have WL := h.oc
 have hos := h.os
 have hof := h.of
 have hj : j < N := by have := h.nb; omega
 have hex := h.exprs
 rw [hk] at hex
 obtain ⟨j1, m, cap, Jy, mB⟩ := hex.bx (by simp)
 rw [Jy] at hex x6
 have hm : (0 : Int) < (m : Int) := by rw [mB]; simp
 obtain ⟨eC, dM, A1, C1, mc, a1, k1, k2, k3⟩ := hex.pV (k := 0) (y := a) rfl
 rw [Nat.zero_mul] at a1
 have hh := iJ (T := T) (ha vs o9) bg k1
 rw [a1] at hh
 unfold aT at hh
 rw [R4 su fu res vs x a hx hk]
 rw [dA, tQ]
 have e3 : ∀ k : Int, k = 3 ∨ k = 4 → decide (k = 1) = false ∧ decide (k = 2) = false ∧ decide (k = 6) = false ∧ decide (k = 5) = false := fun k h => ⟨decide_eq_false (by omega), decide_eq_false (by omega), decide_eq_false (by omega), decide_eq_false (by omega)⟩
 obtain ⟨q1, q2, q3, q4⟩ := e3 _ hx
 refine Td.go 160 rfl fun bh => ?_
 simp only [eI] at bh
 simp only [W, seval, sS, hn, hj, aA, x0, q1, q2, q3, q4]
 refine af.bp 24 [] [j] (by kernel_rfl) (by kernel_rfl) (by kernel_rfl) (by kernel_rfl) (by kernel_rfl) (by kernel_rfl) (by kernel_rfl) ?_
 simp (maxSteps := 4000000) only [W, seval, sS, xw, ie, hn, hj, aA, x6, hm]
 refine bf (fun Z => eY _ _) ?_
 simp (maxSteps := 4000000) only [W, seval, sS, xw, aT]
 refine cz (pH.ne k1 bg) hh ?_
 rintro u _ ⟨B1, rfl, hd, rfl⟩
 have ee := k2 B.length _ _ hd.1
 have aU := hd.2.1
 have g1 : B1[j]? = B[j]? := ee.2.1 j (by omega) ⟨by omega, by omega⟩
 have e1 : iK w w L.lo L.hi B.length 0 B B1 := iK.fX (ee.WK (w := w) (p := w) (m := 0) (.inl (Nat.le_refl _))) (Nat.le_refl _) (.inr (.inr rfl)) (.inl rfl) (.inl rfl) (by omega) (by omega)
 refine ⟨⟨g1, trivial⟩, ?_⟩
 cases hw : aV (aC ⟨su, fu, vs⟩ a bg) bg with
 | none =>
  simp (maxSteps := 4000000) only [W, seval, sS, xw, Option.isSome_none, hn]
  refine ⟨g1, ?_⟩
  refine af.go 60 ?_
  simp only [W, seval, sS]
  refine af.ret Tryz.func75 rfl (cX e1 (Nat.zero_le _) rfl ?_)
  rw [List.take_of_length_le (by omega)]
  exact MK.of h hp Fc Fe aU e1 rfl fun y nN hy => by cases hy
 | some z =>
  rw [hw] at hd
  have hz := (k3 B1 z hd).own
  obtain ⟨pz, wz⟩ := h.SI (es := [z]) (fun i a b => ee.2.1 i (by omega) ⟨by omega, b⟩) (by rw [Jy]; exact hz)
  have MZ : pY B1 n c s f w ⟨su, fu, vs⟩ res L (pZ x [z]) := h.part (e1.fX (n := n) (m := 0) gy (.inr (.inr rfl)) (.inl rfl) (.inl rfl) (Nat.le_refl _) (Nat.le_refl _)) (.inr rfl) (Nat.le_refl _) (Nat.le_refl _) wz (oY _ _ _) pz
  have Qm := MZ.body
  rw [(rU x [z]).2.2.1] at Qm
  have lD := z8 vs n c s f w B1 T _ _ _ o9 Qm
  have qc : j < B1.length := by omega
  have CC : B1[j]? = some X := g1.trans aA
  simp (maxSteps := 4000000) only [W, seval, sS, xw, Option.isSome_some, hn, CC, x7]
  refine cz (Tb.ne Qm) lD ?_
  rintro u _ ⟨B2, rfl, dU, rfl⟩
  have ic := dU.2.1
  have g2 : B2[j]? = B1[j]? := dU.1.2.1 j qc (fun e => uG.1 (e.symm.trans tQ.symm)) (fun e => uG.1 (e.symm.trans tQ.symm)) (by omega)
  have e2 : iK w w L.lo L.hi B.length 0 B B2 := e1.step (dU.1.fX (Nat.le_refl _) (.inr (.inr rfl)) (.inl rfl) (.inl rfl) (by omega) (by omega))
  refine ⟨⟨g2.trans g1, trivial⟩, ?_⟩
  cases U6 : cB su fu res x.body vs with
  | none =>
   simp (maxSteps := 4000000) only [W, seval, sS, xw, Option.isSome_none, hn]
   refine ⟨g2.trans g1, ?_⟩
   refine af.go 60 ?_
   simp only [W, seval, sS]
   refine af.ret Tryz.func75 rfl (cX e2 (Nat.zero_le _) rfl ?_)
   rw [List.take_of_length_le (by omega)]
   exact MK.of h hp Fc Fe (ic.trans aU) e2 rfl fun y nN hy => by cases hy
  | some b =>
   rw [U6] at dU
   obtain ⟨ob, ow2⟩ := dU.2.2 b rfl
   have Tc := h.nb
   have AO : ∀ i, i < n → i ≠ w → (i < L.m2 ∨ L.m3 ≤ i) → B2[i]? = B1[i]? := fun i a b c => dU.1.2.1 i (by omega) b b c
   have Vb := uG.2
   have hs2 : pY B2 n c s f w ⟨su, fu, vs⟩ res L (C4 x z b x.dO) := by
    obtain ⟨p1, p2, p3, p4, p5⟩ := MZ.own
    obtain ⟨s1, s2, s3, s4, s5⟩ := rU x [z]
    obtain ⟨r1, r2, r3, r4, r5⟩ := uH x z b x.dO
    rw [s1] at p1
    rw [s2] at p2
    rw [s4] at p4
    rw [s5] at p5
    refine MZ.part (dU.1.fX (n := n) (m := 0) (by omega) (.inr (.inr rfl)) (.inl rfl) (.inl rfl) (Nat.le_refl _) (Nat.le_refl _)) (.inr rfl) (by omega) (by omega) ow2 (by rw [C6, oY]) ⟨?_, ?_, ?_, ?_, ?_⟩
    ·rw [r1]; exact p1.frame fun i a b => AO i (by omega) (by omega) (by omega)
    ·rw [r2]; exact p2.frame fun i a b => AO i (by omega) (by omega) (by omega)
    ·rw [r3]; exact ob
    ·rw [r4]; exact p4.frame fun i a b => AO i (by omega) (by omega) (by omega)
    ·rw [r5]; exact p5.frame fun i a b => AO i (by omega) (by omega) (by omega)
   have R5 := hs2.dO
   rw [(uH x z b x.dO).2.2.2.1] at R5
   have pe := G2 vs n c s f w B2 T _ _ _ o9 R5
   have IV : B2[j]? = some X := g2.trans CC
   simp (maxSteps := 4000000) only [W, seval, sS, xw, Option.isSome_some, hn, IV, x8]
   refine cz (Tb.ne R5) pe ?_
   rintro u _ ⟨B3, rfl, yJ, rfl⟩
   have IZ := yJ.2.1
   have g3 : B3[j]? = B2[j]? := yJ.1.2.1 j (by omega) (fun e => uG.1 (e.symm.trans tQ.symm)) (fun e => uG.1 (e.symm.trans tQ.symm)) (by omega)
   have e4 : iK w w L.lo L.hi B.length 0 B B3 := e2.step (yJ.1.fX (Nat.le_refl _) (.inr (.inr rfl)) (.inl rfl) (.inl rfl) (by omega) (by omega))
   have g4 := g3.trans (g2.trans g1)
   refine ⟨⟨g4, trivial⟩, ?_⟩
   simp (maxSteps := 4000000) only [W, seval, sS, xw, hn]
   refine ⟨g4, ?_⟩
   refine af.go 60 ?_
   simp only [W, seval, sS]
   refine af.ret Tryz.func75 rfl (cX e4 (Nat.zero_le _) rfl ?_)
   rw [List.take_of_length_le (by omega)]
   refine MK.of h hp Fc Fe (IZ.trans (ic.trans aU)) e4 (by rw [Option.isSome_map]; rfl) fun y nN hy => ?_
   obtain ⟨e', hq, e5⟩ := Option.map_eq_some_iff.1 hy
   obtain ⟨rfl, rfl⟩ := Prod.mk.inj e5
   obtain ⟨oe, ow3⟩ := yJ.2.2 e' hq
   have WQ : ∀ i, i < n → i ≠ w → (i < L.m3 ∨ L.m4 ≤ i) → B3[i]? = B2[i]? := fun i a b c => yJ.1.2.1 i (by omega) b b c
   obtain ⟨p1, p2, p3, p4, p5⟩ := hs2.own
   obtain ⟨s1, s2, s3, s4, s5⟩ := uH x z b x.dO
   obtain ⟨r1, r2, r3, r4, r5⟩ := uH x z b e'
   rw [s1] at p1
   rw [s2] at p2
   rw [s3] at p3
   rw [s5] at p5
   refine ⟨rfl, C6 _ _ _ _ _, ⟨?_, ?_, ?_, ?_, ?_⟩, ow3⟩
   ·rw [r1]; exact p1.frame fun i a b => WQ i (by omega) (by omega) (by omega)
   ·rw [r2]; exact p2.frame fun i a b => WQ i (by omega) (by omega) (by omega)
   ·rw [r3]; exact p3.frame fun i a b => WQ i (by omega) (by omega) (by omega)
   ·rw [r4]; exact oe
   ·rw [r5]; exact p5.frame fun i a b => WQ i (by omega) (by omega) (by omega)
end
def R6 := by
 have c := aN Tryz.f27 (by conv => lhs; cbv)
 dsimp only [KK, fj, eR, eS, List.map_cons, List.map_nil, List.toList_toArray] at c
 exact c
theorem b27 : bK Tryz.prog 27 Tryz.f27 33 := ⟨Tryz.func27, by kernel_rfl⟩
theorem I8 {su : List cM} {fu : List cR} {res : List az} {s : aF} {vs : List bI} {s' : aF} {nN : List bI} (h : iE su fu res s vs = some (s', nN)) : nN = vs ∨ ∃ n, nN = vs ++ [⟨n, s.type⟩] ∧ fD bI.name vs n = none := by
 obtain ⟨k, ns, ty, ls, es, b, e, cs⟩ := s
 have one : ∀ {α : Type} {o : Option α} {g : α → aF × List bI}, (∀ a, (g a).2 = vs) → o.map g = some (s', nN) → nN = vs := by
  intro α o g hg h
  obtain ⟨x, _, e⟩ := Option.map_eq_some_iff.1 h
  rw [← hg x, e]
 unfold iE at h
 split at h
 ·split at h
  ·split at h
   ·rename_i n _ hc
    have := (Prod.mk.inj (Option.some.inj h)).2
    exact .inr ⟨n, this.symm, by simpa using hc.1⟩
   ·cases h
  ·cases h
 split at h
 ·split at h
  ·exact .inl (one (fun _ => rfl) h)
  ·cases h
 split at h
 ·exact .inl (one (fun _ => rfl) h)
 split at h
 ·split at h
  ·split at h
   ·split at h
    ·split at h
     ·exact .inl (one (fun _ => rfl) h)
     ·cases h
    ·cases h
   ·cases h
  ·split at h
   ·split at h
    ·exact .inl (one (fun _ => rfl) h)
    ·cases h
   ·cases h
 ·cases h
theorem GF {α : Type} (nm : α → List UInt8) : ∀ {l m : List α} {n : List UInt8}, fD nm (l ++ m) n = none → fD nm l n = none
 | [], _, _, _ => rfl
 | x :: l, m, n, h => by
  rw [List.cons_append] at h
  unfold fD at h ⊢
  split at h
  ·cases h
  ·rename_i hx
   rw [if_neg hx]
   exact GF nm h
theorem C7 {α : Type} (nm : α → List UInt8) (k : α) (r : List α) : ∀ l : List α, fD nm l (nm k) = none → jG ((l ++ k :: r).map nm) (nm k) = some l.length
 | [], _ => by simp [jG]
 | x :: l, h => by
  unfold fD at h
  split at h
  ·cases h
  ·rename_i hx
   rw [List.cons_append, List.map_cons, jG, if_neg hx, C7 nm k r l h]; rfl
theorem O3 {vs r : List bI} {k : bI} (h : fD bI.name vs k.name = none) : Nd ((vs ++ k :: r).map bI.name) ((vs ++ k :: r).map fun p => aT p.type) k.name = pU (vs ++ r) := by
 unfold Nd pU
 rw [C7 _ _ _ _ h]
 dsimp only
 simp only [List.map_append, List.map_cons]
 rw [List.eraseIdx_append_of_length_le (by simp), List.eraseIdx_append_of_length_le (by simp)]
 simp
theorem C8 {T T' : List (Nat × Nat)} {b : Nat × Nat} (hq : ∀ q, q ≠ T.length → T'[q]? = (T ++ [b])[q]?) : T' = T ++ T'.drop T.length := by
 conv => lhs; rw [← List.take_append_drop T.length T']
 congr 1
 apply List.ext_getElem?
 intro q
 rw [List.getElem?_take]
 by_cases h : q < T.length
 ·rw [if_pos h, hq q (by omega), List.getElem?_append_left h]
 ·rw [if_neg h, List.getElem?_eq_none (by omega)]
theorem O4 {T T' : List (Nat × Nat)} {b d : Nat × Nat} (hl : T'.length = (T ++ [b]).length) (hq : ∀ q, q ≠ T.length → T'[q]? = (T ++ [b])[q]?) (hd : T'[T.length]? = some d) : T' = T ++ [d] := by
 rw [C8 hq] at hd ⊢
 rw [List.getElem?_append_right (Nat.le_refl _), Nat.sub_self] at hd
 congr 1
 have : (T'.drop T.length).length = 1 := by simp at hl; simp; omega
 obtain ⟨x, hx⟩ := List.length_eq_one_iff.1 this
 rw [hx] at hd ⊢
 rw [← Option.some.inj hd]
structure Vf where
 i : Nat
 ys : List aF
 ks : List bI
 B : List (List V)
structure POk (su : List cM) (fu : List cR) (vs : List bI) (res : List az) (n c s f w lo hi : Nat) (v : V) (l : List aF) (M : Nat) (B : List (List V)) (a : Vf) : Prop where
 le : a.i ≤ l.length
 len : a.ys.length = a.i
 MJ : iK w w lo hi B.length 0 B a.B
 bl : a.B.length = B.length + 1
 at' : lP a.B n c s f w ⟨su, fu, vs ++ a.ks⟩ res lo hi v (a.ys ++ l.drop a.i)
 nb : a.B[B.length]? = some [.sl (gu (a.ks.map bI.name)) (.own M)]
 new : ∀ k ∈ a.ks, fD bI.name vs k.name = none
 tw : ∀ k ∈ a.ks, TW k.type
 kl : a.ks.length ≤ a.i
 res : (cB su fu res (l.drop a.i) (vs ++ a.ks)).map (a.ys ++ ·) = cB su fu res l vs
theorem Ap (su : List cM) (fu : List cR) (res : List az) (l : List aF) (vs : List bI) (i : Nat) (h : i < l.length) : cB su fu res (l.drop i) vs = match iE su fu res l[i] vs with
 | some (s, vs) => (cB su fu res (l.drop (i + 1)) vs).map fun l => s :: l
 | none => none := by
 rw [List.drop_eq_getElem_cons h]
 conv => lhs; unfold cB
 rfl
set_option maxHeartbeats 16000000 in
theorem kP {su : List cM} {fu : List cR} {res : List az} {l : List aF} (hl : ∀ x ∈ l, RY su fu res x) (fk : ∀ x ∈ l, TW x.type) (hlen : l.length ≤ 60000) : OW su fu res l := by
 intro vs n c s f w B T lo hi v o9 h
 obtain ⟨N, hn⟩ : ∃ N, B.length = N := ⟨_, rfl⟩
 obtain ⟨M, hM⟩ : ∃ M, T.length = M := ⟨_, rfl⟩
 have gy := h.nl
 have Tc := h.nb
 have uG := h.ow
 have xN := h.own.len Tryz.prog GB rfl
 rw [fE.eq_1, GB] at xN
 refine b27.go 160 rfl fun bh => ?_
 simp only [eI] at bh
 simp only [W, seval, R6, hn, xN]
 refine af.LG N 0 _ [] (by rw [cy hn]; rfl) (by rfl) 1 (by omega) rfl ?_
 rw [tu hn]
 simp only [List.set_cons_zero, hM, List.length_nil]
 refine af.cJ (fun a : Vf => (bu 33 [(0, .ptr c 0), (1, v), (5, .ptr N 0), (10, .d (.int .i64 (l.length : Int))), (11, .d (.int .i64 (a.i : Int)))], ⟨a.B, T ++ [(a.ks.length, 1)]⟩)) (POk su fu vs res n c s f w lo hi v l M B) (fun a => l.length - a.i) ⟨0, [], [], B ++ [[.sl [] (.own M)]]⟩ ⟨Nat.zero_le _, rfl, (iK.refl _ _ _ _ _ _ B).app, by simp, by simpa using h.more, by rw [cy rfl]; rfl, by simp, by simp, Nat.zero_le _, by simp⟩ ?_ rfl ?_
 ·skip
  refine ay.env _ ?_
  simp only [cZ, seval]
 rintro ⟨i, ys, ks, Bi⟩ ⟨h2, h3, h4, h5, h6, h7, h8, h9, AL, AN⟩ ih
 dsimp only at h2 h3 h4 h5 h6 h7 h8 h9 AL AN ih ⊢
 rw [hn] at h5 h7
 have hNN : N < N + 1 := by omega
 by_cases au : i < l.length
 case neg =>
  have e3 : decide ((i : Int) < (l.length : Int)) = false := decide_eq_false (by omega)
  obtain rfl : i = l.length := by omega
  rw [List.drop_eq_nil_of_le (Nat.le_refl _), cB, Option.map_some, List.append_nil] at AN
  rw [List.drop_eq_nil_of_le (Nat.le_refl _), List.append_nil] at h6
  rw [← AN]
  have hwB := h6.k.w
  refine af.go 160 ?_
  simp only [W, seval, R6, e3, h5, hNN, h7, fZ, List.length_map]
  have hcB := h6.k.c
  unfold xF at hcB
  obtain ⟨w1, _, _⟩ := h.wd
  have hcn : c < N + 1 := by omega
  have ku : Bi.set w (pU (vs ++ ks)) = Bi := oz _ _ _ hwB
  have Kn : w < Bi.length := by omega
  have Vg : ∀ Z, (Bi.set w Z)[c]? = some [V.mp s, .mp f, .mp w, .d (.sl (res.map ej))] := fun Z => by rw [List.getElem?_set_ne (Ne.symm w1)]; exact hcB
  have hef : ∀ q, iK w w lo hi B.length 0 B (Bi.set w (pU q)) := fun q => h4.put (.inl rfl) fun v hv => .inl (GD q 0 v hv)
  refine af.cJ (fun k : Nat => (bu 33 [(0, .ptr c 0), (21, .sl (gu (ks.map bI.name)) (.own M)), (22, .d (.int .i64 (ks.length : Int))), (23, .d (.int .i64 (k : Int)))], ⟨Bi.set w (pU (vs ++ ks.drop k)), T ++ [(ks.length, 1)]⟩)) (fun k => k ≤ ks.length) (fun k => ks.length - k) 0 (Nat.zero_le _) ?_ (by rw [List.drop_zero, ku]) ?_
  ·skip
   refine ay.env _ ?_
   simp only [cZ, seval]
  intro k hk nE
  dsimp only at nE ⊢
  by_cases E4 : k < ks.length
  case neg =>
   have e4 : decide ((k : Int) < (ks.length : Int)) = false := decide_eq_false (by omega)
   rw [List.drop_eq_nil_of_le (by omega), List.append_nil]
   refine af.go 60 ?_
   simp only [W, seval, R6, e4]
   refine af.ret Tryz.func27 rfl (wA (hef vs) (Nat.zero_le _) rfl ?_)
   have zU : w < lo ∨ hi ≤ w := uG
   refine ⟨_, rfl, ⟨(hef vs).cut, by simp; omega, fun l' kU => ?_⟩, rfl⟩
   obtain rfl := Option.some.inj kU
   exact ⟨h6.own.frame fun i a b => by rw [fB (by omega), List.getElem?_set_ne (by omega)], by rw [fB (by omega), List.getElem?_set_self Kn]⟩
  have e4 : decide ((k : Int) < (ks.length : Int)) = true := decide_eq_true (by omega)
  have Jz := aI ((k : Int) + 1) (by omega)
  have hgk : (ks.map bI.name)[k]? = some ks[k].name := by simp [E4]
  have hkI : (k : Int) < ((ks.map bI.name).length : Int) := by rw [List.length_map]; omega
  have YX : nP Tryz.prog ⟨Bi.set w (pU (vs ++ ks.drop k)), T ++ [(ks.length, 1)]⟩ 62 (.mp w) (.d (.str ks[k].name)) = some (.bZ [], ⟨Bi.set w (pU (vs ++ ks.drop (k + 1))), T ++ [(ks.length, 1)]⟩) := by
   unfold nP
   have hg : (Bi.set w (pU (vs ++ ks.drop k)))[w]? = some (pU (vs ++ ks.drop k)) := List.getElem?_set_self Kn
   unfold pU at hg
   simp only [E3]
   show (match (Bi.set w (pU (vs ++ ks.drop k)))[w]? with | some [.nI SY nN] => _ | _ => none) = _
   unfold pU
   rw [hg]
   dsimp only
   rw [List.set_set, List.drop_eq_getElem_cons E4, O3 (h8 ks[k] (List.getElem_mem E4))]
   rfl
  refine af.go 60 ?_
  simp only [W, seval, R6, e4, hgk, hkI, E4, List.length_map, h5, hcn, Vg, YX, Jz]
  refine nE (k + 1) (by omega) (by omega) _ _ ?_ rfl
  refine ay.env _ ?_
  simp only [cZ, seval]
 have e3 : decide ((i : Int) < (l.length : Int)) = true := decide_eq_true (by omega)
 have nZ := aI ((i : Int) + 1) (by omega)
 obtain ⟨x, hx⟩ : ∃ x, l[i] = x := ⟨_, rfl⟩
 have jX := hl l[i] (List.getElem_mem au)
 have htw := fk l[i] (List.getElem_mem au)
 rw [hx] at jX htw
 rw [Ap _ _ _ _ _ _ au, hx] at AN
 have lU : (ys ++ l.drop i)[i]? = some x := by rw [wm _ _ h3, List.getElem?_eq_getElem au, hx]
 obtain ⟨j1, m, cap, rfl, mB⟩ := h6.bx (by intro h0; rw [h0] at lU; simp at lU)
 have YR : (i : Int) < (m : Int) := by have := (List.getElem?_eq_some_iff.1 lU).1; omega
 obtain ⟨L, q1, q2, q3, q4, q5, q6, q7, q8⟩ := h6.pV lU
 have hc := jX (vs ++ ks) n c s f w Bi (T ++ [(ks.length, 1)]) L N M (ks.map bI.name) (fun p hp => (List.mem_append.1 hp).elim (o9 p) (h9 p)) q7 (by omega) h7 (by rw [List.getElem?_append_right (by omega), hM, Nat.sub_self]; simp) (by rw [List.length_map]; omega)
 rw [q1, q2] at hc
 refine af.go 160 ?_
 simp only [W, seval, R6, ie, e3, YR]
 refine aQ hc ?_
 rintro u _ ⟨B1, T1, rfl, aU, xj, uc, he, rfl, hr⟩
 have hcut := C8 (b := (ks.length, 1)) (by rw [hM]; exact uc)
 have e4 : iK w w lo hi B.length 0 B B1 := h4.trans (he.fX (by omega) (.inr (.inl (by omega))) (.inl rfl) (.inr (.inr (.inr (by omega)))) q5 q6)
 cases hs : iE su fu res x (vs ++ ks) with
 | none =>
  rw [hs] at AN
  rw [← AN]
  refine af.go 60 ?_
  simp only [W, seval, R6, Option.isSome_none, Bool.not_false]
  rw [hcut]
  refine af.ret Tryz.func27 rfl (wA e4 (Nat.zero_le _) rfl ?_)
  exact ⟨_, rfl, ⟨e4.cut, by have := e4.1; rw [List.length_take]; omega, fun l hl => by cases hl⟩, rfl⟩
 | some p =>
  obtain ⟨x', nN⟩ := p
  rw [hs] at AN hr
  obtain ⟨o1, o2, k1, rfl, o3, o4, o5⟩ := hr x' nN rfl
  have hT1 : T1 = T ++ [((ks.map bI.name ++ k1.map bI.name).length, 1)] := O4 (b := (ks.length, 1)) xj (by rw [hM]; exact uc) (by rw [hM]; exact o5)
  have R1 : (∀ k ∈ k1, fD bI.name (vs ++ ks) k.name = none ∧ TW k.type) ∧ k1.length ≤ 1 := by
   rcases I8 hs with e | ⟨nn, e, YY⟩
   ·have : k1 = [] := by simpa using e
    rw [this]; exact ⟨fun k hk => absurd hk List.not_mem_nil, Nat.zero_le _⟩
   ·have : k1 = [⟨nn, x.type⟩] := List.append_cancel_left e
    rw [this]
    exact ⟨fun k hk => by obtain rfl := List.mem_singleton.1 hk; exact ⟨YY, htw⟩, Nat.le_refl _⟩
  have hb9 := q8 B1 x' (vs ++ ks ++ k1) N (T ++ [(ks.length, 1)]).length (he.fX (n := n) (m := (T ++ [(ks.length, 1)]).length) (by omega) (.inl ⟨rfl, Nat.le_refl _⟩) (.inl rfl) (.inr (.inl rfl)) (Nat.le_refl _) (Nat.le_refl _)) (by omega) o1 (by rw [← q1]; exact o2) o3
  rw [rM _ _ h3 au] at hb9
  refine af.go 60 ?_
  simp only [W, seval, R6, Option.isSome_some, Bool.not_true, nZ]
  refine ih ⟨i + 1, ys ++ [x'], ks ++ k1, B1⟩ ⟨au, by simp [h3], e4, by rw [hn, ← h5]; exact aU, by rw [← List.append_assoc]; exact hb9, by rw [hn, List.map_append]; exact o4, fun k hk => (List.mem_append.1 hk).elim (h8 k) fun hk => GF _ (R1.1 k hk).1, fun k hk => (List.mem_append.1 hk).elim (h9 k) fun hk => (R1.1 k hk).2, by have := R1.2; rw [List.length_append]; dsimp only; omega, ?_⟩ (by dsimp only; omega) _ _ ?_ (by dsimp only; rw [hT1]; simp)
  ·dsimp only at AN ⊢
   rw [← AN, ← List.append_assoc]
   cases cB su fu res (l.drop (i + 1)) (vs ++ ks ++ k1) <;> simp
  ·skip
   refine ay.env _ ?_
   simp only [cZ, seval]
def WR (r : Option (List aj)) (v : V) : Prop :=
 match r with
 | some l => v = .bZ [.d (.sl (l.map eH)), .d (.bool true)]
 | none => ∃ l : List aj, v = .bZ [.d (.sl (l.map eH)), .d (.bool false)]
theorem WR.ne (r : Option (List aj)) : ∃ v, WR r v := by
 cases r
 ·exact ⟨_, [], rfl⟩
 ·exact ⟨_, rfl⟩
theorem WR.of {r : Option (List aj)} {v : V} (l : List aj) (b : Bool) (hv : v = .bZ [.d (.sl (l.map eH)), .d (.bool b)]) (h : r = if b = true then some l else none) : WR r v := by
 subst h hv
 cases b
 ·exact ⟨l, rfl⟩
 ·rfl
section
variable {E : bG} {res : List az} {c : Nat} {B : List (List V)} {T : List (Nat × Nat)}
end
end Go.Proofs.YtnfnbjjnjjdjdaaGreatDoor
namespace Go.Proofs.YtnfnbjjnjjdjdaaGreatDoor
open Go.RowKit Go.Av
def Vh {α : Type} (a b : α × Ps) : Prop := a.2 = b.2 ∧ (a.2.e = 0 → a.1 = b.1)
theorem Vh.refl {α : Type} (a : α × Ps) : Vh a a := ⟨rfl, fun _ => rfl⟩
def EqE {α : Type} (n : Nat) (E E' : Ps → α × Ps) : Prop := ∀ s, mu s < n → Vh (E s) (E' s)
theorem EqE.at {α : Type} {n : Nat} {E E' : Ps → α × Ps} (h : EqE n E E') (s : Ps) (hn : mu s < n) : ∃ x x' s1, E s = (x, s1) ∧ E' s = (x', s1) ∧ (s1.e = 0 → x = x') := by
 obtain ⟨h1, h2⟩ := h s hn
 exact ⟨(E s).1, (E' s).1, (E s).2, rfl, by rw [h1], h2⟩
theorem Vh.open {α : Type} {a b : α × Ps} (h : Vh a b) : ∃ x x' s1, a = (x, s1) ∧ b = (x', s1) ∧ (s1.e = 0 → x = x') := ⟨a.1, b.1, a.2, rfl, by rw [h.1], h.2⟩
end Go.Proofs.YtnfnbjjnjjdjdaaGreatDoor
namespace Go.Proofs.YtnfnbjjnjjdjdaaGreatDoor
open Go.RowKit Go.Av Go.Ab
set_option linter.unusedSimpArgs false
set_option maxRecDepth 100000
set_option linter.defProp false
theorem TF (i : Int) (b : List aF) : [D.int .u64 i, .sl (b.map dL)] = jJ (.mk i b) := (gr (.mk i b)).symm
inductive qF : aF → Prop
 | mk (s : aF) : s.aG.length ≤ 60000 → s.exprs.length ≤ 60000 → s.cases.length ≤ 60000 → s.body.length ≤ 60000 → s.dO.length ≤ 60000 → (∀ x ∈ s.aG, r9 x) → (∀ x ∈ s.exprs, r9 x) → (∀ y ∈ s.body, qF y) → (∀ y ∈ s.dO, qF y) → (∀ c ∈ s.cases, c.body.length ≤ 60000) → (∀ c ∈ s.cases, ∀ y ∈ c.body, qF y) → qF s
theorem qF.cases {s : aF} (h : qF s) : s.cases.length ≤ 60000 := by cases h; assumption
theorem wC : ∀ (l : List aF) (h : 0 < l.length), dY l = vY (l[l.length - 1])
 | [], h => absurd h (Nat.not_lt_zero 0)
 | [s], _ => by unfold dY; rfl
 | a :: b :: l, _ => by
  unfold dY
  dsimp only
  rw [wC (b :: l) (by simp)]
  congr 1
theorem jE.pV {d : Int} {x : aj} (h : jE d x) : ∀ y ∈ x.kids, jE (d + 1) y := by
 cases h with
 | JE _ t h1 h2 => exact fun y hy => absurd hy List.not_mem_nil
 | num _ i h1 h2 h3 => exact fun y hy => absurd hy List.not_mem_nil
 | UO _ i h1 h2 h3 => exact fun y hy => absurd hy List.not_mem_nil
 | Rz _ k y h1 h2 h3 => exact fun z hz => by obtain rfl := List.mem_singleton.1 hz; exact h3
 | bin _ t y z h1 h2 h3 h4 =>
  intro u hu
  rcases List.mem_cons.1 hu with rfl | hu
  ·exact h3
  ·obtain rfl := List.mem_singleton.1 hu; exact h4
 | SQ _ t ks h1 h2 h3 => exact h3
 | SR _ k y h1 h2 h3 h4 => exact fun z hz => by obtain rfl := List.mem_singleton.1 hz; exact h4
 | SS _ t y h1 h2 h3 => exact fun z hz => by obtain rfl := List.mem_singleton.1 hz; exact h3
 | idx _ y z h1 h2 h3 =>
  intro u hu
  rcases List.mem_cons.1 hu with rfl | hu
  ·exact h2
  ·obtain rfl := List.mem_singleton.1 hu; exact h3
 | cut _ y z v h1 h2 h3 h4 =>
  intro u hu
  rcases List.mem_cons.1 hu with rfl | hu
  ·exact h2
  rcases List.mem_cons.1 hu with rfl | hu
  ·exact h3
  ·obtain rfl := List.mem_singleton.1 hu; exact h4
 | len _ y h1 h2 => exact fun z hz => by obtain rfl := List.mem_singleton.1 hz; exact h2
 | app _ y z h1 h2 h3 =>
  intro u hu
  rcases List.mem_cons.1 hu with rfl | hu
  ·exact h2
  ·obtain rfl := List.mem_singleton.1 hu; exact h3
 | str _ n ns ks h1 h2 h3 h4 h5 => exact h5
 | SU _ t ks h1 h2 h3 => exact h3
theorem Ff {E : bG} {d : Int} {x : aj} (h : jE d x) : dP x = true → ∀ w z t, aC E x w = some (z, t) → z = x := by
 induction h with
 | JE d t h1 h2 =>
  intro _ w z u hz
  rw [wu] at hz
  obtain ⟨p, _, e⟩ := Option.map_eq_some_iff.1 hz
  exact (Prod.mk.inj e).1.symm
 | SS d t y h1 h2 h3 ih =>
  intro hp w z u hz
  rw [wv] at hz
  have hp : dP y = true := by unfold dP at hp; simpa using hp
  split at hz
  ·rename_i a v ha
   obtain ⟨p, _, e⟩ := Option.map_eq_some_iff.1 hz
   rw [← (Prod.mk.inj e).1, ih hp _ _ _ ha]
  ·cases hz
 | Rz d k y h1 h2 h3 ih => exact fun hp => by rw [j8] at hp; rcases h2 with rfl | rfl <;> simp at hp
 | SQ d t ks h1 h2 h3 ih => exact fun hp => by rw [j8] at hp; split at hp <;> simp at hp
 | str d n ns ks h1 h2 h3 h4 h5 ih => exact fun hp => by rw [j8] at hp; split at hp <;> simp at hp
 | SU d t ks h1 h2 h3 ih => exact fun hp => by rw [j8] at hp; split at hp <;> simp at hp
 | SR d k y h1 h2 h3 h4 ih => exact fun hp => by rw [j8] at hp; simp at hp
 | _ => exact fun hp => by unfold dP at hp; simp at hp
section
variable {su : List cM} {fu : List cR} {res : List az}
theorem sU (hT : nx su fu) {d : Int} {x : aj} (h : jE d x) (hs : r9 x) : ∀ vs : List bI, (∀ p ∈ vs, TW p.type) → dI ⟨su, fu, vs⟩ res x ∧ ∀ z ∈ x.kids, dI ⟨su, fu, vs⟩ res z :=
 fun _ hv => ⟨CX ⟨hT, hv⟩ h hs, fun z hz => CX ⟨hT, hv⟩ (h.pV z hz) (hs.pV z hz)⟩
theorem sV {d : Int} {s : aF} (h : uC d s) : TW s.type := by
 cases h with
 | var _ n t h1 h2 h3 => exact TW.yB h3
 | _ => exact .leaf 0 _ _ (by decide)
theorem LY (hT : nx su fu) {d : Int} {s : aF} (h : uC d s) : qF s → RY su fu res s := by
 induction h with
 | var d n t h1 h2 h3 => exact fun _ => OY (TW.yB h3) rfl
 | set d ls es h1 h2 h3 h4 h5 h6 =>
  intro hs
  cases hs with
  | mk _ a1 a2 a3 a4 a5 a6 a7 a8 a9 DD Fg =>
   exact O1 hT rfl (fun vs hv y hy => ⟨(sU hT (h5 y hy) (a6 y hy) vs hv).1, Ff (h5 y hy) (h4 y hy)⟩) (fun vs hv y hy => sU hT (h6 y hy) (a7 y hy) vs hv) (by omega) (by omega)
 | iff d x b e h1 h2 h3 h4 h5 Fh YZ =>
  intro hs
  cases hs with
  | mk _ a1 a2 a3 a4 a5 a6 a7 a8 a9 DD Fg =>
   exact LX (.inl rfl) rfl (fun vs hv => (sU hT h2 (a7 x List.mem_cons_self) vs hv).1) (kP (fun y hy => Fh y hy (a8 y hy)) (fun y hy => sV (h4 y hy)) (by omega)) (kP (fun y hy => YZ y hy (a9 y hy)) (fun y hy => sV (h5 y hy)) (by omega))
 | Wv d x b h1 h2 h3 h4 Fh =>
  intro hs
  cases hs with
  | mk _ a1 a2 a3 a4 a5 a6 a7 a8 a9 DD Fg =>
   exact LX (.inr rfl) rfl (fun vs hv => (sU hT h2 (a7 x List.mem_cons_self) vs hv).1) (kP (fun y hy => Fh y hy (a8 y hy)) (fun y hy => sV (h4 y hy)) (by omega)) (kP (fun y hy => absurd hy List.not_mem_nil) (fun y hy => absurd hy List.not_mem_nil) (by omega))
 | Ww d x e cs h1 h2 h3 h4 h5 h6 Fh Y0 =>
  intro hs
  cases hs with
  | mk _ a1 a2 a3 a4 a5 a6 a7 a8 a9 DD Fg =>
   exact R3 rfl rfl (fun vs hv => (sU hT h2 (a7 x List.mem_cons_self) vs hv).1) (fun c hc => kP (fun y hy => Y0 c hc y hy (Fg c hc y hy)) (fun y hy => sV (h6 c hc y hy)) (by have := DD c hc; omega)) (kP (fun y hy => Fh y hy (a9 y hy)) (fun y hy => sV (h4 y hy)) (by omega)) (by omega)
 | ret d es h1 h2 h3 =>
  intro hs
  cases hs with
  | mk _ a1 a2 a3 a4 a5 a6 a7 a8 a9 DD Fg =>
   exact O2 hT rfl (fun vs hv y hy => sU hT (h3 y hy) (a7 y hy) vs hv) (by omega)
theorem I9 (hT : nx su fu) {d : Int} {l : List aF} (h : ∀ s ∈ l, uC d s) (hs : ∀ s ∈ l, qF s) (hl : l.length ≤ 60000) : OW su fu res l :=
 kP (fun s hm => LY hT (h s hm) (hs s hm)) (fun s hm => sV (h s hm)) hl
end
def LZ := by
 have c := aN Tryz.f28 (by conv => lhs; cbv)
 dsimp only [KK, fj, eR, eS, List.map_cons, List.map_nil, List.toList_toArray] at c
 exact c
theorem Vi : bK Tryz.prog 28 Tryz.f28 38 := ⟨Tryz.func28, by kernel_rfl⟩
def c77 := by
 have c := aN Tryz.f77 (by conv => lhs; cbv)
 dsimp only [KK, fj, eR, eS, List.map_cons, List.map_nil, List.toList_toArray] at c
 exact c
theorem b77 : bK Tryz.prog 77 Tryz.f77 7 := ⟨Tryz.func77, by kernel_rfl⟩
def Ja := by
 have c := aN Tryz.f114 (by conv => lhs; cbv)
 dsimp only [KK, fj, eR, eS, List.map_cons, List.map_nil, List.toList_toArray] at c
 exact c
theorem Y2 : bK Tryz.prog 114 Tryz.f114 19 := ⟨Tryz.func114, by kernel_rfl⟩
theorem C9 {Y A r C : List V} {k m : Nat} (hY : Y = A ++ r ++ C) (hA : A.length = k) (hr : r.length = m) : (Y.drop k).take m = r ∧ k + m ≤ Y.length := by
 subst hY hA hr
 refine ⟨?_, by simp⟩
 rw [List.append_assoc, List.drop_append, List.drop_eq_nil_of_le (Nat.le_refl _), List.nil_append, Nat.sub_self, List.drop_zero, List.take_append_of_le_length (Nat.le_refl _), List.take_of_length_le (Nat.le_refl _)]
theorem fH.one {B : List (List V)} {l : List aF} {lo hi : Nat} {v : V} (h : fH B l lo hi v) {k : Nat} {x : aF} (hk : l[k]? = some x) :
 ∃ (j cap eC m1 m2 m3 m4 dM : Nat) (Y : List V) (v1 v2 v3 v4 v5 : V), v = .bx j l.length cap ∧ B[j]? = some Y ∧ (Y.drop (k * 10)).take 10 = cT x v1 v2 v3 v4 v5 ∧ k * 10 + 10 ≤ Y.length ∧ dM ≤ hi ∧ tO B x eC m1 m2 m3 m4 dM v1 v2 v3 v4 v5 := by
 have au := (List.getElem?_eq_some_iff.1 hk).1
 rcases h with ⟨h0, _⟩ | ⟨hn, j1, cap, Y, h1, h2, h3, h4, h5⟩
 ·omega
 rw [jk] at h5
 obtain ⟨A1, r, C1, eC, dM, e1, e2, e3, e4, e5, e6, e7, e8⟩ := h5.at k x hk
 obtain ⟨v1, v2, v3, v4, v5, m1, m2, m3, m4, rfl, hp⟩ := kN.1 e7
 obtain ⟨f1, f2⟩ := C9 (m := 10) e1 e2 rfl
 exact ⟨j1, cap, eC, m1, m2, m3, m4, dM, Y, v1, v2, v3, v4, v5, h1, h4, f1, f2, e6, hp⟩
theorem lz.one {B : List (List V)} {l : List cQ} {lo hi : Nat} {v : V} (h : lz B l lo hi v) {k : Nat} {x : cQ} (hk : l[k]? = some x) :
 ∃ (j cap eC dM : Nat) (Y : List V) (bv : V), v = .bx j l.length cap ∧ B[j]? = some Y ∧ (Y.drop (k * 2)).take 2 = [.d (.int .u64 x.int), bv] ∧ k * 2 + 2 ≤ Y.length ∧ dM ≤ hi ∧ fH B x.body eC dM bv := by
 have au := (List.getElem?_eq_some_iff.1 hk).1
 rcases h with ⟨h0, _⟩ | ⟨hn, j1, cap, Y, h1, h2, h3, h4, h5⟩
 ·omega
 rw [jl] at h5
 obtain ⟨A1, r, C1, eC, dM, e1, e2, e3, e4, e5, e6, e7, e8⟩ := h5.at k x hk
 obtain ⟨bv, rfl, hp⟩ := kO.1 e7
 obtain ⟨f1, f2⟩ := C9 (m := 2) e1 e2 rfl
 exact ⟨j1, cap, eC, dM, Y, bv, h1, h4, f1, f2, e6, hp⟩
def Da (i : Int) (bv : V) : V := .agg [.d (.int .u64 i), bv]
set_option maxHeartbeats 2000000 in
theorem um (g : FuncId) (f : cQ → Bool) (l : List cQ) (hl : l.length ≤ 60000) {B : List (List V)} (T : List (Nat × Nat)) {lo hi : Nat} {v : V} (h : lz B l lo hi v) (hh : hi ≤ B.length) (hg : ∀ x ∈ l, ∀ eC dM bv, dM ≤ B.length → fH B x.body eC dM bv → aD Tryz.prog av g [Da x.int bv] ⟨B, T⟩ (aB (.d (.bool (f x))) ⟨B, T⟩)) :
 aD Tryz.prog av 114 [v, .func g [] []] ⟨B, T⟩ (aB (.d (.int .i64 (bk (fun x (s : Unit) => (f x, s)) l 0 ()).1)) ⟨B, T⟩) := by
 have xN := h.len Tryz.prog GC rfl
 rw [fE.eq_1, GC] at xN
 refine Y2.go 100 rfl fun bh => ?_
 simp only [eI] at bh
 simp only [W, seval, Ja, xN]
 refine af.cJ (fun p : Nat => (bu 19 [(0, v), (1, .func g [] []), (6, v), (7, .d (.int .i64 l.length)), (8, .d (.int .i64 p))], ⟨B, T⟩)) (fun p => p ≤ l.length ∧ bk (fun x (s : Unit) => (f x, s)) l 0 () = bk (fun x (s : Unit) => (f x, s)) (l.drop p) p ()) (fun p => l.length - p) 0 ⟨by omega, rfl⟩ ?_ rfl ?_
 ·skip
  refine ay.env _ ?_
  simp only [cZ, seval]
 rintro i ⟨h1, h2⟩ ih
 dsimp only at h1 h2 ih ⊢
 by_cases au : i < l.length
 ·have hw := aI ((i : Int) + 1) (by omega)
  have lC := List.getElem?_eq_getElem au
  rw [bW au] at h2
  obtain ⟨j, cap, eC, dM, Y, bv, rfl, k2, k3, k4, k5, k6⟩ := h.one lC
  have aH : decide ((i : Int) < (l.length : Int)) = true := decide_eq_true (by omega)
  have lO : (i : Int) < (l.length : Int) := by omega
  have qE := hg l[i] (List.getElem_mem au) eC dM bv (by omega) k6
  unfold Da at qE
  refine af.go 100 ?_
  simp only [W, seval, Ja, ie, lC, aH, hw, lO, k2, k3, k4]
  refine aQ (first := []) (args := [_]) (caps := []) qE ?_
  rintro _ _ ⟨rfl, rfl⟩
  refine af.go 100 ?_
  simp only [W, seval, Ja, hw]
  refine aS (fun h => ?_) (fun h => ?_)
  ·simp only [W, seval, Ja, h]
   refine af.ret Tryz.func114 rfl (Left.none ?_)
   have e : bk (fun x (s : Unit) => (f x, s)) (l[i] :: l.drop (i + 1)) (i : Int) () = ((i : Int), ()) := by simp [bk, h]
   rw [h2, e]
   exact ⟨rfl, rfl⟩
  ·simp only [W, seval, Ja, h, hw]
   have e : bk (fun x (s : Unit) => (f x, s)) (l[i] :: l.drop (i + 1)) (i : Int) () = bk (fun x (s : Unit) => (f x, s)) (l.drop (i + 1)) ((i + 1 : Nat) : Int) () := by simp [bk, h]
   refine ih (i + 1) ⟨au, h2.trans e⟩ (by omega) _ _ ?_ rfl
   refine ay.env _ ?_
   simp only [cZ, seval]
 ·have aH : decide ((i : Int) < (l.length : Int)) = false := decide_eq_false (by omega)
  refine af.go 100 ?_
  simp only [W, seval, Ja, aH]
  refine af.ret Tryz.func114 rfl (Left.none ?_)
  rw [h2, List.drop_eq_nil_of_le (by omega)]
  exact ⟨rfl, rfl⟩
theorem qz (g : FuncId) (f : cQ → Bool) (l : List cQ) (hl : l.length ≤ 60000) {B : List (List V)} (T : List (Nat × Nat)) {lo hi : Nat} {v : V} (h : lz B l lo hi v) (hh : hi ≤ B.length) (hg : ∀ x ∈ l, ∀ eC dM bv, dM ≤ B.length → fH B x.body eC dM bv → aD Tryz.prog av g [Da x.int bv] ⟨B, T⟩ (aB (.d (.bool (f x))) ⟨B, T⟩)) :
 aD Tryz.prog av 76 [v, .func g [] []] ⟨B, T⟩ (aB (.d (.bool (l.any f))) ⟨B, T⟩) := by
 obtain ⟨e1, e2⟩ := jd (fun x (s : Unit) => (f x, s)) l 0 () (Int.le_refl 0)
 refine aD.body Tryz.func76 rfl (by kernel_rfl) ?_
 refine af.go 100 ?_
 simp only [Tryz.f76, WO, seval]
 refine ag (um g f l hl T h hh hg) ?_
 rintro _ _ ⟨rfl, rfl⟩
 refine af.go 100 ?_
 simp only [WO, seval, e1]
 refine af.fits fun hf => ?_
 refine af.ret Tryz.func76 rfl (Left.fits hf rfl rfl ?_)
 have e3 : ∀ l : List cQ, (lI (fun x (s : Unit) => (f x, s)) l ()).1 = l.any f := by
  intro l
  induction l with
  | nil => rfl
  | cons x l ih => simp only [lI, List.any_cons]; cases f x <;> simp [ih]
 rw [e3]
 exact ⟨rfl, rfl⟩
def Fi (l : List aF) : Prop := ∀ (B : List (List V)) (T : List (Nat × Nat)) (lo hi : Nat) (v : V), fH B l lo hi v → hi ≤ B.length → aD Tryz.prog av 28 [v] ⟨B, T⟩ (aB (.d (.bool (dY l))) ⟨B, T⟩)
theorem L0 (l : List cQ) : (!(l.any fun c => !(dY c.body))) = ni l := by
 induction l with
 | nil => unfold ni; rfl
 | cons c l ih =>
  cases c
  conv => rhs; unfold ni
  rw [← ih, List.any_cons]
  show (!(!dY _ || _)) = _
  rw [Bool.not_or, Bool.not_not]
  rfl
theorem L1 {b : List aF} (h : Fi b) (i : Int) {B : List (List V)} (T : List (Nat × Nat)) {lo hi : Nat} {v : V} (ho : fH B b lo hi v) (hh : hi ≤ B.length) : aD Tryz.prog av 77 [Da i v] ⟨B, T⟩ (aB (.d (.bool (!dY b))) ⟨B, T⟩) := by
 obtain ⟨N, hn⟩ : ∃ N, B.length = N := ⟨_, rfl⟩
 unfold Da
 refine b77.go 60 rfl fun bh => ?_
 simp only [eI] at bh
 simp only [W, seval, c77, hn]
 refine ag (h _ _ lo hi v (ho.frame fun i _ hi => ai (by omega)) (by simp; omega)) ?_
 rintro _ _ ⟨rfl, rfl⟩
 refine af.go 60 ?_
 simp only [W, seval, c77]
 refine af.ret Tryz.func77 rfl (Left.box ?_)
 exact ⟨rfl, rfl⟩
set_option maxHeartbeats 4000000 in
theorem GG (l : List aF) (h : ∀ s ∈ l, (Fi s.body ∧ Fi s.dO ∧ ∀ c ∈ s.cases, Fi c.body) ∧ s.cases.length ≤ 60000 ∧ (s.kind = 3 → s.cases = [])) (hlen : l.length ≤ 60000) : Fi l := by
 intro B T lo hi v ho PG
 obtain ⟨N, hn⟩ : ∃ N, B.length = N := ⟨_, rfl⟩
 have xN := ho.len Tryz.prog GB rfl
 rw [fE.eq_1, GB] at xN
 by_cases hl : l.length = 0
 ·obtain rfl := List.eq_nil_of_length_eq_zero hl
  have hE : dY [] = false := by unfold dY; rfl
  rw [hE]
  refine Vi.go 60 rfl fun bh => ?_
  simp only [eI] at bh
  simp only [W, seval, LZ, hn, xN]
  refine af.ret Tryz.func28 rfl (Left.none ?_)
  exact ⟨rfl, rfl⟩
 have e0 : decide ((l.length : Int) = 0) = false := decide_eq_false (by omega)
 have au : l.length - 1 < l.length := by omega
 obtain ⟨⟨hb, he, hc⟩, jY, h3c⟩ := h _ (List.getElem_mem au)
 rw [wC l (by omega)]
 obtain ⟨j, cap, eC, m1, m2, m3, m4, dM, Y, v1, v2, v3, v4, v5, rfl, k2, k3, k4, k5, k6⟩ := ho.one (List.getElem?_eq_getElem au)
 obtain ⟨s, hs⟩ : ∃ s, l[l.length - 1] = s := ⟨_, rfl⟩
 rw [hs] at hb he hc jY h3c k3 k6 ⊢
 have hS : vY s = (decide (s.kind = 6) || (dY s.dO && (decide (s.kind = 5) || decide (s.kind = 3) && dY s.body) && ni s.cases)) := by
  cases s
  conv => lhs; unfold vY
  rfl
 obtain ⟨m, hm⟩ : ∃ m : Nat, l.length = m + 1 := ⟨l.length - 1, by omega⟩
 have U9 : l.length - 1 = m := by omega
 have WS : (m : Int) < (l.length : Int) := by omega
 have WT : m < l.length := by omega
 rw [U9] at k3 k4
 have WU : IntKind.i64.wrap ((l.length : Int) - 1) = (m : Int) := by
  rw [aI _ (by omega)]
  omega
 clear U9 hs
 unfold cT at k3
 obtain ⟨p1, p2, p3, p4, p5⟩ := k6
 have hle := (show tO B s eC m1 m2 m3 m4 dM v1 v2 v3 v4 v5 from ⟨p1, p2, p3, p4, p5⟩).le
 obtain ⟨X, hX⟩ : ∃ X : List (List V), X = [[.d (.int .i64 s.kind), .d (.sl (gu s.names)), .d (.int .i64 s.type.kind), .d (.str s.type.name), .d (.sl (s.type.elem.map ej)), v1, v2, v3, v4, v5]] := ⟨_, rfl⟩
 have hex : ∀ (b : List aF) (a z : Nat) (u : V), Fi b → fH B b a z u → z ≤ dM → aD Tryz.prog av 28 [u] ⟨B ++ X, T⟩ (aB (.d (.bool (dY b))) ⟨B ++ X, T⟩) := fun b a z u hb ho hz => hb _ _ a z u (ho.frame fun i _ hi => ai (by omega)) (by rw [List.length_append]; omega)
 have Y3 := hex _ _ _ _ hb p3 (by omega)
 have Vj := hex _ _ _ _ he p4 (by omega)
 have Y4 := qz 77 (fun c => !dY c.body) s.cases jY (B := B ++ X) T (p5.frame fun i _ hi => ai (by omega)) (by rw [List.length_append]; omega) fun c hm a z u hz ho => L1 (hc c hm) c.int T ho hz
 clear hex hb he hc
 subst hX
 cases h6 : decide (s.kind = 6)
 case true =>
  rw [h6, Bool.true_or] at hS
  refine Vi.go 60 rfl fun bh => ?_
  simp only [eI] at bh
  simp only [W, seval, LZ, ie, hn, e0, xN, WU, WS, WT, k2, k3, k4, h6]
  refine af.ret Tryz.func28 rfl (Left.box ?_)
  rw [hS]
  exact ⟨rfl, rfl⟩
 rw [h6, Bool.false_or] at hS
 by_cases q3 : s.kind = 3
 ·have h3 : decide (s.kind = 3) = true := decide_eq_true q3
  have oF : ni s.cases = true := by rw [h3c q3]; unfold ni; rfl
  have h5 : decide (s.kind = 5) = false := decide_eq_false (by omega)
  rw [h3, h5, oF, Bool.false_or, Bool.true_and, Bool.and_true] at hS
  rw [hS]
  refine Vi.go 60 rfl fun bh => ?_
  simp only [eI] at bh
  simp only [W, seval, LZ, ie, hn, e0, xN, WU, WS, WT, k2, k3, k4, h6, h3]
  refine ag Y3 ?_
  rintro _ _ ⟨rfl, rfl⟩
  cases hB : dY s.body
  ·refine af.go 60 ?_
   simp only [W, seval, LZ, hn]
   refine af.ret Tryz.func28 rfl (Left.box ?_)
   rw [Bool.and_false]
   exact ⟨rfl, rfl⟩
  ·refine af.go 60 ?_
   simp only [W, seval, LZ, ie, hn]
   refine ag Vj ?_
   rintro _ _ ⟨rfl, rfl⟩
   refine af.go 60 ?_
   simp only [W, seval, LZ, hn]
   refine af.ret Tryz.func28 rfl (Left.box ?_)
   exact ⟨rfl, rfl⟩
 have h3 : decide (s.kind = 3) = false := decide_eq_false q3
 rw [h3, Bool.false_and, Bool.or_false] at hS
 cases h5 : decide (s.kind = 5)
 ·rw [h5, Bool.and_false, Bool.false_and] at hS
  rw [hS]
  refine Vi.go 60 rfl fun bh => ?_
  simp only [eI] at bh
  simp only [W, seval, LZ, ie, hn, e0, xN, WU, WS, WT, k2, k3, k4, h6, h3, h5]
  refine af.ret Tryz.func28 rfl (Left.box ?_)
  exact ⟨rfl, rfl⟩
 rw [h5, Bool.and_true, ← L0] at hS
 rw [hS]
 refine Vi.go 60 rfl fun bh => ?_
 simp only [eI] at bh
 simp only [W, seval, LZ, ie, hn, e0, xN, WU, WS, WT, k2, k3, k4, h6, h3, h5]
 refine ag Vj ?_
 rintro _ _ ⟨rfl, rfl⟩
 cases hB : dY s.dO
 ·refine af.go 60 ?_
  simp only [W, seval, LZ, hn]
  refine af.ret Tryz.func28 rfl (Left.box ?_)
  rw [Bool.false_and]
  exact ⟨rfl, rfl⟩
 ·refine af.go 60 ?_
  simp only [W, seval, LZ, ie, hn]
  refine ag Y4 ?_
  rintro _ _ ⟨rfl, rfl⟩
  refine af.go 60 ?_
  simp only [W, seval, LZ, hn]
  refine af.ret Tryz.func28 rfl (Left.box ?_)
  exact ⟨rfl, rfl⟩
inductive Fj : aF → Prop
 | mk (s : aF) : (s.kind = 3 → s.cases = []) → s.cases.length ≤ 60000 → s.body.length ≤ 60000 → s.dO.length ≤ 60000 → (∀ c ∈ s.cases, c.body.length ≤ 60000) → (∀ y ∈ s.body, Fj y) → (∀ y ∈ s.dO, Fj y) → (∀ c ∈ s.cases, ∀ y ∈ c.body, Fj y) → Fj s
theorem L2 {s : aF} (h : Fj s) : Fi s.body ∧ Fi s.dO ∧ ∀ c ∈ s.cases, Fi c.body := by
 induction h with
 | mk s h1 h2 h3 h4 h5 h6 h7 h8 i6 i7 i8 =>
  have key : ∀ l : List aF, (∀ y ∈ l, Fj y) → (∀ y ∈ l, Fi y.body ∧ Fi y.dO ∧ ∀ c ∈ y.cases, Fi c.body) → l.length ≤ 60000 → Fi l := fun l a b c =>
   GG l (fun y hy => ⟨b y hy, by cases a y hy; assumption, by cases a y hy; assumption⟩) c
  exact ⟨key _ h6 i6 h3, key _ h7 i7 h4, fun c hc => key _ (h8 c hc) (i8 c hc) (h5 c hc)⟩
theorem L3 (l : List aF) (h : ∀ y ∈ l, Fj y) (hl : l.length ≤ 60000) : Fi l :=
 GG l (fun y hy => ⟨L2 (h y hy), by cases h y hy; assumption, by cases h y hy; assumption⟩) hl
theorem dj : ∀ l : List aF, cx l = l.map mC
 | [] => by unfold cx; rfl
 | x :: l => by unfold cx; rw [dj l]; rfl
theorem kQ : ∀ l : List cQ, jm l = l.map E7
 | [] => by unfold jm; rfl
 | x :: l => by unfold jm; rw [kQ l]; rfl
theorem jv {α β : Type} {f : α → β} {l m : List α} (h : l.map f = m.map f) {x : α} (hx : x ∈ l) : ∃ y ∈ m, f y = f x := by
 have : f x ∈ m.map f := by rw [← h]; exact List.mem_map_of_mem hx
 obtain ⟨y, hy, e⟩ := List.mem_map.1 this
 exact ⟨y, hy, e⟩
theorem Fj.same {s : aF} (h : Fj s) : ∀ s', mC s' = mC s → Fj s' := by
 induction h with
 | mk s h1 h2 h3 h4 h5 h6 h7 h8 i6 i7 i8 =>
  rintro ⟨k', SX, SW, Wx, RG, b', e', LB⟩ he
  obtain ⟨k, ns, ty, ls, es, b, e, cs⟩ := s
  unfold mC at he
  obtain ⟨rfl, _, _, _, _, eb, ee, ec⟩ := aF.mk.inj he
  have lb := congrArg List.length eb
  have le := congrArg List.length ee
  have lc := congrArg List.length ec
  rw [ff, ff] at lb le
  rw [ov, ov] at lc
  rw [dj, dj] at eb ee
  rw [kQ, kQ] at ec
  dsimp only [aF.body, aF.dO, aF.cases, aF.kind] at *
  have sub : ∀ c' ∈ LB, ∃ c ∈ cs, cx c'.body = cx c.body := fun c' hc => by
   obtain ⟨c, h1, h2⟩ := jv ec hc
   refine ⟨c, h1, ?_⟩
   cases c; cases c'
   unfold E7 at h2
   exact (cQ.mk.inj h2).2.symm
  refine .mk _ (fun hk => ?_) (by dsimp only [aF.cases]; omega) (by dsimp only [aF.body]; omega) (by dsimp only [aF.dO]; omega) (fun c' hc => ?_) (fun y hy => ?_) (fun y hy => ?_) fun c' hc y hy => ?_
  ·have := h1 hk; subst this; exact List.eq_nil_of_length_eq_zero (show LB.length = 0 from lc)
  ·obtain ⟨c, h1, h2⟩ := sub c' hc
   have := congrArg List.length h2
   rw [ff, ff] at this
   rw [this]
   exact h5 c h1
  ·obtain ⟨x, hx, e⟩ := jv eb hy
   exact i6 x hx y e.symm
  ·obtain ⟨x, hx, e⟩ := jv ee hy
   exact i7 x hx y e.symm
  ·obtain ⟨c, h1, h2⟩ := sub c' hc
   rw [dj, dj] at h2
   obtain ⟨x, hx, e⟩ := jv h2 hy
   exact i8 c h1 x hx y e.symm
theorem Fj.all {l l' : List aF} (h : ∀ y ∈ l, Fj y) (he : cx l' = cx l) : ∀ y ∈ l', Fj y := fun y hy => by
 rw [dj, dj] at he
 obtain ⟨x, hx, e⟩ := jv he hy
 exact (h x hx).same y e.symm
theorem uC.shb {d : Int} {s : aF} (h : uC d s) : qF s → Fj s := by
 induction h with
 | var d n t h1 h2 h3 =>
  intro _
  exact .mk _ (fun _ => rfl) (Nat.zero_le _) (Nat.zero_le _) (Nat.zero_le _) (by simp [aF.cases]) (by simp [aF.body]) (by simp [aF.dO]) (by simp [aF.cases])
 | set d ls es h1 h2 h3 h4 h5 h6 =>
  intro _
  exact .mk _ (fun _ => rfl) (Nat.zero_le _) (Nat.zero_le _) (Nat.zero_le _) (by simp [aF.cases]) (by simp [aF.body]) (by simp [aF.dO]) (by simp [aF.cases])
 | iff d x b e h1 h2 h3 h4 h5 Fh YZ =>
  intro hs
  cases hs with
  | mk _ a1 a2 a3 a4 a5 a6 a7 a8 a9 DD Fg =>
   exact .mk _ (fun _ => rfl) (Nat.zero_le _) (by omega) (by omega) (by simp [aF.cases]) (fun y hy => Fh y hy (a8 y hy)) (fun y hy => YZ y hy (a9 y hy)) (by simp [aF.cases])
 | Wv d x b h1 h2 h3 h4 Fh =>
  intro hs
  cases hs with
  | mk _ a1 a2 a3 a4 a5 a6 a7 a8 a9 DD Fg =>
   exact .mk _ (fun _ => rfl) (Nat.zero_le _) (by omega) (Nat.zero_le _) (by simp [aF.cases]) (fun y hy => Fh y hy (a8 y hy)) (by simp [aF.dO]) (by simp [aF.cases])
 | Ww d x e cs h1 h2 h3 h4 h5 h6 Fh Y0 =>
  intro hs
  cases hs with
  | mk _ a1 a2 a3 a4 a5 a6 a7 a8 a9 DD Fg =>
   exact .mk _ (fun h => absurd (show (5 : Int) = 3 from h) (by decide)) (by omega) (Nat.zero_le _) (by omega) (fun c hc => by have := DD c hc; omega) (by simp [aF.body]) (fun y hy => Fh y hy (a9 y hy)) (fun c hc y hy => Y0 c hc y hy (Fg c hc y hy))
 | ret d es h1 h2 h3 =>
  intro _
  exact .mk _ (fun _ => rfl) (Nat.zero_le _) (Nat.zero_le _) (Nat.zero_le _) (by simp [aF.cases]) (by simp [aF.body]) (by simp [aF.dO]) (by simp [aF.cases])
def Db (vv : V) (k : Nat) : Prop := ∃ n cap, vv = .bx k n cap
def Dc (c : Nat) (vv : V) (n : Nat) (B B' : List (List V)) : Prop :=
 B.length ≤ B'.length ∧ ∀ k, k < B.length → k ≠ c → B'[k]? = B[k]? ∨ (Db vv k ∧ ∃ X Y, B[k]? = some X ∧ B'[k]? = some Y ∧ Y.length = X.length ∧ Y.take (n * 4) = X.take (n * 4))
theorem Dc.refl (c : Nat) (vv : V) (n : Nat) (B : List (List V)) : Dc c vv n B B := ⟨Nat.le_refl _, fun _ _ _ => .inl rfl⟩
theorem Dc.more (c : Nat) (vv : V) (n : Nat) (B J : List (List V)) : Dc c vv n B (B ++ J) := ⟨by simp, fun k hk _ => .inl (ai hk)⟩
theorem Dc.same {c : Nat} {vv : V} {n : Nat} {B B' : List (List V)} (h : Dc c vv n B B') {k : Nat} (hk : k < B.length) (hc : k ≠ c) (hv : ¬ Db vv k) : B'[k]? = B[k]? := by
 rcases h.2 k hk hc with e | ⟨e, _⟩
 ·exact e
 ·exact absurd e hv
theorem Dc.trans {c : Nat} {vv vv1 : V} {n n1 : Nat} {B B1 B2 : List (List V)} (h : Dc c vv n B B1) (h1 : Dc c vv1 n1 B1 B2) (hn : n ≤ n1) (hv : ∀ k, k < B.length → Db vv1 k → Db vv k) : Dc c vv n B B2 := by
 refine ⟨Nat.le_trans h.1 h1.1, fun k hk hc => ?_⟩
 have R1 : k < B1.length := Nat.lt_of_lt_of_le hk h.1
 rcases h1.2 k R1 hc with e1 | ⟨v1, X1, Y1, g1, g2, g3, g4⟩
 ·rcases h.2 k hk hc with e | ⟨v, X, Y, f1, f2, f3, f4⟩
  ·exact .inl (e1.trans e)
  ·exact .inr ⟨v, X, Y, f1, by rw [e1]; exact f2, f3, f4⟩
 ·have hvk := hv k hk v1
  have hle : n * 4 ≤ n1 * 4 := Nat.mul_le_mul_right 4 hn
  have g5 : Y1.take (n * 4) = X1.take (n * 4) := by
   have := congrArg (List.take (n * 4)) g4
   rwa [List.take_take, List.take_take, Nat.min_eq_left hle] at this
  rcases h.2 k hk hc with e | ⟨v, X, Y, f1, f2, f3, f4⟩
  ·exact .inr ⟨hvk, X1, Y1, by rw [← e]; exact g1, g2, g3, g5⟩
  ·rw [f2] at g1
   obtain rfl := Option.some.inj g1
   exact .inr ⟨hvk, X, Y1, f1, g2, g3.trans f3, g5.trans f4⟩
theorem Dc.less {c : Nat} {vv : V} {n : Nat} {B J B' : List (List V)} (h : Dc c vv n (B ++ J) B') : Dc c vv n B B' :=
 (Dc.more c vv n B J).trans h (Nat.le_refl _) fun _ _ h => h
theorem iF.dZ {c : Nat} {vv : V} {vs : List bI} {B B' : List (List V)} (h : iF B c vv vs) (hg : Dc c vv vs.length B B') : iF B' c vv vs := by
 rcases h with h | ⟨i, cap, J, rfl, h2, h3, h4, h5, h6⟩
 ·exact .inl h
 ·have au := (List.getElem?_eq_some_iff.1 h3).1
  have xk := qu vs
  rcases hg.2 i au h2 with e | ⟨_, X, Y, f1, f2, f3, f4⟩
  ·exact .inr ⟨i, cap, J, rfl, h2, by rw [e]; exact h3, h4, h5, h6⟩
  ·rw [h3] at f1
   obtain rfl := Option.some.inj f1
   refine .inr ⟨i, cap, Y.drop (vs.length * 4), rfl, h2, ?_, ?_, h5, h6⟩
   ·have Te : ((vs.map gI).flatten.map V.d).length = vs.length * 4 := by rw [List.length_map, xk]
    generalize (vs.map gI).flatten.map V.d = G at f3 f4 Te
    have e : (G ++ J).take (vs.length * 4) = G := by rw [List.take_append_of_le_length (by omega), List.take_of_length_le (by omega)]
    rw [e] at f4
    rw [f2]
    conv => lhs; rw [← List.take_append_drop (vs.length * 4) Y, f4]
   ·have hl : ((vs.map gI).flatten.map V.d ++ J).length = vs.length * 4 + J.length := by rw [List.length_append, List.length_map, xk]
    rw [List.length_drop, f3, hl, h4]; omega
theorem iF.lt {c : Nat} {vv : V} {vs : List bI} {B : List (List V)} (h : iF B c vv vs) {k : Nat} (hk : Db vv k) : k < B.length ∧ k ≠ c := by
 obtain ⟨n, cap, rfl⟩ := hk
 rcases h with ⟨_, h⟩ | ⟨i, cj, J, e, h2, h3, _⟩
 ·cases h
 ·obtain ⟨rfl, _, _⟩ := V.bx.inj e
  exact ⟨(List.getElem?_eq_some_iff.1 h3).1, h2⟩
structure Jb (B : List (List V)) (c : Nat) (su : List cM) (fu : List cR) (vv : V) (res : List az) (vs : List bI) (m : Nat) : Prop where
 lt : c < B.length
 bx : B[c]? = some (RF su fu vv res)
 var : iF B c vv vs
 Y5 : vs.length + m ≤ 100000000
 tw : ∀ p ∈ vs, TW p.type
theorem Jb.at {B : List (List V)} {c : Nat} {su : List cM} {fu : List cR} {vv : V} {res : List az} {vs : List bI} {m : Nat} (h : Jb B c su fu vv res vs m) : WD B c ⟨su, fu, vs⟩ res := ⟨h.lt, vv, h.bx, h.var⟩
theorem Jb.more {B J : List (List V)} {c : Nat} {su : List cM} {fu : List cR} {vv : V} {res : List az} {vs : List bI} {m : Nat} (h : Jb B c su fu vv res vs m) : Jb (B ++ J) c su fu vv res vs m := ⟨by rw [List.length_append]; exact Nat.lt_of_lt_of_le h.lt (Nat.le_add_right _ _), by rw [ai h.lt]; exact h.bx, h.var.more, h.Y5, h.tw⟩
theorem aD.tS {P : Program} {I : Inv} {fn : FuncId} {f : Func} {body : Code} {args : List V} {S : Mem} {R : V → Mem → Prop} (n : Nat) (hf : P.funcs[fn]? = some f) (hb : f.body = some body) (nT : (f.name == "runtime.NumGoroutine") = false) (hn : f.ntmps = n) (hl : args.length ≤ n)
 (h : af P I (S.boxes.length, S.aL.length) fn [.code body] (bu n (fY 0 args)) S R) : aD P I fn args S R :=
 aD.enter hf hb nT (by rw [hn, xU n args hl]; exact h)
theorem iF.can {B : List (List V)} {c : Nat} {vv : V} {vs : List bI} (h : iF B c vv vs) (hn : vs.length ≤ 1000000000) : Q7 4 B vv := by
 rcases h with ⟨rfl, rfl⟩ | ⟨i, cap, J, rfl, h2, h3, h4, h5, h6⟩
 ·trivial
 ·refine ⟨_, h3, ?_, hn⟩
  rw [List.length_append, List.length_map, qu, h4, ← Nat.add_mul]
  congr 1
  omega
theorem Dd (vs : List bI) (p : bI) : ((vs ++ [p]).map gI).flatten.map V.d = (vs.map gI).flatten.map V.d ++ (gI p).map V.d := by simp
theorem Ny.vars {B : List (List V)} {T : List (Nat × Nat)} {c : Nat} {vv v : V} {vs : List bI} {p : bI} {S' : Mem} (h : iF B c vv vs) (hc : c < B.length) (hn : vs.length ≤ 1000000000) (hA : Ny 4 B T vv (gI p) v S') :
 ∃ BB, S' = ⟨BB, T⟩ ∧ Dc c vv vs.length B BB ∧ BB[c]? = B[c]? ∧ iF BB c v (vs ++ [p]) ∧ (∀ k, k < B.length → Db v k → Db vv k) ∧ fy v = some [v] := by
 have Og : (gI p).length = 4 := rfl
 have xk := qu vs
 rcases h with ⟨rfl, rfl⟩ | ⟨i, cap, J, rfl, h2, h3, h4, h5, h6⟩
 ·obtain ⟨cj, k1, k2, rfl, rfl⟩ := hA
  refine ⟨_, rfl, .more _ _ _ _ _, ai hc, .inr ⟨B.length, cj, List.replicate ((cj - 1) * 4) .undef, rfl, by omega, ?_, by simp, by simpa using k1, by simp⟩, ?_, rfl⟩
  ·rw [List.getElem?_append_right (Nat.le_refl _), Nat.sub_self]
   simp
  ·rintro k hk ⟨n, cap, e⟩
   obtain ⟨e, _, _⟩ := V.bx.inj e
   omega
 ·obtain ⟨X, hX, hA⟩ := hA
  rw [h3] at hX
  obtain rfl := Option.some.inj hX
  have au := (List.getElem?_eq_some_iff.1 h3).1
  have Te : ((vs.map gI).flatten.map V.d).length = vs.length * 4 := by rw [List.length_map, xk]
  have De := Dd vs p
  generalize hG : (vs.map gI).flatten.map V.d = G at h3 Te De hA
  have WV : (G ++ J).take (vs.length * 4) = G := by rw [List.take_append_of_le_length (by omega), List.take_of_length_le (by omega)]
  have GY : (G ++ J).drop (vs.length * 4 + 4) = J.drop 4 := by
   rw [List.drop_append, List.drop_of_length_le (by omega), List.nil_append]
   congr 1
   omega
  rw [WV] at hA
  rcases hA with ⟨nK, rfl, rfl⟩ | ⟨cj, k1, k2, rfl, rfl⟩
  ·rw [GY]
   have hJ4 : 4 ≤ J.length := by rw [h4]; omega
   refine ⟨_, rfl, ⟨by simp, fun k hk hkc => ?_⟩, by rw [List.getElem?_set_ne h2], .inr ⟨i, cap, J.drop 4, by rw [List.length_append]; rfl, h2, ?_, ?_, by rw [List.length_append]; exact nK, by rw [List.length_append, List.length_singleton]; omega⟩, ?_, rfl⟩
   ·by_cases e : k = i
    ·subst e
     refine .inr ⟨⟨_, _, rfl⟩, _, _, h3, List.getElem?_set_self hk, ?_, ?_⟩
     ·simp only [List.length_append, List.length_map, Og, List.length_drop]; omega
     ·rw [WV, List.append_assoc, List.take_append_of_le_length (by omega), List.take_of_length_le (by omega)]
    ·exact .inl (List.getElem?_set_ne fun h => e h.symm)
   ·rw [List.getElem?_set_self au, De]
   ·rw [List.length_drop, h4, List.length_append, List.length_singleton]
    omega
   ·rintro k hk ⟨n, zF, e⟩
    obtain ⟨rfl, _, _⟩ := V.bx.inj e
    exact ⟨_, _, rfl⟩
  ·refine ⟨_, rfl, .more _ _ _ _ _, ai hc, .inr ⟨B.length, cj, List.replicate ((cj - (vs.length + 1)) * 4) .undef, by rw [List.length_append]; rfl, by omega, ?_, ?_, by rw [List.length_append]; exact k1, by rw [List.length_append, List.length_singleton]; omega⟩, ?_, rfl⟩
   ·rw [List.getElem?_append_right (Nat.le_refl _), Nat.sub_self, De]
    rfl
   ·rw [List.length_replicate, List.length_append, List.length_singleton]
   ·rintro k hk ⟨n, zF, e⟩
    obtain ⟨e, _, _⟩ := V.bx.inj e
    omega
theorem Jb.dZ {B B' : List (List V)} {c : Nat} {su : List cM} {fu : List cR} {vv : V} {res : List az} {vs : List bI} {m : Nat} (h : Jb B c su fu vv res vs m) (hg : Dc c vv vs.length B B') (hb : B'[c]? = some (RF su fu vv res)) : Jb B' c su fu vv res vs m :=
 ⟨Nat.lt_of_lt_of_le h.lt hg.1, hb, h.var.dZ hg, h.Y5, h.tw⟩
theorem Jb.less {B : List (List V)} {c : Nat} {su : List cM} {fu : List cR} {vv : V} {res : List az} {vs : List bI} {m m' : Nat} (h : Jb B c su fu vv res vs m) (hm : m' ≤ m) : Jb B c su fu vv res vs m' := ⟨h.lt, h.bx, h.var, by have := h.Y5; omega, h.tw⟩
theorem Jb.nb {B : List (List V)} {c : Nat} {su : List cM} {fu : List cR} {vv : V} {res : List az} {vs : List bI} {m : Nat} (h : Jb B c su fu vv res vs m) {k : Nat} (hk : B.length ≤ k) : ¬ Db vv k := fun e => by have := (h.var.lt e).1; omega
section
variable {su : List cM} {fu : List cR} {res : List az}
end
def Df (su : List cM) (m : List UInt8) : List bI := match fD cM.name su m with
 | some s => s.fields
 | none => []
section
variable {c : Nat} {B : List (List V)} {T : List (Nat × Nat)} {su : List cM} {fu : List cR} {vv : V} {res : List az}
end
def p8 : List (List UInt8) → List (List UInt8) → Bool
 | _, [] => true
 | b, x :: l => !b.contains x && !(x == [95]) && p8 (b ++ [x]) l
theorem Jc (b : List (List UInt8)) : p8 b [] = true := rfl
theorem wD (b : List (List UInt8)) (x : List UInt8) (l : List (List UInt8)) : p8 b (x :: l) = (!b.contains x && !(x == [95]) && p8 (b ++ [x]) l) := rfl
def Dg (su : List cM) (fu : List cR) (f : cR) : Bool := f.params.all (fun p => bP su p.type && gV su fu p.name) && f.results.all (bP su)
section
variable {c : Nat} {B : List (List V)} {T : List (Nat × Nat)} {su : List cM} {fu : List cR} {vv : V} {res : List az}
end
end Go.Proofs.YtnfnbjjnjjdjdaaGreatDoor
namespace Go.Ab
open Go.RowKit Go.Av
set_option linter.unusedSimpArgs false
theorem pO.L4 {P : Program} {I : Inv} {env : List V} {o : Oper} {S : Mem} {so xo : Operand} {ts us e : TypeId} {ti te ui : tc} {x : V} (ho : o.op = .call ⟨.builtin .append, #[so, xo], #[ts, us]⟩)
 (jF : bB P ts = some ti) (he : ti.d = .slice e) (mZ : bB P e = some te) (J7 : bB P us = some ui) (JA : ∃ k, ui.d = .slice k) (Ec : ah I env so = .sl [] .full) (hex : ah I env xo = x) (hd : mE x = some (.sl [])) :
 pO P I o env S fun v S' => v = .sl [] .full ∧ S' = S := by
 intro c w ev h1 h2 h3
 have nF : ∀ y, y = so ∨ y = xo → y ∈ o.op.operands := by
  intro y hy
  rw [ho]
  simp only [Op.operands, Call.operands]
  rcases hy with rfl | rfl <;> simp
 have hA := h3 so (nF so (.inl rfl))
 have hX := h3 xo (nF xo (.inr rfl))
 rw [Ec] at hA
 rw [hex] at hX
 obtain ⟨fi, d, z, a1, a2, a3, a4, a5, a6, _⟩ := aE jF
 obtain ⟨gi, d2, z2, g1, g2, g3, g4, g5, g6, g7, g8, g9, Sw⟩ := aE mZ
 obtain ⟨VY, d3, z3, u1, u2, u3, u4, u5, u6, _⟩ := aE J7
 rw [he] at a6
 obtain rfl := bN a6
 obtain ⟨ke, TS⟩ := JA
 rw [TS] at u6
 obtain rfl := bN u6
 have Ty : xd P ts e te.size te.bytes := ⟨a2, gi, z2, g1, g3, g4, g5, g8⟩
 have hD := fL hX hd
 have mw : ∃ a n cap, ev xo = .slice a n cap := by
  generalize ev xo = X at hD
  cases hD; exact ⟨_, _, _, rfl⟩
 obtain ⟨a, n, cap, Vk⟩ := mw
 rw [Vk] at hD
 obtain ⟨hn, _, _, F, hF, _⟩ := hD.flat te.size (by simp)
 have hn : n = 0 := hn
 subst hn
 have fT := fun W hW => jZ (P := P) (sz := te.size) (cap := cap) (a := a) (rows := []) (n := 0) rfl hF W hW
 generalize TV : ev so = A at hA
 have hA' := hA
 cases hA with
 | full _ a' GY ha =>
  have aX := qL (P := P) (w := w) (ty := o.type) Ty ⟨_, u2, by simp⟩ a' 0 0 (Nat.le_refl _) (.slice a 0 cap) (fun W => by simp [Builtin.lenOf]) (fun W hW => by simpa using fT W hW)
  refine ⟨.slice a' 0 0, w, c, .sl [] .full, S, ?_, ⟨rfl, rfl⟩, h1, .refl _ _, hA'⟩
  simp only [List.length_nil] at TV
  simp [execOp, ho, resolve, invoke, builtin, TV, Vk, aX]
end Go.Ab
namespace Go.Ab
open Go.RowKit Go.Av
set_option linter.unusedSimpArgs false
theorem uo {P : Program} {w : World} (d : Nat) (t e : TypeId) (h : P.underlying t = some (.slice e)) (a : Option Addr) (n cap : Nat) : (Op.equalIn (d + 1) t (.slice a n cap) (.slice none 0 0)).run P w = .ok a.isNone w := by
 cases a <;> simp [Op.equalIn, run_underlying h]
theorem af.Dh {P : Program} {I : Inv} {ops : Array Oper} {z : Nat × Nat} {fn : FuncId} {k : List Item} {R : V → Mem → Prop} {i : Nat} {rest : List Nat} {o : Oper} {env : List V} {S : Mem} {so : Operand} {t e rt : TypeId} {ti : tc} {x : V} {rows : List (List D)} {sz : Nat} (xl : ops[i]? = some o) (hw : dW env ops o) (ho : o.op = .binOp .eql t so (.const (.slice none 0 0)) rt)
 (jF : bB P t = some ti) (he : ti.d = .slice e) (hex : ah I env so = x) (hd : mE x = some (.sl rows)) (hr : ∀ r ∈ rows, r.length = sz)
 (hk : ∀ b, (rows ≠ [] → b = false) → af P I z fn (.inRegion ops rest :: k) (aK env o.dst (.d (.bool b))) S R) : af P I z fn (.inRegion ops (i :: rest) :: k) env S R := by
 intro b a c w c0 w0 h1 h2 h3 h4 h5 h6 hI
 have hX := cl.eval h5 h4 so
 rw [hI.1, hex] at hX
 obtain ⟨fi, d, zz, a1, a2, a3, a4, a5, a6, _⟩ := aE jF
 rw [he] at a6
 obtain rfl := bN a6
 have hD := fL hX hd
 have mw : ∃ a' n cap, a.eval so = .slice a' n cap := by
  generalize a.eval so = X at hD
  cases hD; exact ⟨_, _, _, rfl⟩
 obtain ⟨a', n, cap, Vk⟩ := mw
 rw [Vk] at hD
 obtain ⟨hn, _, _, F, hF, _⟩ := hD.flat sz hr
 have aX : (execOp a.eval o).run P w = .ok (.value (.bool a'.isNone)) w := by
  rw [execOp, ho]
  show (do let r ← (do eqGuard .eql t so (.const (.slice none 0 0)) (a.eval so) (a.eval (.const (.slice none 0 0))); binOp .eql t (a.eval so) (a.eval (.const (.slice none 0 0)))); pure (Next.value r) : Sem Next).run P w = _
  have hc : a.eval (.const (.slice none 0 0)) = .slice none 0 0 := rfl
  rw [Vk, hc]
  have hg : (eqGuard .eql t so (.const (.slice none 0 0)) (.slice a' n cap) (.slice none 0 0)).run P w = .ok () w := rfl
  have hq : (Op.equal t (.slice a' n cap) (.slice none 0 0)).run P w = .ok a'.isNone w := uo 9999 t e a2 a' n cap
  have hb : (binOp .eql t (.slice a' n cap) (.slice none 0 0)) = (do pure (.bool (← Op.equal t (.slice a' n cap) (.slice none 0 0)))) := rfl
  simp only [Sem.run_bind, hg, hb, hq, Result.andThen_ok, Sem.run_pure]
 have Dy := hk a'.isNone fun bV => by
  obtain ⟨_, g, off, rfl, _⟩ := hF bV
  rfl
 have hg := fun cs => stepG_op (P := P) (b := b) (k := k) (cs := cs) (w := w) (rest := rest) xl (qP h4 hw)
 have hs : ∀ cs, Go.step P (lone (b.at a (.inRegion ops (i :: rest) :: k)) cs w) = .next (lone (b.at (a.put o.dst (.bool a'.isNone)) (.inRegion ops rest :: k)) cs w) := by
  intro cs
  refine step_lone_go ?_
  have gJ : (b.at a (.inRegion ops (i :: rest) :: k)).finish (.bool a'.isNone) = b.at (a.put o.dst (.bool a'.isNone)) (.inRegion ops rest :: k) := by rw [Frame.finish_at, xl]; rfl
  rw [hg cs, ← gJ]
  simp [stepG.apply, aX]
 refine xh.step hs (Dy b (a.put o.dst (.bool a'.isNone)) c w c0 w0 h1 h2 ?_ ?_ h5 h6 hI)
 ·cases o.dst <;> simpa [Act.put] using h3
 ·exact h4.put o.dst (.d _ _ (.bool _))
def GH : V → V
 | .sl rows .full => .d (.sl rows)
 | v => v
theorem aD.flat {P : Program} {I : Inv} {f : FuncId} {args : List V} {S : Mem} {R : V → Mem → Prop} (h : aD P I f args S fun v S' => R (GH v) S') : aD P I f args S R := by
 refine ⟨h.1, fun c w xs h1 h2 h3 hI cs => ?_⟩
 obtain ⟨e, w', fr, ⟨v, x, S', c', a1, a2, a3, a4, a5⟩, h⟩ := h.2 c w xs h1 h2 h3 hI cs
 refine ⟨e, w', fr, ⟨GH v, x, S', c', a1, a2, a3, a4, ?_⟩, h⟩
 unfold GH
 split
 ·exact .d _ _ (fL a5 rfl)
 ·exact a5
theorem Ks.flat {sz : Nat} {B : List (List V)} {T : List (Nat × Nat)} {rows : List (List D)} {v : V} {S' : Mem} (h : Ks sz B T rows v S') : Ks sz B T rows (GH v) S' := by
 obtain ⟨cap, h1, h2, rfl, h3⟩ := h
 exact ⟨cap, h1, h2, rfl, h3⟩
end Go.Ab
namespace Go.Proofs.YtnfnbjjnjjdjdaaGreatDoor
open Go.RowKit Go.Av Go.Ab
set_option linter.unusedSimpArgs false
set_option maxRecDepth 100000
set_option linter.defProp false
def L5 := by
 have c := aN Tryz.f108 (by conv => lhs; cbv)
 dsimp only [KK, fj, eR, eS, List.map_cons, List.map_nil, List.toList_toArray] at c
 exact c
def Vl := by
 have c := aN Tryz.f72 (by conv => lhs; cbv)
 dsimp only [KK, fj, eR, eS, List.map_cons, List.map_nil, List.toList_toArray] at c
 exact c
def Vm := by
 have c := aN Tryz.f74 (by conv => lhs; cbv)
 dsimp only [KK, fj, eR, eS, List.map_cons, List.map_nil, List.toList_toArray] at c
 exact c
def Vn := by
 have c := aN Tryz.f24 (by conv => lhs; cbv)
 dsimp only [KK, fj, eR, eS, List.map_cons, List.map_nil, List.toList_toArray] at c
 exact c
def Vo := by
 have c := aN Tryz.f25 (by conv => lhs; cbv)
 dsimp only [KK, fj, eR, eS, List.map_cons, List.map_nil, List.toList_toArray] at c
 exact c
theorem L6 {P : Program} {e : TypeId} {n : Nat} (h : (match bB P e with
 | some te => Nat.beq te.size n && Nat.ble te.bytes 100000
 | none => false) = true) : ∃ te, bB P e = some te ∧ te.size = n ∧ te.bytes ≤ 100000 := by
 split at h
 ·rename_i te ht
  obtain ⟨h1, h2⟩ := Bool.and_eq_true_iff.1 h
  exact ⟨te, ht, Nat.eq_of_beq_eq_true h1, Nat.le_of_ble_eq_true h2⟩
 ·cases h
def jn (sz : Nat) (rows : List (List D)) (B : List (List V)) (T : List (Nat × Nat)) (v : V) (S' : Mem) : Prop :=
 (rows = [] ∧ v = .d (.sl []) ∧ S' = ⟨B, T⟩) ∨ (rows ≠ [] ∧ Ks sz B T rows v S')
theorem Fk (rows : List (List D)) (hr : ∀ r ∈ rows, r.length = 8) (hl : rows.length ≤ 1000000000) (B : List (List V)) (T : List (Nat × Nat)) : aD Tryz.prog av 108 [.d (.sl rows)] ⟨B, T⟩ (jn 8 rows B T) := by
 obtain ⟨te, t1, t2, t3⟩ := L6 (P := Tryz.prog) (e := 50) (n := 8) (by kernel_rfl)
 have hs : bB Tryz.prog 48 = some ⟨.slice 50, 1, 24, false, [.sl [] .full]⟩ := by kernel_rfl
 refine aD.flat (aD.tS (body := (kF Tryz.f108 0)) 8 Tryz.func108 (by kernel_rfl) (by kernel_rfl) (by kernel_rfl) (Nat.le_of_ble_eq_true rfl) ?_)
 refine af.go 8 ?_
 simp only [W, seval, L5]
 refine af.Dh (ops := opsOf (kF Tryz.f108 4)) (i := 1) (o := bD (opsOf (kF Tryz.f108 4)) 1) (by kernel_rfl) (.inl (by kernel_rfl)) (so := .tmp 3) (rt := 48) (by kernel_rfl) hs rfl (by rfl) rfl hr ?_
 intro b hb
 have O5 : (bD (opsOf (kF Tryz.f108 4)) 1).dst = some 4 := by kernel_rfl
 rw [O5]
 cases b
 case true =>
  have bV : rows = [] := by
   rcases rows with _ | ⟨r, l⟩
   ·rfl
   ·exact absurd (hb (by simp)) (by simp)
  refine af.go 30 ?_
  simp only [W, seval, L5]
  refine af.ret Tryz.func108 rfl (.inl ⟨bV, rfl, rfl⟩)
 clear hb
 refine af.go 7 ?_
 simp only [W, seval, L5]
 have GI : (bD (opsOf (kF Tryz.f108 11)) 2).dst = some 7 := by kernel_rfl
 by_cases bV : rows = []
 ·subst bV
  refine pO.step (ops := opsOf (kF Tryz.f108 11)) (i := 2) (o := bD (opsOf (kF Tryz.f108 11)) 2) (by kernel_rfl) (.inl (by kernel_rfl)) (pO.L4 (so := .tmp 5) (xo := .tmp 6) (by kernel_rfl) hs rfl t1 hs ⟨_, rfl⟩ (by rfl) (by rfl) rfl) ?_
  rintro _ _ ⟨rfl, rfl⟩
  rw [GI]
  refine af.go 20 ?_
  simp only [W, seval, L5]
  refine af.ret Tryz.func108 rfl (.inl ⟨rfl, rfl, rfl⟩)
 refine pO.step (ops := opsOf (kF Tryz.f108 11)) (i := 2) (o := bD (opsOf (kF Tryz.f108 11)) 2) (by kernel_rfl) (.inl (by kernel_rfl)) (pO.Kt (so := .tmp 5) (xo := .tmp 6) (by kernel_rfl) hs rfl t1 hs ⟨_, rfl⟩ (by rw [t2]; decide) (by rfl) (by rfl) bV rfl (by rw [t2]; exact hr) t3 hl) ?_
 intro v S' hv
 rw [t2] at hv
 rw [GI]
 refine af.go 20 ?_
 simp only [W, seval, L5]
 refine af.ret Tryz.func108 rfl (.inr ⟨bV, hv.flat⟩)
theorem Fl (rows : List (List D)) (hr : ∀ r ∈ rows, r.length = 10) (hl : rows.length ≤ 1000000000) (B : List (List V)) (T : List (Nat × Nat)) : aD Tryz.prog av 72 [.d (.sl rows)] ⟨B, T⟩ (jn 10 rows B T) := by
 obtain ⟨te, t1, t2, t3⟩ := L6 (P := Tryz.prog) (e := 53) (n := 10) (by kernel_rfl)
 have hs : bB Tryz.prog 39 = some ⟨.slice 53, 1, 24, false, [.sl [] .full]⟩ := by kernel_rfl
 refine aD.flat (aD.tS (body := (kF Tryz.f72 0)) 8 Tryz.func72 (by kernel_rfl) (by kernel_rfl) (by kernel_rfl) (Nat.le_of_ble_eq_true rfl) ?_)
 refine af.go 8 ?_
 simp only [W, seval, Vl]
 refine af.Dh (ops := opsOf (kF Tryz.f72 4)) (i := 1) (o := bD (opsOf (kF Tryz.f72 4)) 1) (by kernel_rfl) (.inl (by kernel_rfl)) (so := .tmp 3) (rt := 39) (by kernel_rfl) hs rfl (by rfl) rfl hr ?_
 intro b hb
 have O5 : (bD (opsOf (kF Tryz.f72 4)) 1).dst = some 4 := by kernel_rfl
 rw [O5]
 cases b
 case true =>
  have bV : rows = [] := by
   rcases rows with _ | ⟨r, l⟩
   ·rfl
   ·exact absurd (hb (by simp)) (by simp)
  refine af.go 30 ?_
  simp only [W, seval, Vl]
  refine af.ret Tryz.func72 rfl (.inl ⟨bV, rfl, rfl⟩)
 clear hb
 refine af.go 7 ?_
 simp only [W, seval, Vl]
 have GI : (bD (opsOf (kF Tryz.f72 11)) 2).dst = some 7 := by kernel_rfl
 by_cases bV : rows = []
 ·subst bV
  refine pO.step (ops := opsOf (kF Tryz.f72 11)) (i := 2) (o := bD (opsOf (kF Tryz.f72 11)) 2) (by kernel_rfl) (.inl (by kernel_rfl)) (pO.L4 (so := .tmp 5) (xo := .tmp 6) (by kernel_rfl) hs rfl t1 hs ⟨_, rfl⟩ (by rfl) (by rfl) rfl) ?_
  rintro _ _ ⟨rfl, rfl⟩
  rw [GI]
  refine af.go 20 ?_
  simp only [W, seval, Vl]
  refine af.ret Tryz.func72 rfl (.inl ⟨rfl, rfl, rfl⟩)
 refine pO.step (ops := opsOf (kF Tryz.f72 11)) (i := 2) (o := bD (opsOf (kF Tryz.f72 11)) 2) (by kernel_rfl) (.inl (by kernel_rfl)) (pO.Kt (so := .tmp 5) (xo := .tmp 6) (by kernel_rfl) hs rfl t1 hs ⟨_, rfl⟩ (by rw [t2]; decide) (by rfl) (by rfl) bV rfl (by rw [t2]; exact hr) t3 hl) ?_
 intro v S' hv
 rw [t2] at hv
 rw [GI]
 refine af.go 20 ?_
 simp only [W, seval, Vl]
 refine af.ret Tryz.func72 rfl (.inr ⟨bV, hv.flat⟩)
theorem Fm (rows : List (List D)) (hr : ∀ r ∈ rows, r.length = 2) (hl : rows.length ≤ 1000000000) (B : List (List V)) (T : List (Nat × Nat)) : aD Tryz.prog av 74 [.d (.sl rows)] ⟨B, T⟩ (jn 2 rows B T) := by
 obtain ⟨te, t1, t2, t3⟩ := L6 (P := Tryz.prog) (e := 96) (n := 2) (by kernel_rfl)
 have hs : bB Tryz.prog 51 = some ⟨.slice 96, 1, 24, false, [.sl [] .full]⟩ := by kernel_rfl
 refine aD.flat (aD.tS (body := (kF Tryz.f74 0)) 8 Tryz.func74 (by kernel_rfl) (by kernel_rfl) (by kernel_rfl) (Nat.le_of_ble_eq_true rfl) ?_)
 refine af.go 8 ?_
 simp only [W, seval, Vm]
 refine af.Dh (ops := opsOf (kF Tryz.f74 4)) (i := 1) (o := bD (opsOf (kF Tryz.f74 4)) 1) (by kernel_rfl) (.inl (by kernel_rfl)) (so := .tmp 3) (rt := 51) (by kernel_rfl) hs rfl (by rfl) rfl hr ?_
 intro b hb
 have O5 : (bD (opsOf (kF Tryz.f74 4)) 1).dst = some 4 := by kernel_rfl
 rw [O5]
 cases b
 case true =>
  have bV : rows = [] := by
   rcases rows with _ | ⟨r, l⟩
   ·rfl
   ·exact absurd (hb (by simp)) (by simp)
  refine af.go 30 ?_
  simp only [W, seval, Vm]
  refine af.ret Tryz.func74 rfl (.inl ⟨bV, rfl, rfl⟩)
 clear hb
 refine af.go 7 ?_
 simp only [W, seval, Vm]
 have GI : (bD (opsOf (kF Tryz.f74 11)) 2).dst = some 7 := by kernel_rfl
 by_cases bV : rows = []
 ·subst bV
  refine pO.step (ops := opsOf (kF Tryz.f74 11)) (i := 2) (o := bD (opsOf (kF Tryz.f74 11)) 2) (by kernel_rfl) (.inl (by kernel_rfl)) (pO.L4 (so := .tmp 5) (xo := .tmp 6) (by kernel_rfl) hs rfl t1 hs ⟨_, rfl⟩ (by rfl) (by rfl) rfl) ?_
  rintro _ _ ⟨rfl, rfl⟩
  rw [GI]
  refine af.go 20 ?_
  simp only [W, seval, Vm]
  refine af.ret Tryz.func74 rfl (.inl ⟨rfl, rfl, rfl⟩)
 refine pO.step (ops := opsOf (kF Tryz.f74 11)) (i := 2) (o := bD (opsOf (kF Tryz.f74 11)) 2) (by kernel_rfl) (.inl (by kernel_rfl)) (pO.Kt (so := .tmp 5) (xo := .tmp 6) (by kernel_rfl) hs rfl t1 hs ⟨_, rfl⟩ (by rw [t2]; decide) (by rfl) (by rfl) bV rfl (by rw [t2]; exact hr) t3 hl) ?_
 intro v S' hv
 rw [t2] at hv
 rw [GI]
 refine af.go 20 ?_
 simp only [W, seval, Vm]
 refine af.ret Tryz.func74 rfl (.inr ⟨bV, hv.flat⟩)
theorem Aq (rows : List (List D)) (hr : ∀ r ∈ rows, r.length = 2) (hl : rows.length ≤ 1000000000) (B : List (List V)) (T : List (Nat × Nat)) : aD Tryz.prog av 24 [.d (.sl rows)] ⟨B, T⟩ (jn 2 rows B T) := by
 obtain ⟨te, t1, t2, t3⟩ := L6 (P := Tryz.prog) (e := 67) (n := 2) (by kernel_rfl)
 have hs : bB Tryz.prog 22 = some ⟨.slice 67, 1, 24, false, [.sl [] .full]⟩ := by kernel_rfl
 refine aD.flat (aD.tS (body := (kF Tryz.f24 0)) 8 Tryz.func24 (by kernel_rfl) (by kernel_rfl) (by kernel_rfl) (Nat.le_of_ble_eq_true rfl) ?_)
 refine af.go 8 ?_
 simp only [W, seval, Vn]
 refine af.Dh (ops := opsOf (kF Tryz.f24 4)) (i := 1) (o := bD (opsOf (kF Tryz.f24 4)) 1) (by kernel_rfl) (.inl (by kernel_rfl)) (so := .tmp 3) (rt := 22) (by kernel_rfl) hs rfl (by rfl) rfl hr ?_
 intro b hb
 have O5 : (bD (opsOf (kF Tryz.f24 4)) 1).dst = some 4 := by kernel_rfl
 rw [O5]
 cases b
 case true =>
  have bV : rows = [] := by
   rcases rows with _ | ⟨r, l⟩
   ·rfl
   ·exact absurd (hb (by simp)) (by simp)
  refine af.go 30 ?_
  simp only [W, seval, Vn]
  refine af.ret Tryz.func24 rfl (.inl ⟨bV, rfl, rfl⟩)
 clear hb
 refine af.go 7 ?_
 simp only [W, seval, Vn]
 have GI : (bD (opsOf (kF Tryz.f24 11)) 2).dst = some 7 := by kernel_rfl
 by_cases bV : rows = []
 ·subst bV
  refine pO.step (ops := opsOf (kF Tryz.f24 11)) (i := 2) (o := bD (opsOf (kF Tryz.f24 11)) 2) (by kernel_rfl) (.inl (by kernel_rfl)) (pO.L4 (so := .tmp 5) (xo := .tmp 6) (by kernel_rfl) hs rfl t1 hs ⟨_, rfl⟩ (by rfl) (by rfl) rfl) ?_
  rintro _ _ ⟨rfl, rfl⟩
  rw [GI]
  refine af.go 20 ?_
  simp only [W, seval, Vn]
  refine af.ret Tryz.func24 rfl (.inl ⟨rfl, rfl, rfl⟩)
 refine pO.step (ops := opsOf (kF Tryz.f24 11)) (i := 2) (o := bD (opsOf (kF Tryz.f24 11)) 2) (by kernel_rfl) (.inl (by kernel_rfl)) (pO.Kt (so := .tmp 5) (xo := .tmp 6) (by kernel_rfl) hs rfl t1 hs ⟨_, rfl⟩ (by rw [t2]; decide) (by rfl) (by rfl) bV rfl (by rw [t2]; exact hr) t3 hl) ?_
 intro v S' hv
 rw [t2] at hv
 rw [GI]
 refine af.go 20 ?_
 simp only [W, seval, Vn]
 refine af.ret Tryz.func24 rfl (.inr ⟨bV, hv.flat⟩)
theorem Fo (rows : List (List D)) (hr : ∀ r ∈ rows, r.length = 4) (hl : rows.length ≤ 1000000000) (B : List (List V)) (T : List (Nat × Nat)) : aD Tryz.prog av 25 [.d (.sl rows)] ⟨B, T⟩ (jn 4 rows B T) := by
 obtain ⟨te, t1, t2, t3⟩ := L6 (P := Tryz.prog) (e := 41) (n := 4) (by kernel_rfl)
 have hs : bB Tryz.prog 23 = some ⟨.slice 41, 1, 24, false, [.sl [] .full]⟩ := by kernel_rfl
 refine aD.flat (aD.tS (body := (kF Tryz.f25 0)) 8 Tryz.func25 (by kernel_rfl) (by kernel_rfl) (by kernel_rfl) (Nat.le_of_ble_eq_true rfl) ?_)
 refine af.go 8 ?_
 simp only [W, seval, Vo]
 refine af.Dh (ops := opsOf (kF Tryz.f25 4)) (i := 1) (o := bD (opsOf (kF Tryz.f25 4)) 1) (by kernel_rfl) (.inl (by kernel_rfl)) (so := .tmp 3) (rt := 23) (by kernel_rfl) hs rfl (by rfl) rfl hr ?_
 intro b hb
 have O5 : (bD (opsOf (kF Tryz.f25 4)) 1).dst = some 4 := by kernel_rfl
 rw [O5]
 cases b
 case true =>
  have bV : rows = [] := by
   rcases rows with _ | ⟨r, l⟩
   ·rfl
   ·exact absurd (hb (by simp)) (by simp)
  refine af.go 30 ?_
  simp only [W, seval, Vo]
  refine af.ret Tryz.func25 rfl (.inl ⟨bV, rfl, rfl⟩)
 clear hb
 refine af.go 7 ?_
 simp only [W, seval, Vo]
 have GI : (bD (opsOf (kF Tryz.f25 11)) 2).dst = some 7 := by kernel_rfl
 by_cases bV : rows = []
 ·subst bV
  refine pO.step (ops := opsOf (kF Tryz.f25 11)) (i := 2) (o := bD (opsOf (kF Tryz.f25 11)) 2) (by kernel_rfl) (.inl (by kernel_rfl)) (pO.L4 (so := .tmp 5) (xo := .tmp 6) (by kernel_rfl) hs rfl t1 hs ⟨_, rfl⟩ (by rfl) (by rfl) rfl) ?_
  rintro _ _ ⟨rfl, rfl⟩
  rw [GI]
  refine af.go 20 ?_
  simp only [W, seval, Vo]
  refine af.ret Tryz.func25 rfl (.inl ⟨rfl, rfl, rfl⟩)
 refine pO.step (ops := opsOf (kF Tryz.f25 11)) (i := 2) (o := bD (opsOf (kF Tryz.f25 11)) 2) (by kernel_rfl) (.inl (by kernel_rfl)) (pO.Kt (so := .tmp 5) (xo := .tmp 6) (by kernel_rfl) hs rfl t1 hs ⟨_, rfl⟩ (by rw [t2]; decide) (by rfl) (by rfl) bV rfl (by rw [t2]; exact hr) t3 hl) ?_
 intro v S' hv
 rw [t2] at hv
 rw [GI]
 refine af.go 20 ?_
 simp only [W, seval, Vo]
 refine af.ret Tryz.func25 rfl (.inr ⟨bV, hv.flat⟩)
end Go.Proofs.YtnfnbjjnjjdjdaaGreatDoor
namespace Go.Proofs.YtnfnbjjnjjdjdaaGreatDoor
open Go.RowKit Go.Av Go.Ab
set_option linter.unusedSimpArgs false
set_option maxRecDepth 100000
set_option linter.defProp false
def R7 := by
 have c := aN Tryz.f73 (by conv => lhs; cbv)
 dsimp only [KK, fj, eR, eS, List.map_cons, List.map_nil, List.toList_toArray] at c
 exact c
theorem bL.tail {α : Type} {sz : Nat} {f : α → Nat → Nat → List V → Prop} (C : List V) : ∀ {l : List α} {lo hi : Nat} {X : List V}, bL sz f l lo hi X → bL sz f l lo hi (X ++ C)
 | [], _, _, _, h => h
 | x :: l, lo, hi, X, ⟨r, X', m, h1, h2, h3, h4, h5, h6⟩ => ⟨r, X' ++ C, m, by rw [h1, List.append_assoc], h2, h3, h4, h5, h6.tail C⟩
theorem bL.snoc {α : Type} {sz : Nat} {f : α → Nat → Nat → List V → Prop} {x : α} {r : List V} {m hi : Nat} (hr : r.length = sz) (hm : m ≤ hi) (hf : ∀ a, a ≤ m → f x a hi r) : ∀ {l : List α} {lo : Nat} {X : List V}, bL sz f l lo m X → X.length = l.length * sz → bL sz f (l ++ [x]) lo hi (X ++ r)
 | [], lo, X, h, hX => by
  obtain rfl : X = [] := List.eq_nil_of_length_eq_zero (by simpa using hX)
  have h : lo ≤ m := h
  exact ⟨r, [], hi, by simp, hr, by omega, Nat.le_refl _, hf _ h, Nat.le_refl _⟩
 | y :: l, lo, X, ⟨r0, X', m0, h1, h2, h3, h4, h5, h6⟩, hX => ⟨r0, X' ++ r, m0, by rw [h1, List.append_assoc], h2, h3, by omega, h5, bL.snoc hr hm hf h6 (by rw [h1, List.length_append, List.length_cons, Nat.add_mul] at hX; omega)⟩
theorem kG.low {f : Nat → Nat → List V → Prop} {n : Nat} {B : List (List V)} {lo MI hi : Nat} {v : V} (h : kG f n B lo hi v) (hl : MI ≤ lo) : kG f n B MI hi v := by
 rcases h with ⟨h1, h2, h3⟩ | ⟨hn, j, cap, Y, h0, h1, h2, h3, h4⟩
 ·exact .inl ⟨h1, h2, by omega⟩
 ·exact .inr ⟨hn, j, cap, Y, h0, by omega, h2, h3, h4⟩
theorem kG.cells {f : Nat → Nat → List V → Prop} {n : Nat} {B : List (List V)} {lo hi : Nat} {v : V} (h : kG f n B lo hi v) : fy v = some [v] := by
 rcases h with ⟨_, rfl, _⟩ | ⟨_, j, cap, Y, rfl, _⟩ <;> rfl
theorem R8 {X A C : List V} {x : aj} {kv v : V} {a : Nat} (hX : X = A ++ aR x kv ++ C) (ha : A.length = a) : X.take (a + 7) ++ (v :: X.drop (a + 7 + 1)) = A ++ aR x v ++ C := by
 have e : X = A ++ (aR x kv ++ C) := by rw [hX, List.append_assoc]
 rw [e, List.take_append, List.drop_append, List.drop_of_length_le (by omega), List.take_of_length_le (by omega), List.nil_append, List.append_assoc, List.append_assoc]
 rw [show a + 7 - A.length = 7 by omega, show a + 7 + 1 - A.length = 8 by omega]
 rfl
theorem O6 (x : aj) : (eH x).map V.d = aR x (.d (.sl (x.kids.map eH))) := by rw [cP]; rfl
def L7 (own : List (List V) → Nat → Nat → V → Prop) (B : List (List V)) (T : List (Nat × Nat)) (v : V) (S' : Mem) : Prop := ∃ J, S' = ⟨B ++ J, T⟩ ∧ own (B ++ J) B.length (B ++ J).length v
def Tf (l : List aj) : Prop := ∀ (B : List (List V)) (T : List (Nat × Nat)), aD Tryz.prog av 73 [.d (.sl (l.map eH))] ⟨B, T⟩ (L7 (fun B lo hi v => fN B l lo hi v) B T)
structure Jd where
 i : Nat
 Y : List V
 B : List (List V)
structure Y6 (l : List aj) (B : List (List V)) (pI : List V) (a : Jd) : Prop where
 le : a.i ≤ l.length
 yl : a.Y.length = a.i * 8
 bl : B.length < a.B.length
 old : ∀ k, k < B.length → a.B[k]? = B[k]?
 row : a.B[B.length]? = some (a.Y ++ (((l.drop a.i).map eH).flatten.map V.d ++ pI))
 own : bL 8 (iG a.B) (l.take a.i) (B.length + 1) a.B.length a.Y
set_option maxHeartbeats 2000000 in
theorem Di (l : List aj) (hl : ∀ x ∈ l, Tf x.kids) (hlen : l.length ≤ 60000) : Tf l := by
 intro B T
 obtain ⟨N, hn⟩ : ∃ N, B.length = N := ⟨_, rfl⟩
 have jY := Fk (l.map eH) (by intro r hr; obtain ⟨x, _, rfl⟩ := List.mem_map.1 hr; rw [cP]; rfl) (by rw [List.length_map]; omega) B T
 refine aD.flat (aD.tS (body := (kF Tryz.f73 0)) 23 Tryz.func73 (by kernel_rfl) (by kernel_rfl) (by kernel_rfl) (Nat.le_of_ble_eq_true rfl) ?_)
 refine af.go 160 ?_
 simp only [W, seval, R7]
 refine ag jY ?_
 rintro v S' (⟨h0, rfl, rfl⟩ | ⟨bV, cap, h1, h2, rfl, rfl⟩)
 ·obtain rfl : l = [] := by simpa using h0
  refine af.go 160 ?_
  simp only [W, seval, R7]
  refine af.cJ (fun _ : Unit => (bu 23 [(8, .d (.int .i64 0)), (7, .d (.int .i64 0)), (0, .d (.sl []))], ⟨B, T⟩)) (fun _ => True) (fun _ => 0) () trivial ?_ rfl ?_
  ·skip
   refine ay.env _ ?_
   simp only [cZ, seval]
  intro _ _ _
  refine af.go 60 ?_
  simp only [W, seval, R7, decide_eq_false (show ¬ ((0 : Int) < 0) by decide)]
  refine af.ret Tryz.func73 rfl ?_
  exact ⟨[], by rw [List.append_nil], .inl ⟨rfl, rfl, by simp⟩⟩
 obtain ⟨pI, hJ⟩ : ∃ J, J = List.replicate ((cap - (l.map eH).length) * 8) V.undef := ⟨_, rfl⟩
 rw [← hJ]
 rw [List.length_map] at h1 ⊢
 clear hJ jY
 have MH : l ≠ [] := by rintro rfl; exact bV rfl
 refine af.go 160 ?_
 simp only [W, seval, R7, ie]
 refine af.cJ (fun a : Jd => (bu 23 [(8, .d (.int .i64 (a.i : Int))), (7, .d (.int .i64 (l.length : Int))), (0, .bx B.length l.length cap)], ⟨a.B, T⟩)) (Y6 l B pI) (fun a => l.length - a.i) ⟨0, [], B ++ [(l.map eH).flatten.map V.d ++ pI]⟩ ⟨Nat.zero_le _, rfl, by simp, fun k hk => ai hk, by rw [cy rfl]; rfl, by simp [bL]⟩ ?_ rfl ?_
 ·skip
  refine ay.env _ ?_
  simp only [cZ, seval]
 rintro ⟨i, Y, Bi⟩ ⟨h3, h4, h5, h6, h7, h8⟩ ih
 dsimp only at h3 h4 h5 h6 h7 h8 ih ⊢
 by_cases au : i < l.length
 case neg =>
  have e2 : decide ((i : Int) < (l.length : Int)) = false := decide_eq_false (by omega)
  obtain rfl : i = l.length := by omega
  refine af.go 60 ?_
  simp only [W, seval, R7, e2]
  refine af.ret Tryz.func73 rfl ?_
  rw [List.take_length] at h8
  have hB : Bi = B ++ Bi.drop B.length := by
   conv => lhs; rw [← List.take_append_drop B.length Bi]
   congr 1
   refine List.ext_getElem? fun k => ?_
   rw [List.getElem?_take]
   split
   ·rename_i hk; exact h6 k hk
   ·rename_i hk; rw [List.getElem?_eq_none (by omega)]
  refine ⟨Bi.drop B.length, by rw [← hB], .inr ⟨fun e => MH (List.eq_nil_of_length_eq_zero e), B.length, cap, _, rfl, Nat.le_refl _, by rw [← hB]; exact h5, by rw [← hB]; exact h7, ?_⟩⟩
  rw [← hB, jg]
  exact h8.tail _
 have e2 : decide ((i : Int) < (l.length : Int)) = true := decide_eq_true (by omega)
 have nZ := aI ((i : Int) + 1) (by omega)
 have lO : (i : Int) < (l.length : Int) := by omega
 obtain ⟨x, hx⟩ : ∃ x, l[i] = x := ⟨_, rfl⟩
 have Nw := hl l[i] (List.getElem_mem au) Bi T
 rw [hx] at Nw
 rw [List.drop_eq_getElem_cons au, hx, List.map_cons, List.flatten_cons, List.map_append, O6, List.append_assoc, ← List.append_assoc] at h7
 obtain ⟨C, hC⟩ : ∃ C, C = ((l.drop (i + 1)).map eH).flatten.map V.d ++ pI := ⟨_, rfl⟩
 rw [← hC] at h7
 obtain ⟨Z, hZ⟩ : ∃ Z, Z = Y ++ aR x (.d (.sl (x.kids.map eH))) ++ C := ⟨_, rfl⟩
 rw [← hZ] at h7
 obtain ⟨x0, x1, x2, x3, x7, x8, x9, _⟩ := cI hZ h4
 refine af.go 160 ?_
 simp only [W, seval, R7, ie, e2, lO, h7, x7, x8]
 refine ag Nw ?_
 rintro v _ ⟨J, rfl, hv⟩
 have Jx : fy v = some [v] := kG.cells hv
 have h7' : (Bi ++ J)[B.length]? = some Z := by rw [ai h5]; exact h7
 refine af.go 60 ?_
 simp only [W, seval, R7, ie, lO, h7', Jx, x8, nZ]
 rw [R8 hZ h4]
 have hB3 : ∀ k, k < Bi.length → k ≠ B.length → ((Bi ++ J).set B.length (Y ++ aR x v ++ C))[k]? = Bi[k]? := fun k hk hq => by rw [List.getElem?_set_ne (Ne.symm hq), ai hk]
 refine ih ⟨i + 1, Y ++ aR x v, (Bi ++ J).set B.length (Y ++ aR x v ++ C)⟩ ⟨au, ?_, ?_, ?_, ?_, ?_⟩ (by dsimp only; omega) _ _ ?_ rfl
 ·show (Y ++ aR x v).length = (i + 1) * 8
  rw [List.length_append, h4]
  show i * 8 + 8 = _
  omega
 ·show B.length < ((Bi ++ J).set B.length _).length
  rw [List.length_set, List.length_append]
  omega
 ·exact fun k hk => (hB3 k (by omega) (by omega)).trans (h6 k hk)
 ·show ((Bi ++ J).set B.length _)[B.length]? = _
  rw [List.getElem?_set_self (by rw [List.length_append]; omega), ← hC]
 ·show bL 8 (iG ((Bi ++ J).set B.length _)) (l.take (i + 1)) (B.length + 1) ((Bi ++ J).set B.length _).length (Y ++ aR x v)
  rw [List.take_succ_eq_append_getElem au, hx, List.length_set]
  refine bL.snoc (sz := 8) (m := Bi.length) (hi := (Bi ++ J).length) (f := iG ((Bi ++ J).set B.length (Y ++ aR x v ++ C))) rfl (by rw [List.length_append]; omega) (fun a ha => ?_) (h8.congr fun y _ a b r ha hb hf => iG.frame y hf fun k h1 h2 => hB3 k (by omega) (by omega)) (by rw [h4, List.length_take, Nat.min_eq_left h3])
  refine iH.2 ⟨v, rfl, kG.low ?_ ha⟩
  exact hv.frame fun k h1 h2 => List.getElem?_set_ne (by omega)
 ·skip
  refine ay.env _ ?_
  simp only [cZ, seval]
theorem Fp {x : aj} (h : r9 x) : Tf x.kids := by
 induction h with
 | mk x h1 h2 ih => exact Di _ ih (by omega)
theorem yN {l : List aj} (h : ∀ x ∈ l, r9 x) (hl : l.length ≤ 60000) : Tf l := Di l (fun x hx => Fp (h x hx)) hl
def yO := by
 have c := aN Tryz.f26 (by conv => lhs; cbv)
 dsimp only [KK, fj, eR, eS, List.map_cons, List.map_nil, List.toList_toArray] at c
 exact c
def DE (own : List (List V) → Nat → Nat → V → Prop) : Prop := ∀ B : List (List V), ∃ J v, own (B ++ J) B.length (B ++ J).length v
theorem DE.new {own : List (List V) → Nat → Nat → V → Prop} (h : DE own) (B : List (List V)) (T : List (Nat × Nat)) : ∃ v S', L7 own B T v S' := by
 obtain ⟨J, v, h⟩ := h B
 exact ⟨v, _, J, rfl, h⟩
theorem L7.split {own : List (List V) → Nat → Nat → V → Prop} {B : List (List V)} {T : List (Nat × Nat)} {v : V} {S' : Mem} (h : L7 own B T v S') : ∃ M, S' = ⟨M, T⟩ ∧ B.length ≤ M.length ∧ (∀ k, k < B.length → M[k]? = B[k]?) ∧ own M B.length M.length v := by
 obtain ⟨J, rfl, h⟩ := h
 exact ⟨B ++ J, rfl, by simp, fun k hk => ai hk, h⟩
theorem jn.ne (sz : Nat) (rows : List (List D)) (B : List (List V)) (T : List (Nat × Nat)) (hl : rows.length ≤ 9223372036854775807) : ∃ v S', jn sz rows B T v S' := by
 by_cases h : rows = []
 ·exact ⟨_, _, .inl ⟨h, rfl, rfl⟩⟩
 ·exact ⟨_, _, .inr ⟨h, rows.length, Nat.le_refl _, hl, rfl, rfl⟩⟩
theorem jn.split {sz : Nat} {rows : List (List D)} {B : List (List V)} {T : List (Nat × Nat)} {v : V} {S' : Mem} (h : jn sz rows B T v S') : ∃ M, S' = ⟨M, T⟩ ∧ B.length ≤ M.length ∧ (∀ k, k < B.length → M[k]? = B[k]?) ∧ fy v = some [v] ∧ ((rows = [] ∧ v = .d (.sl []) ∧ M = B) ∨ (rows ≠ [] ∧ ∃ cap J, v = .bx B.length rows.length cap ∧ M = B ++ [rows.flatten.map .d ++ J])) := by
 rcases h with ⟨h0, rfl, rfl⟩ | ⟨h0, cap, h1, h2, rfl, rfl⟩
 ·exact ⟨_, rfl, Nat.le_refl _, fun _ _ => rfl, rfl, .inl ⟨h0, rfl, rfl⟩⟩
 ·exact ⟨_, rfl, by simp, fun k hk => ai hk, rfl, .inr ⟨h0, cap, _, rfl, rfl⟩⟩
theorem oB {X A C : List V} {x : aF} {v1 v2 v3 v4 v5 : V} {a : Nat} (hX : X = A ++ cT x v1 v2 v3 v4 v5 ++ C) (ha : A.length = a) (u : V) :
 X.take (a + 5) ++ u :: X.drop (a + 5 + 1) = A ++ cT x u v2 v3 v4 v5 ++ C ∧ X.take (a + 6) ++ u :: X.drop (a + 6 + 1) = A ++ cT x v1 u v3 v4 v5 ++ C ∧ X.take (a + 7) ++ u :: X.drop (a + 7 + 1) = A ++ cT x v1 v2 u v4 v5 ++ C ∧
  X.take (a + 8) ++ u :: X.drop (a + 8 + 1) = A ++ cT x v1 v2 v3 u v5 ++ C ∧ X.take (a + 9) ++ u :: X.drop (a + 9 + 1) = A ++ cT x v1 v2 v3 v4 u ++ C := by
 have e : X = A ++ (cT x v1 v2 v3 v4 v5 ++ C) := by rw [hX, List.append_assoc]
 have t : ∀ q, X.take (a + q) = A ++ (cT x v1 v2 v3 v4 v5 ++ C).take q := fun q => by rw [e, List.take_append, List.take_of_length_le (by omega)]; congr 2; omega
 have d : ∀ q, X.drop (a + q) = (cT x v1 v2 v3 v4 v5 ++ C).drop q := fun q => by rw [e, List.drop_append, List.drop_of_length_le (by omega), List.nil_append]; congr 1; omega
 refine ⟨?_, ?_, ?_, ?_, ?_⟩ <;> rw [t, Nat.add_assoc, d, List.append_assoc, List.append_assoc] <;> rfl
theorem O7 {X A C : List V} {i : Int} {v : V} {a : Nat} (hX : X = A ++ [.d (.int .u64 i), v] ++ C) (ha : A.length = a) : X[a + 1]? = some v ∧ a + 2 ≤ X.length ∧ ∀ u, X.take (a + 1) ++ u :: X.drop (a + 1 + 1) = A ++ [.d (.int .u64 i), u] ++ C := by
 have e : X = A ++ ([.d (.int .u64 i), v] ++ C) := by rw [hX, List.append_assoc]
 refine ⟨?_, ?_, fun u => ?_⟩
 ·rw [e, List.getElem?_append_right (by omega), show a + 1 - A.length = 1 by omega]; rfl
 ·rw [e]; simp; omega
 ·rw [e, List.take_append, List.take_of_length_le (by omega), List.drop_append, List.drop_of_length_le (by omega), List.nil_append, show a + 1 - A.length = 1 by omega, show a + 1 + 1 - A.length = 2 by omega, List.append_assoc, List.append_assoc]; rfl
theorem yP {α : Type} {sz : Nat} {f : List (List V) → α → Nat → Nat → List V → Prop} (fr : ∀ x B B' lo hi r, f B x lo hi r → (∀ i, lo ≤ i → i < hi → B'[i]? = B[i]?) → f B' x lo hi r) :
 ∀ (l : List α), (∀ x ∈ l, ∀ B : List (List V), ∃ J r, r.length = sz ∧ f (B ++ J) x B.length (B ++ J).length r) → ∀ B : List (List V), ∃ J X, bL sz (f (B ++ J)) l B.length (B ++ J).length X
 | [], _, B => ⟨[], [], by simp [bL]⟩
 | x :: l, h, B => by
  obtain ⟨J1, r, h1, h2⟩ := h x List.mem_cons_self B
  obtain ⟨J2, X, h3⟩ := yP fr l (fun y hy => h y (List.mem_cons_of_mem _ hy)) (B ++ J1)
  rw [List.append_assoc] at h3
  exact ⟨J1 ++ J2, r ++ X, r, X, (B ++ J1).length, rfl, h1, by simp, by simp, fr _ _ _ _ _ _ h2 fun i _ hi => by rw [← List.append_assoc]; exact ai hi, h3⟩
theorem qA {α : Type} {sz : Nat} {f : List (List V) → α → Nat → Nat → List V → Prop} (fr : ∀ x B B' lo hi r, f B x lo hi r → (∀ i, lo ≤ i → i < hi → B'[i]? = B[i]?) → f B' x lo hi r)
 (l : List α) (h : ∀ x ∈ l, ∀ B : List (List V), ∃ J r, r.length = sz ∧ f (B ++ J) x B.length (B ++ J).length r) : DE fun B lo hi v => kG (bL sz (f B) l) l.length B lo hi v := by
 intro B
 by_cases hl : l.length = 0
 ·exact ⟨[], .d (.sl []), .inl ⟨hl, rfl, by simp⟩⟩
 obtain ⟨J, X, hX⟩ := yP fr l h (B ++ [[]])
 have e : ∀ k, B.length + 1 ≤ k → (B ++ X :: J)[k]? = (B ++ [[]] ++ J)[k]? := fun k hk => by
  rw [List.getElem?_append_right (by omega), List.append_assoc, List.getElem?_append_right (by omega)]
  obtain ⟨q, hq⟩ : ∃ q, k - B.length = q + 1 := ⟨k - B.length - 1, by omega⟩
  rw [hq]
  rfl
 refine ⟨X :: J, .bx B.length l.length l.length, .inr ⟨hl, _, _, X, rfl, Nat.le_refl _, by simp, by rw [List.getElem?_append_right (Nat.le_refl _), Nat.sub_self]; rfl, ?_⟩⟩
 have e2 : (B ++ X :: J).length = (B ++ [[]] ++ J).length := by simp
 rw [e2, show B.length + 1 = (B ++ [([] : List V)]).length by simp]
 exact hX.congr fun x _ a b r ha _ hf => fr _ _ _ _ _ _ hf fun i hi _ => e i (by simp at ha; omega)
theorem Ar (B : List (List V)) (l : List aj) : jB B l = bL 8 (iG B) l := funext fun a => funext fun b => funext fun X => jg B l a b X
theorem rV (B : List (List V)) (l : List aF) : dD B l = bL 10 (ia B) l := funext fun a => funext fun b => funext fun X => jk B l a b X
theorem Dj (B : List (List V)) (l : List cQ) : gd B l = bL 2 (jj B) l := funext fun a => funext fun b => funext fun X => jl B l a b X
theorem mkV {l : List aj} (h : ∀ x ∈ l, DE fun B lo hi v => fN B x.kids lo hi v) : DE fun B lo hi v => fN B l lo hi v := by
 have := qA (sz := 8) (f := iG) (fun x B B' lo hi r hf he => iG.frame x hf he) l fun y hy B => by
  obtain ⟨J, v, hv⟩ := h y hy B
  exact ⟨J, aR y v, rfl, iH.2 ⟨v, rfl, hv⟩⟩
 intro B
 obtain ⟨J, v, hv⟩ := this B
 refine ⟨J, v, ?_⟩
 show kG (jB (B ++ J) l) l.length (B ++ J) B.length (B ++ J).length v
 rw [Ar]
 exact hv
theorem mkE {x : aj} (h : r9 x) : DE fun B lo hi v => fN B x.kids lo hi v := by
 induction h with
 | mk x h1 h2 ih => exact mkV ih
theorem Vp {l : List aj} (h : ∀ x ∈ l, r9 x) : DE fun B lo hi v => fN B l lo hi v := mkV fun x hx => mkE (h x hx)
def Y7 (s : aF) : Prop := (DE fun B lo hi v => fN B s.aG lo hi v) ∧ (DE fun B lo hi v => fN B s.exprs lo hi v) ∧ (DE fun B lo hi v => fH B s.body lo hi v) ∧ (DE fun B lo hi v => fH B s.dO lo hi v) ∧ ∀ c ∈ s.cases, DE fun B lo hi v => fH B c.body lo hi v
theorem Y8 {l : List cQ} (h : ∀ c ∈ l, DE fun B lo hi v => fH B c.body lo hi v) : DE fun B lo hi v => lz B l lo hi v := by
 have := qA (sz := 2) (f := jj) (fun x B B' lo hi r hf he => jj.frame x hf he) l fun y hy B => by
  obtain ⟨J, v, hv⟩ := h y hy B
  exact ⟨J, _, rfl, kO.2 ⟨v, rfl, hv⟩⟩
 intro B
 obtain ⟨J, v, hv⟩ := this B
 refine ⟨J, v, ?_⟩
 show kG (gd (B ++ J) l) l.length (B ++ J) B.length (B ++ J).length v
 rw [Dj]
 exact hv
theorem O8 {l : List aF} (h : ∀ s ∈ l, Y7 s) : DE fun B lo hi v => fH B l lo hi v := by
 have := qA (sz := 10) (f := ia) (fun x B B' lo hi r hf he => ia.frame x hf he) l fun s hs B => by
  obtain ⟨h1, h2, h3, h4, h5⟩ := h s hs
  obtain ⟨J1, v1, e1⟩ := h1 B
  obtain ⟨J2, v2, e2⟩ := h2 (B ++ J1)
  obtain ⟨J3, v3, e3⟩ := h3 (B ++ J1 ++ J2)
  obtain ⟨J4, v4, e4⟩ := h4 (B ++ J1 ++ J2 ++ J3)
  obtain ⟨J5, v5, e5⟩ := Y8 h5 (B ++ J1 ++ J2 ++ J3 ++ J4)
  refine ⟨J1 ++ J2 ++ J3 ++ J4 ++ J5, cT s v1 v2 v3 v4 v5, rfl, kN.2 ⟨v1, v2, v3, v4, v5, _, _, _, _, rfl, e1.frame fun i _ hi => ?_, e2.frame fun i _ hi => ?_, e3.frame fun i _ hi => ?_, e4.frame fun i _ hi => ?_, ?_⟩⟩
  ·simp only [← List.append_assoc]
   rw [ai (by simp at hi ⊢; omega), ai (by simp at hi ⊢; omega), ai (by simp at hi ⊢; omega), ai hi]
  ·simp only [← List.append_assoc]
   rw [ai (by simp at hi ⊢; omega), ai (by simp at hi ⊢; omega), ai hi]
  ·simp only [← List.append_assoc]
   rw [ai (by simp at hi ⊢; omega), ai hi]
  ·simp only [← List.append_assoc]
   rw [ai hi]
  ·simpa only [← List.append_assoc] using e5
 intro B
 obtain ⟨J, v, hv⟩ := this B
 refine ⟨J, v, ?_⟩
 show kG (dD (B ++ J) l) l.length (B ++ J) B.length (B ++ J).length v
 rw [rV]
 exact hv
theorem Y9 {s : aF} (h : qF s) : Y7 s := by
 induction h with
 | mk s a1 a2 a3 a4 a5 a6 a7 a8 a9 DD Fg i8 i9 i11 => exact ⟨Vp a6, Vp a7, O8 i8, O8 i9, fun c hc => O8 (i11 c hc)⟩
theorem O9 (s : aF) : (dL s).map V.d = cT s (.d (.sl (s.aG.map eH))) (.d (.sl (s.exprs.map eH))) (.d (.sl (s.body.map dL))) (.d (.sl (s.dO.map dL))) (.d (.sl (s.cases.map jJ))) := by rw [bY]; rfl
theorem Pa (c : cQ) : (jJ c).map V.d = [.d (.int .u64 c.int), .d (.sl (c.body.map dL))] := by rw [gr]; rfl
def Je (l : List aF) : Prop := ∀ (B : List (List V)) (T : List (Nat × Nat)), aD Tryz.prog av 26 [.d (.sl (l.map dL))] ⟨B, T⟩ (L7 (fun B lo hi v => fH B l lo hi v) B T)
structure Vq (l : List aF) (B : List (List V)) (pI : List V) (a : Jd) : Prop where
 le : a.i ≤ l.length
 yl : a.Y.length = a.i * 10
 bl : B.length < a.B.length
 old : ∀ k, k < B.length → a.B[k]? = B[k]?
 row : a.B[B.length]? = some (a.Y ++ (((l.drop a.i).map dL).flatten.map V.d ++ pI))
 own : bL 10 (ia a.B) (l.take a.i) (B.length + 1) a.B.length a.Y
structure Za (l : List cQ) (M : List (List V)) (pI : List V) (a : Jd) : Prop where
 le : a.i ≤ l.length
 yl : a.Y.length = a.i * 2
 bl : M.length < a.B.length
 old : ∀ k, k < M.length → a.B[k]? = M[k]?
 row : a.B[M.length]? = some (a.Y ++ (((l.drop a.i).map jJ).flatten.map V.d ++ pI))
 own : bL 2 (jj a.B) (l.take a.i) (M.length + 1) a.B.length a.Y
theorem GJ {B Bi : List (List V)} (h6 : ∀ k, k < B.length → Bi[k]? = B[k]?) : Bi = B ++ Bi.drop B.length := by
 conv => lhs; rw [← List.take_append_drop B.length Bi]
 congr 1
 refine List.ext_getElem? fun k => ?_
 rw [List.getElem?_take]
 split
 ·rename_i hk; exact h6 k hk
 ·rename_i hk; rw [List.getElem?_eq_none (by omega)]
set_option maxHeartbeats 4000000 in
theorem Dk (l : List aF) (hl : ∀ s ∈ l, Y7 s ∧ Tf s.aG ∧ Tf s.exprs ∧ Je s.body ∧ Je s.dO ∧ (∀ c ∈ s.cases, Je c.body) ∧ s.cases.length ≤ 60000) (hlen : l.length ≤ 60000) : Je l := by
 intro B T
 have jY := Fl (l.map dL) (by intro r hr; obtain ⟨x, _, rfl⟩ := List.mem_map.1 hr; rw [bY]; rfl) (by rw [List.length_map]; omega) B T
 refine aD.flat (aD.tS (body := (kF Tryz.f26 0)) 83 Tryz.func26 (by kernel_rfl) (by kernel_rfl) (by kernel_rfl) (Nat.le_of_ble_eq_true rfl) ?_)
 refine af.go 160 ?_
 simp only [W, seval, yO]
 refine ag jY ?_
 rintro v S' (⟨h0, rfl, rfl⟩ | ⟨bV, cap, h1, h2, rfl, rfl⟩)
 ·obtain rfl : l = [] := by simpa using h0
  refine af.go 160 ?_
  simp only [W, seval, yO]
  refine af.cJ (fun _ : Unit => (bu 83 [(10, .d (.int .i64 0)), (9, .d (.int .i64 0)), (0, .d (.sl []))], ⟨B, T⟩)) (fun _ => True) (fun _ => 0) () trivial ?_ rfl ?_
  ·skip
   refine ay.env _ ?_
   simp only [cZ, seval]
  intro _ _ _
  refine af.go 60 ?_
  simp only [W, seval, yO, decide_eq_false (show ¬ ((0 : Int) < 0) by decide)]
  refine af.ret Tryz.func26 rfl ?_
  exact ⟨[], by rw [List.append_nil], .inl ⟨rfl, rfl, by simp⟩⟩
 obtain ⟨pI, hJ⟩ : ∃ J, J = List.replicate ((cap - (l.map dL).length) * 10) V.undef := ⟨_, rfl⟩
 rw [← hJ]
 rw [List.length_map] at h1 ⊢
 clear hJ jY
 have MH : l ≠ [] := by rintro rfl; exact bV rfl
 refine af.go 160 ?_
 simp only [W, seval, yO, ie]
 refine af.cJ (fun a : Jd => (bu 83 [(10, .d (.int .i64 (a.i : Int))), (9, .d (.int .i64 (l.length : Int))), (0, .bx B.length l.length cap)], ⟨a.B, T⟩)) (Vq l B pI) (fun a => l.length - a.i) ⟨0, [], B ++ [(l.map dL).flatten.map V.d ++ pI]⟩ ⟨Nat.zero_le _, rfl, by simp, fun k hk => ai hk, by rw [cy rfl]; rfl, by simp [bL]⟩ ?_ rfl ?_
 ·skip
  refine ay.env _ ?_
  simp only [cZ, seval]
 rintro ⟨i, Y, Bi⟩ ⟨h3, h4, h5, h6, h7, h8⟩ ih
 dsimp only at h3 h4 h5 h6 h7 h8 ih ⊢
 by_cases au : i < l.length
 case neg =>
  have e2 : decide ((i : Int) < (l.length : Int)) = false := decide_eq_false (by omega)
  obtain rfl : i = l.length := by omega
  refine af.go 60 ?_
  simp only [W, seval, yO, e2]
  refine af.ret Tryz.func26 rfl ?_
  rw [List.take_length] at h8
  have hB := GJ h6
  refine ⟨Bi.drop B.length, by rw [← hB], .inr ⟨fun e => MH (List.eq_nil_of_length_eq_zero e), B.length, cap, _, rfl, Nat.le_refl _, by rw [← hB]; exact h5, by rw [← hB]; exact h7, ?_⟩⟩
  rw [← hB, jk]
  exact h8.tail _
 have e2 : decide ((i : Int) < (l.length : Int)) = true := decide_eq_true (by omega)
 have nZ := aI ((i : Int) + 1) (by omega)
 have lO : (i : Int) < (l.length : Int) := by omega
 obtain ⟨s, hs⟩ : ∃ s, l[i] = s := ⟨_, rfl⟩
 obtain ⟨⟨m1, m2, m3, m4, m5⟩, q1, q2, q3, q4, q5, q6⟩ := hl l[i] (List.getElem_mem au)
 rw [hs] at m1 m2 m3 m4 m5 q1 q2 q3 q4 q5 q6
 rw [List.drop_eq_getElem_cons au, hs, List.map_cons, List.flatten_cons, List.map_append, O9, List.append_assoc, ← List.append_assoc] at h7
 obtain ⟨C, hC⟩ : ∃ C, C = ((l.drop (i + 1)).map dL).flatten.map V.d ++ pI := ⟨_, rfl⟩
 rw [← hC] at h7
 obtain ⟨Z, hZ⟩ : ∃ Z, Z = Y ++ cT s (.d (.sl (s.aG.map eH))) (.d (.sl (s.exprs.map eH))) (.d (.sl (s.body.map dL))) (.d (.sl (s.dO.map dL))) (.d (.sl (s.cases.map jJ))) ++ C := ⟨_, rfl⟩
 rw [← hZ] at h7
 obtain ⟨_, _, x5, x6, x7, x8, x9, _, _, j9, _⟩ := gh hZ h4
 refine af.go 160 ?_
 simp only [W, seval, yO, ie, e2, lO]
 refine af.bp 30 [] [B.length] (by kernel_rfl) (by kernel_rfl) (by kernel_rfl) (by kernel_rfl) (by kernel_rfl) (by kernel_rfl) (by kernel_rfl) ?_
 simp (maxSteps := 4000000) only [W, seval, yO, xw, ie, h7, x5, x6, x7, x8, x9, j9]
 have Mv := fun M => Fm (s.cases.map jJ) (by intro r hr; obtain ⟨x, _, rfl⟩ := List.mem_map.1 hr; rw [gr]; rfl) (by rw [List.length_map]; omega) M T
 refine cz (m1.new Bi T) (q1 Bi T) ?_
 intro v1 S1 n1
 obtain ⟨M1, rfl, l1, p1, o1⟩ := n1.split
 have b1 : B.length < M1.length := by omega
 have r1 : M1[B.length]? = some Z := (p1 _ h5).trans h7
 refine ⟨⟨r1.trans h7.symm, trivial⟩, ?_⟩
 simp (maxSteps := 4000000) only [W, seval, yO, xw, ie, r1, x5, x6, x7, x8, x9, j9]
 refine cz (m2.new M1 T) (q2 M1 T) ?_
 intro v2 S2 n2
 obtain ⟨M2, rfl, l2, p2, o2⟩ := n2.split
 have b2 : B.length < M2.length := by omega
 have r2 : M2[B.length]? = some Z := (p2 _ b1).trans r1
 refine ⟨⟨r2.trans h7.symm, trivial⟩, ?_⟩
 simp (maxSteps := 4000000) only [W, seval, yO, xw, ie, r2, x5, x6, x7, x8, x9, j9]
 refine cz (m3.new M2 T) (q3 M2 T) ?_
 intro v3 S3 n3
 obtain ⟨M3, rfl, l3, p3, o3⟩ := n3.split
 have b3 : B.length < M3.length := by omega
 have r3 : M3[B.length]? = some Z := (p3 _ b2).trans r2
 refine ⟨⟨r3.trans h7.symm, trivial⟩, ?_⟩
 simp (maxSteps := 4000000) only [W, seval, yO, xw, ie, r3, x5, x6, x7, x8, x9, j9]
 refine cz (m4.new M3 T) (q4 M3 T) ?_
 intro v4 S4 n4
 obtain ⟨M4, rfl, l4, p4, o4⟩ := n4.split
 have b4 : B.length < M4.length := by omega
 have r4 : M4[B.length]? = some Z := (p4 _ b3).trans r3
 refine ⟨⟨r4.trans h7.symm, trivial⟩, ?_⟩
 simp (maxSteps := 4000000) only [W, seval, yO, xw, ie, r4, x5, x6, x7, x8, x9, j9]
 refine cz (jn.ne _ _ _ _ (by rw [List.length_map]; omega)) (Mv M4) ?_
 intro v5 S5 n5
 obtain ⟨M5, rfl, l5, p5, c5, d5⟩ := n5.split
 have b5 : B.length < M5.length := by omega
 have r5 : M5[B.length]? = some Z := (p5 _ b4).trans r4
 refine ⟨⟨r5.trans h7.symm, trivial⟩, ?_⟩
 obtain ⟨Z1, Qn⟩ : ∃ X, X = Y ++ cT s v1 (.d (.sl (s.exprs.map eH))) (.d (.sl (s.body.map dL))) (.d (.sl (s.dO.map dL))) (.d (.sl (s.cases.map jJ))) ++ C := ⟨_, rfl⟩
 obtain ⟨Z2, WW⟩ : ∃ X, X = Y ++ cT s v1 v2 (.d (.sl (s.body.map dL))) (.d (.sl (s.dO.map dL))) (.d (.sl (s.cases.map jJ))) ++ C := ⟨_, rfl⟩
 obtain ⟨Z3, WY⟩ : ∃ X, X = Y ++ cT s v1 v2 v3 (.d (.sl (s.dO.map dL))) (.d (.sl (s.cases.map jJ))) ++ C := ⟨_, rfl⟩
 obtain ⟨Z4, WZ⟩ : ∃ X, X = Y ++ cT s v1 v2 v3 v4 (.d (.sl (s.cases.map jJ))) ++ C := ⟨_, rfl⟩
 obtain ⟨Z5, W0⟩ : ∃ X, X = Y ++ cT s v1 v2 v3 v4 v5 ++ C := ⟨_, rfl⟩
 have e1 := (oB hZ h4 v1).1.trans Qn.symm
 have e2 := (oB Qn h4 v2).2.1.trans WW.symm
 have e3 := (oB WW h4 v3).2.2.1.trans WY.symm
 have e4 := (oB WY h4 v4).2.2.2.1.trans WZ.symm
 have e5 := (oB WZ h4 v5).2.2.2.2.trans W0.symm
 have y6 : i * 10 + 6 ≤ Z.length := by omega
 have y7 : i * 10 + 7 ≤ Z1.length := by have := (gh Qn h4).2.2.2.2.2.2.2.2.2.1; omega
 have y8 : i * 10 + 8 ≤ Z2.length := by have := (gh WW h4).2.2.2.2.2.2.2.2.2.1; omega
 have y9 : i * 10 + 9 ≤ Z3.length := by have := (gh WY h4).2.2.2.2.2.2.2.2.2.1; omega
 have SZ : i * 10 + 10 ≤ Z4.length := by have := (gh WZ h4).2.2.2.2.2.2.2.2.2.1; omega
 have cv1 := kG.cells o1
 have cv2 := kG.cells o2
 have cv3 := kG.cells o3
 have cv4 := kG.cells o4
 have s1 : ∀ X, (M5.set B.length X)[B.length]? = some X := fun X => List.getElem?_set_self b5
 simp (maxSteps := 4000000) only [W, seval, yO, xw, ie, r5, h7, cv1, cv2, cv3, cv4, c5, e1, e2, e3, e4, e5, y6, y7, y8, y9, SZ, s1]
 clear e1 e2 e3 e4 e5 y6 y7 y8 y9 SZ Qn WW WY WZ Z1 Z2 Z3 Z4 cv1 cv2 cv3 cv4 c5 x5 x6 x7 x8 x9 j9 Mv r5 r4 r3 r2 r1
 have z9 : Z5[i * 10 + 9]? = some v5 := (gh W0 h4).2.2.2.2.2.2.1
 have sub : ∀ k, k < M4.length → k ≠ B.length → (M4.set B.length Z5)[k]? = M4[k]? := fun k _ hk => List.getElem?_set_ne (Ne.symm hk)
 have fin : ∀ B' : List (List V), M4.length ≤ B'.length → (∀ k, k < M4.length → B'[k]? = (M4.set B.length Z5)[k]?) → lz B' s.cases M4.length B'.length v5 → Vq l B pI ⟨i + 1, Y ++ cT s v1 v2 v3 v4 v5, B'⟩ := by
  intro B' f1 f2 f3
  have hq : ∀ k, k < M4.length → k ≠ B.length → B'[k]? = M4[k]? := fun k a b => (f2 k a).trans (sub k a b)
  refine ⟨au, ?_, ?_, ?_, ?_, ?_⟩
  ·show (Y ++ cT s v1 v2 v3 v4 v5).length = (i + 1) * 10
   rw [List.length_append, h4]
   show i * 10 + 10 = _
   omega
  ·show B.length < B'.length
   omega
  ·intro k hk
   show B'[k]? = B[k]?
   rw [hq k (by omega) (by omega), p4 k (by omega), p3 k (by omega), p2 k (by omega), p1 k (by omega), h6 k hk]
  ·show B'[B.length]? = _
   rw [f2 _ b4, List.getElem?_set_self b4, W0, List.append_assoc, ← hC]
   simp only [List.append_assoc]
  ·show bL 10 (ia B') (l.take (i + 1)) (B.length + 1) B'.length (Y ++ cT s v1 v2 v3 v4 v5)
   rw [List.take_succ_eq_append_getElem au, hs]
   refine bL.snoc (sz := 10) (m := Bi.length) (f := ia B') rfl (by omega) (fun a ha => ?_) (h8.congr fun y _ a b r ha hb hf => ia.frame y hf fun k h1 h2 => by rw [hq k (by omega) (by omega), p4 k (by omega), p3 k (by omega), p2 k (by omega), p1 k (by omega)]) (by rw [h4, List.length_take, Nat.min_eq_left h3])
   refine kN.2 ⟨v1, v2, v3, v4, v5, _, _, _, _, rfl, kG.low (o1.frame fun k h1 h2 => ?_) ha, o2.frame fun k h1 h2 => ?_, o3.frame fun k h1 h2 => ?_, o4.frame fun k h1 h2 => ?_, f3⟩
   ·rw [hq k (by omega) (by omega), p4 k (by omega), p3 k (by omega), p2 k (by omega)]
   ·rw [hq k (by omega) (by omega), p4 k (by omega), p3 k (by omega)]
   ·rw [hq k (by omega) (by omega), p4 k (by omega)]
   ·rw [hq k (by omega) (by omega)]
 rcases d5 with ⟨Zb, rfl, rfl⟩ | ⟨Zb, Vc, J5, rfl, rfl⟩
 ·have oF : s.cases = [] := by simpa using Zb
  refine af.go 160 ?_
  simp only [W, seval, yO, ie, s1, z9]
  refine af.cJ (fun _ : Unit => (bu 83 [(61, .d (.int .i64 0)), (60, .d (.int .i64 0)), (10, .d (.int .i64 (i : Int))), (9, .d (.int .i64 (l.length : Int))), (0, .bx B.length l.length cap)], ⟨M5.set B.length Z5, T⟩)) (fun _ => True) (fun _ => 0) () trivial ?_ rfl ?_
  ·skip
   refine ay.env _ ?_
   simp only [cZ, seval]
  intro _ _ _
  refine af.go 60 ?_
  simp only [W, seval, yO, decide_eq_false (show ¬ ((0 : Int) < 0) by decide), nZ]
  refine ih _ (fin _ (by rw [List.length_set]; exact Nat.le_refl _) (fun _ _ => rfl) (.inl ⟨by rw [oF]; rfl, rfl, by rw [List.length_set]; exact Nat.le_refl _⟩)) (by dsimp only; omega) _ _ ?_ rfl
  ·skip
   refine ay.env _ ?_
   simp only [cZ, seval]
 have oF : s.cases ≠ [] := fun e => Zb (by rw [e]; rfl)
 rw [List.length_map] at fin z9 W0 ⊢
 have hm : (M4 ++ [((s.cases.map jJ).flatten.map V.d) ++ J5]).set B.length Z5 = M4.set B.length Z5 ++ [((s.cases.map jJ).flatten.map V.d) ++ J5] := List.set_append_left _ _ b4
 have z1 := s1 Z5
 clear s1
 rw [hm] at z1 ⊢
 clear hm
 obtain ⟨M, hM⟩ : ∃ M, M = M4.set B.length Z5 := ⟨_, rfl⟩
 have hML : M.length = M4.length := by rw [hM, List.length_set]
 rw [← hM] at fin z1 ⊢
 rw [← hML] at fin z9 ⊢
 have bM : B.length < M.length := by omega
 have zM : M[B.length]? = some Z5 := by rw [ai bM] at z1; exact z1
 clear sub o1 o2 o3 o4 p1 p2 p3 p4 p5 h8 hM
 refine af.go 160 ?_
 simp only [W, seval, yO, ie, z1, z9]
 refine af.cJ (fun a : Jd => (bu 83 [(61, .d (.int .i64 (a.i : Int))), (60, .d (.int .i64 (s.cases.length : Int))), (4, .ptr B.length (i * 10)), (10, .d (.int .i64 (i : Int))), (9, .d (.int .i64 (l.length : Int))), (0, .bx B.length l.length cap)], ⟨a.B, T⟩)) (Za s.cases M J5) (fun a => s.cases.length - a.i) ⟨0, [], M ++ [(s.cases.map jJ).flatten.map V.d ++ J5]⟩ ⟨Nat.zero_le _, rfl, by simp, fun k hk => ai hk, by rw [cy rfl]; rfl, by simp [bL]⟩ ?_ rfl ?_
 ·skip
  refine ay.env _ ?_
  simp only [cZ, seval]
 rintro ⟨j, Yc, Bj⟩ ⟨g3, g4, g5, g6, g7, g8⟩ nE
 dsimp only at g3 g4 g5 g6 g7 g8 nE ⊢
 by_cases uI : j < s.cases.length
 case neg =>
  have e3 : decide ((j : Int) < (s.cases.length : Int)) = false := decide_eq_false (by omega)
  obtain rfl : j = s.cases.length := by omega
  refine af.go 60 ?_
  simp only [W, seval, yO, e3, nZ]
  rw [List.take_length] at g8
  refine ih _ (fin Bj (by omega) (fun k hk => g6 k hk) (.inr ⟨fun e => oF (List.eq_nil_of_length_eq_zero e), M.length, Vc, _, rfl, Nat.le_refl _, g5, g7, ?_⟩)) (by dsimp only; omega) _ _ ?_ rfl
  ·rw [jl]
   exact g8.tail _
  ·skip
   refine ay.env _ ?_
   simp only [cZ, seval]
 have e3 : decide ((j : Int) < (s.cases.length : Int)) = true := decide_eq_true (by omega)
 have oQ := aI ((j : Int) + 1) (by omega)
 have Vr : (j : Int) < (s.cases.length : Int) := by omega
 obtain ⟨c, hc⟩ : ∃ c, s.cases[j] = c := ⟨_, rfl⟩
 have zb : c ∈ s.cases := hc ▸ List.getElem_mem uI
 rw [List.drop_eq_getElem_cons uI, hc, List.map_cons, List.flatten_cons, List.map_append, Pa, List.append_assoc, ← List.append_assoc] at g7
 obtain ⟨C2, hC2⟩ : ∃ C, C = ((s.cases.drop (j + 1)).map jJ).flatten.map V.d ++ J5 := ⟨_, rfl⟩
 rw [← hC2] at g7
 obtain ⟨Zc, hZc⟩ : ∃ Z, Z = Yc ++ [.d (.int .u64 c.int), .d (.sl (c.body.map dL))] ++ C2 := ⟨_, rfl⟩
 rw [← hZc] at g7
 obtain ⟨w1, w2, w3⟩ := O7 hZc g4
 have gB : Bj[B.length]? = some Z5 := (g6 _ bM).trans zM
 refine af.go 160 ?_
 simp only [W, seval, yO, ie, e3, Vr]
 refine af.bp 14 [] [B.length, M.length] (by kernel_rfl) (by kernel_rfl) (by kernel_rfl) (by kernel_rfl) (by kernel_rfl) (by kernel_rfl) (by kernel_rfl) ?_
 simp (maxSteps := 4000000) only [W, seval, yO, xw, ie, gB, z9, g7, w1, w2, Vr]
 refine cz ((m5 c zb).new Bj T) (q5 c zb Bj T) ?_
 intro v6 S6 n6
 obtain ⟨M6, rfl, l6, p6, o6⟩ := n6.split
 have k1 : M6[B.length]? = some Z5 := (p6 _ (by omega)).trans gB
 have k2 : M6[M.length]? = some Zc := (p6 _ g5).trans g7
 refine ⟨⟨k1.trans gB.symm, k2.trans g7.symm, trivial⟩, ?_⟩
 have cv6 := kG.cells o6
 simp (maxSteps := 4000000) only [W, seval, yO, xw, ie, k1, k2, z9, w1, w2, w3, Vr, cv6, oQ]
 refine ⟨⟨gB.symm, g7.symm⟩, ?_⟩
 refine af.go 60 ?_
 simp only [W, seval, yO, oQ]
 obtain ⟨Q, hQ⟩ : ∃ Q, Q = Yc ++ V.d (.int .u64 c.int) :: v6 :: C2 := ⟨_, rfl⟩
 rw [← hQ]
 have hlM : M.length < M6.length := by omega
 have hq6 : ∀ k, k < Bj.length → k ≠ M.length → (M6.set M.length Q)[k]? = Bj[k]? := fun k a b => by rw [List.getElem?_set_ne (Ne.symm b), p6 k a]
 refine nE ⟨j + 1, Yc ++ [.d (.int .u64 c.int), v6], M6.set M.length Q⟩ ⟨uI, ?_, ?_, ?_, ?_, ?_⟩ (by dsimp only; omega) _ _ ?_ rfl
 ·show (Yc ++ [V.d (.int .u64 c.int), v6]).length = (j + 1) * 2
  rw [List.length_append, g4]
  show j * 2 + 2 = _
  omega
 ·show M.length < (M6.set M.length Q).length
  rw [List.length_set]
  exact hlM
 ·exact fun k hk => (hq6 k (by omega) (by omega)).trans (g6 k hk)
 ·show (M6.set M.length Q)[M.length]? = _
  rw [List.getElem?_set_self hlM, hQ, ← hC2, List.append_assoc]
  rfl
 ·show bL 2 (jj (M6.set M.length Q)) (s.cases.take (j + 1)) (M.length + 1) (M6.set M.length Q).length (Yc ++ [V.d (.int .u64 c.int), v6])
  rw [List.take_succ_eq_append_getElem uI, hc, List.length_set]
  refine bL.snoc (sz := 2) (m := Bj.length) (f := jj (M6.set M.length Q)) rfl (by omega) (fun a ha => ?_) (g8.congr fun y _ a b r ha hb hf => jj.frame y hf fun k h1 h2 => hq6 k (by omega) (by omega)) (by rw [g4, List.length_take, Nat.min_eq_left g3])
  refine kO.2 ⟨v6, rfl, kG.low (o6.frame fun k h1 h2 => ?_) ha⟩
  exact List.getElem?_set_ne (by omega)
 ·skip
  refine ay.env _ ?_
  simp only [cZ, seval]
theorem Fq {s : aF} (h : qF s) : Je s.body ∧ Je s.dO ∧ ∀ c ∈ s.cases, Je c.body := by
 induction h with
 | mk s a1 a2 a3 a4 a5 a6 a7 a8 a9 DD Fg i8 i9 i11 =>
  have key : ∀ l : List aF, (∀ y ∈ l, qF y) → (∀ y ∈ l, Je y.body ∧ Je y.dO ∧ ∀ c ∈ y.cases, Je c.body) → l.length ≤ 60000 → Je l := fun l a b c =>
   Dk l (fun y hy => by
    obtain ⟨k1, k2, k3⟩ := b y hy
    refine ⟨Y9 (a y hy), ?_, ?_, k1, k2, k3, by have := (a y hy).cases; omega⟩ <;> (cases a y hy with | mk _ e1 e2 e3 e4 e5 e6 e7 e8 e9 OG RQ => exact yN (by assumption) (by omega))) c
  exact ⟨key _ a8 i8 (by omega), key _ a9 i9 (by omega), fun c hc => key _ (Fg c hc) (i11 c hc) (by have := DD c hc; omega)⟩
theorem Jf {l : List aF} (h : ∀ s ∈ l, qF s) (hl : l.length ≤ 60000) : Je l :=
 Dk l (fun y hy => by
  obtain ⟨k1, k2, k3⟩ := Fq (h y hy)
  refine ⟨Y9 (h y hy), ?_, ?_, k1, k2, k3, by have := (h y hy).cases; omega⟩ <;> (cases h y hy with | mk _ e1 e2 e3 e4 e5 e6 e7 e8 e9 OG RQ => exact yN (by assumption) (by omega))) hl
structure xO (B : List (List V)) (c s f : Nat) (xx yy : V) (E : bG) : Prop where
 c : B[c]? = some [.mp s, .mp f, xx, yy]
 s : B[s]? = some (ny E.su)
 f : B[f]? = some (nA E.fu)
section
variable {E : bG} {c s f : Nat} {xx yy : V} {B B' : List (List V)} {T : List (Nat × Nat)}
theorem xO.lt (h : xO B c s f xx yy E) : c < B.length ∧ s < B.length ∧ f < B.length :=
 ⟨(List.getElem?_eq_some_iff.1 h.c).1, (List.getElem?_eq_some_iff.1 h.s).1, (List.getElem?_eq_some_iff.1 h.f).1⟩
theorem xO.dZ (h : xO B c s f xx yy E) (hc : B'[c]? = B[c]?) (hs : B'[s]? = B[s]?) (hf : B'[f]? = B[f]?) : xO B' c s f xx yy E :=
 ⟨by rw [hc]; exact h.c, by rw [hs]; exact h.s, by rw [hf]; exact h.f⟩
theorem xO.more (h : xO B c s f xx yy E) (J : List (List V)) : xO (B ++ J) c s f xx yy E :=
 h.dZ (ai h.lt.1) (ai h.lt.2.1) (ai h.lt.2.2)
theorem xO.wg (h : xO B c s f xx yy E) (n : List UInt8) (ok : Bool) (J : List (List V)) (T : List (Nat × Nat)) : cS Tryz.prog ⟨B ++ J, T⟩ 60 (.mp s) (.d (.str n)) ok = some (fW OA ((fD cM.name E.su n).map xC) ok) := rL LH (h.more J).s n ok
theorem xO.Gv (h : xO B c s f xx yy E) (n : List UInt8) (ok : Bool) (J : List (List V)) (T : List (Nat × Nat)) : cS Tryz.prog ⟨B ++ J, T⟩ 61 (.mp f) (.d (.str n)) ok = some (fW S8 ((fD cR.name E.fu n).map xD) ok) := rL LI (h.more J).f n ok
set_option maxHeartbeats 4000000 in
theorem As (n : List UInt8) (h : xO B c s f xx yy E) : aD Tryz.prog av 64 [.ptr c 0, .d (.str n)] ⟨B, T⟩ (aB (.d (.bool (gV E.su E.fu n))) ⟨B, T⟩) := by
 obtain ⟨N, hn⟩ : ∃ N, B.length = N := ⟨_, rfl⟩
 have hi : c < N := by rw [← hn]; exact h.lt.1
 have hb := h.c
 have hs := h.wg n true [] T
 rw [List.append_nil] at hs
 have hf := h.Gv n true
 have qo : gV E.su E.fu n = ((fD cM.name E.su n).isNone && (fD cR.name E.fu n).isNone && !(decide (n = [95]))) := by
  unfold gV
  congr 2
  rw [Bool.eq_iff_iff]; simp
 rw [qo]
 cases h1 : fD cM.name E.su n <;> cases h2 : fD cR.name E.fu n <;> rw [h1] at hs <;> rw [h2] at hf <;> simp only [Go.Ab.fW, Option.map_some, Option.map_none, if_true, OA, S8, xC, xD] at hs hf
 all_goals
  refine b64.go 160 rfl fun _ => ?_
  simp only [W, seval, c64, nG, hn, hi, hb, hs, hf, Bool.not_true, Bool.not_false, Bool.true_eq_false, Bool.false_eq_true]
  refine af.ret Tryz.func64 rfl (Left.box ?_)
  exact ⟨rfl, rfl⟩
set_option maxHeartbeats 4000000 in
theorem sW {t : az} (ht : TW t) (h : xO B c s f xx yy E) : aD Tryz.prog av 68 [.ptr c 0, aT t] ⟨B, T⟩ (aB (.d (.bool (bP E.su t))) ⟨B, T⟩) := by
 obtain ⟨N, hn⟩ : ∃ N, B.length = N := ⟨_, rfl⟩
 have hi : c < N := by rw [← hn]; exact h.lt.1
 have mw : s < N := by rw [← hn]; exact h.lt.2.1
 have Gi := h.s
 have hb := h.c
 unfold aT
 refine b68.go 160 rfl fun bh => ?_
 simp only [eI] at bh
 simp only [W, seval, JG, hn]
 refine af.cJ (fun a : az => (bu 30 [(0, .ptr c 0), (3, .ptr N 0)], ⟨B ++ [jt a], T⟩)) (fun a => TW a ∧ bP E.su a = bP E.su t) (fun a => SizeOf.sizeOf a) t ⟨ht, rfl⟩ ?_ rfl ?_
 ·skip
  refine ay.env _ ?_
  simp only [cZ, seval]
 rintro a ⟨ha, h2⟩ ih
 cases ha with
 | sl n u hu =>
  rw [yC] at h2
  refine af.go 160 ?_
  simp only [W, seval, JG, hn, jt, az.kind, az.name, az.elem, decide_true, bH, bX, cO]
  refine ih u ⟨hu, h2⟩ (by simp; omega) _ _ ?_ rfl
  refine ay.env _ ?_
  simp only [cZ, seval]
 | leaf k n es hk =>
  have e8 := decide_eq_false hk
  rw [tL _ _ _ _ hk] at h2
  rw [← h2]
  have hs := h.wg n true
  clear ih h2
  cases h1 : fD cM.name E.su n <;> rw [h1] at hs <;> simp only [Go.Ab.fW, Option.map_some, Option.map_none, if_true, OA, xC] at hs
  all_goals
   refine af.go 160 ?_
   simp only [W, seval, JG, hn, jt, az.kind, az.name, az.elem, e8]
   refine af.bp 11 [] [c, s, N] (by kernel_rfl) (by kernel_rfl) (by kernel_rfl) (by kernel_rfl) (by kernel_rfl) (by kernel_rfl) (by kernel_rfl) ?_
   simp (maxSteps := 4000000) only [W, seval, JG, xw, nG, hn, hi, hb, hs, mw, Gi]
   by_cases h7 : k = 7
   ·have e7 := decide_eq_true h7
    refine af.go 160 ?_
    simp only [W, seval, JG, nG, hn, e7, Bool.not_true]
    refine af.ret Tryz.func68 rfl (Left.box ?_)
    simp only [h7]
    exact ⟨rfl, rfl⟩
   ·have e7 := decide_eq_false h7
    refine af.go 160 ?_
    simp only [W, seval, JG, nG, hn, e7, Bool.not_false]
    refine af.ret Tryz.func68 rfl (Left.box ?_)
    try rw [show decide (k ≠ 7) = true from decide_eq_true h7]
    exact ⟨rfl, rfl⟩
end
def Qo := by
 have c := aN Tryz.f65 (by conv => lhs; cbv)
 dsimp only [KK, fj, eR, eS, List.map_cons, List.map_nil, List.toList_toArray] at c
 exact c
theorem b65 : bK Tryz.prog 65 Tryz.f65 43 := ⟨Tryz.func65, by kernel_rfl⟩
theorem Qp : zv Tryz.prog 67 1 = some (37, 1) := by kernel_rfl
def Dl (met : List (List UInt8)) : List V := [.nI met (met.map fun _ => .d (.bool true))]
theorem Vs : pM Tryz.prog 120 = some (.d (.bool false)) := by kernel_rfl
theorem wE (n : List UInt8) : ∀ l : List (List UInt8), (match jG l n with
 | some j => l.contains n = true ∧ j < l.length
 | none => l.contains n = false)
 | [] => rfl
 | x :: l => by
  have ih := wE n l
  rw [jG]
  by_cases h : x = n
  ·rw [if_pos h]
   exact ⟨by simp [h], by simp⟩
  ·rw [if_neg h]
   have hc : (x :: l).contains n = l.contains n := by simp [Ne.symm h]
   cases hk : jG l n with
   | none => rw [hk] at ih; exact hc.trans ih
   | some j => rw [hk] at ih; exact ⟨hc.trans ih.1, by have := ih.2; simp; omega⟩
theorem Qq {met : List (List UInt8)} {B : List (List V)} {T : List (Nat × Nat)} {i : Nat} (hb : B[i]? = some (Dl met)) (n : List UInt8) : cS Tryz.prog ⟨B, T⟩ 120 (.mp i) (.d (.str n)) false = some (.d (.bool (met.contains n))) := by
 have := wE n met
 unfold cS
 unfold Dl at hb
 simp only [Vs, hb, A8]
 cases hk : jG met n with
 | none => rw [hk] at this; rw [this]; rfl
 | some j =>
  rw [hk] at this
  rw [this.1]
  have : (met.map fun _ => V.d (.bool true))[j]? = some (.d (.bool true)) := by rw [List.getElem?_map, List.getElem?_eq_getElem this.2]; rfl
  dsimp only
  rw [this]
  rfl
theorem Zd {met : List (List UInt8)} {B : List (List V)} {T : List (Nat × Nat)} {i : Nat} (hb : B[i]? = some (Dl met)) {n : List UInt8} (hn : met.contains n = false) : eP Tryz.prog ⟨B, T⟩ 120 (.mp i) (.d (.str n)) (.d (.bool true)) = some (.undef, ⟨B.set i (Dl (met ++ [n])), T⟩) := by
 have := wE n met
 unfold eP
 unfold Dl at hb
 simp only [Vs, hb, zq]
 cases hk : jG met n with
 | some j => rw [hk] at this; rw [this.1] at hn; cases hn
 | none =>
  unfold Dl
  simp
def xP (f : List (List UInt8) → List UInt8 → List (List UInt8)) (met : List (List UInt8)) (p : bI) : List (List UInt8) := if decide (p.type.kind = 7) && !met.contains p.type.name then f (met ++ [p.type.name]) p.type.name else met
def nD (su : List cM) : Nat → List (List UInt8) → List UInt8 → List (List UInt8)
 | 0, met, _ => met
 | k + 1, met, n => (Df su n).foldl (xP (nD su k)) met
def rW (su : List cM) : List (List UInt8) := su.flatMap fun s => s.fields.map fun p => p.type.name
def tT (su : List cM) (met : List (List UInt8)) : Nat := (rW su).countP fun x => !met.contains x
theorem Pb {su : List cM} {met : List (List UInt8)} {n : List UInt8} (hn : n ∈ rW su) (hm : met.contains n = false) : tT su (met ++ [n]) < tT su met := by
 unfold tT
 generalize rW su = l at hn
 induction l with
 | nil => cases hn
 | cons x l ih =>
  have hle : ∀ l : List (List UInt8), l.countP (fun x => !(met ++ [n]).contains x) ≤ l.countP fun x => !met.contains x := fun l => List.countP_mono_left fun y _ hy => by simp at hy ⊢; exact hy.1
  rw [List.countP_cons, List.countP_cons]
  by_cases hx : x = n
  ·subst hx
   have := hle l
   rw [hm]
   simp at this ⊢
   omega
  ·have := ih (by simpa [Ne.symm hx] using hn)
   have e : (met ++ [n]).contains x = met.contains x := by simp [hx]
   rw [e]
   omega
theorem L8 {su : List cM} {n : List UInt8} {p : bI} (h : p ∈ Df su n) : p.type.name ∈ rW su := by
 unfold Df at h
 split at h
 ·rename_i s hs
  have : s ∈ su := by
   clear h
   induction su with
   | nil => cases hs
   | cons x l ih =>
    rw [fD] at hs
    split at hs
    ·obtain rfl := Option.some.inj hs; exact List.mem_cons_self
    ·exact List.mem_cons_of_mem _ (ih hs)
  exact List.mem_flatMap.2 ⟨s, this, List.mem_map.2 ⟨p, h, rfl⟩⟩
 ·cases h
theorem yQ (su : List cM) : ∀ (k : Nat) (met : List (List UInt8)) (n : List UInt8), ∃ J, nD su k met n = met ++ J
 | 0, met, _ => ⟨[], by simp [nD]⟩
 | k + 1, met, n => by
  rw [nD]
  generalize Df su n = l
  induction l generalizing met with
  | nil => exact ⟨[], by simp⟩
  | cons p l ih =>
   rw [List.foldl_cons]
   obtain ⟨J, hJ⟩ := ih (xP (nD su k) met p)
   rw [hJ]
   unfold xP
   split
   ·obtain ⟨J2, h2⟩ := yQ su k (met ++ [p.type.name]) p.type.name
    rw [h2]
    exact ⟨[p.type.name] ++ J2 ++ J, by simp⟩
   ·exact ⟨J, rfl⟩
theorem L9 (su : List cM) (met J : List (List UInt8)) : tT su (met ++ J) ≤ tT su met := List.countP_mono_left fun y _ hy => by simp at hy ⊢; exact hy.1
structure Ze where
 i : Nat
 met : List (List UInt8)
 J : List (List V)
theorem Pc (met : List (List UInt8)) (n m : Nat) : (Dl met).all (fit n m) = true := by
 unfold Dl
 simp only [List.all_cons, List.all_nil, Bool.and_true]
 show iW n m _ = true
 rw [dN]
 intro j hj
 simp [fit]
section
variable {E : bG} {c s f : Nat} {xx yy : V}
set_option maxHeartbeats 4000000 in
theorem Ft (hT : nx E.su E.fu) : ∀ (k : Nat) (met : List (List UInt8)) (n : List UInt8) (B : List (List V)) (T : List (Nat × Nat)) (m : Nat), tT E.su met ≤ k → xO B c s f xx yy E → B[m]? = some (Dl met) → c ≠ m ∧ s ≠ m ∧ f ≠ m →
 aD Tryz.prog av 65 [.ptr c 0, .d (.str n), .mp m] ⟨B, T⟩ fun _ S' => S' = ⟨B.set m (Dl (nD E.su (k + 1) met n)), T⟩ := by
 intro k
 induction k using Nat.strongRecOn with
 | _ k ihk =>
 intro met n B T m mB hK hm bV
 obtain ⟨N, hn⟩ : ∃ N, B.length = N := ⟨_, rfl⟩
 have hi : c < N := by rw [← hn]; exact hK.lt.1
 have ZX : m < N := by rw [← hn]; exact (List.getElem?_eq_some_iff.1 hm).1
 have hb := hK.c
 have hs := hK.wg n false [] T
 rw [List.append_nil] at hs
 have ku : B.set m (Dl met) = B := oz _ _ _ hm
 generalize gJ : nD E.su (k + 1) met n = fin
 rw [nD] at gJ
 cases h1 : fD cM.name E.su n with
 | none =>
  rw [h1] at hs
  simp only [Go.Ab.fW, Option.map_none, OA, Bool.false_eq_true, if_false] at hs
  have hf : Df E.su n = [] := by unfold Df; rw [h1]
  rw [hf] at gJ
  have gJ : met = fin := gJ
  refine b65.go 160 rfl fun bh => ?_
  simp only [eI] at bh
  simp only [W, seval, Qo, nG, hn, hi, hb, hs, nR, Qp]
  refine af.cJ (fun _ : Unit => (bu 43 [(16, .d (.int .i64 0)), (15, .d (.int .i64 0))], ⟨B, T⟩)) (fun _ => True) (fun _ => 0) () trivial ?_ rfl ?_
  ·skip
   refine ay.env _ ?_
   simp only [cZ, seval]
  intro _ _ _
  refine af.go 60 ?_
  simp only [W, seval, Qo, decide_eq_false (show ¬ ((0 : Int) < 0) by decide)]
  refine af.fin Tryz.func65 rfl (Left.none ?_)
  rw [← gJ, ku]
 | some st =>
  rw [h1] at hs
  simp only [Go.Ab.fW, Option.map_some, xC, Bool.false_eq_true, if_false] at hs
  have hf : Df E.su n = st.fields := by unfold Df; rw [h1]
  have Au : ∀ p ∈ st.fields, p.type.name ∈ rW E.su := fun p hp => L8 (n := n) (by rw [hf]; exact hp)
  have hlen : st.fields.length ≤ 60000 := (hT.fl st (oW _ h1)).1
  rw [hf] at gJ
  refine b65.go 160 rfl fun bh => ?_
  simp only [eI] at bh
  simp only [W, seval, Qo, nG, hn, hi, hb, hs, nR, Qp]
  refine af.cJ (fun a : Ze => (bu 43 [(0, .ptr c 0), (2, .mp m), (14, .d (.sl (st.fields.map gI))), (15, .d (.int .i64 (st.fields.length : Int))), (16, .d (.int .i64 (a.i : Int)))], ⟨B.set m (Dl a.met) ++ a.J, T⟩)) (fun a => a.i ≤ st.fields.length ∧ (st.fields.drop a.i).foldl (xP (nD E.su k)) a.met = fin ∧ tT E.su a.met ≤ k) (fun a => st.fields.length - a.i) ⟨0, met, []⟩ ⟨Nat.zero_le _, gJ, mB⟩ ?_ (by rw [List.append_nil, ku]) ?_
  ·skip
   refine ay.env _ ?_
   simp only [cZ, seval]
  rintro ⟨i, mt, J⟩ ⟨h2, h3, h4⟩ ih
  dsimp only at h2 h3 h4 ih ⊢
  by_cases au : i < st.fields.length
  case neg =>
   have e2 : decide ((i : Int) < (st.fields.length : Int)) = false := decide_eq_false (by omega)
   rw [List.drop_eq_nil_of_le (by omega)] at h3
   have h3 : mt = fin := h3
   refine af.go 60 ?_
   simp only [W, seval, Qo, e2]
   refine af.fin Tryz.func65 rfl (Left.set (Pc _ _ _) ?_)
   rw [h3]
  have e2 : decide ((i : Int) < (st.fields.length : Int)) = true := decide_eq_true (by omega)
  have nZ := aI ((i : Int) + 1) (by omega)
  have lO : (i : Int) < (st.fields.length : Int) := by omega
  obtain ⟨p, hp⟩ : ∃ p, st.fields[i] = p := ⟨_, rfl⟩
  have hg : (st.fields.map gI)[i]? = some (gI p) := by rw [List.getElem?_map, List.getElem?_eq_getElem au, hp]; rfl
  rw [qq] at hg
  rw [List.drop_eq_getElem_cons au, hp, List.foldl_cons] at h3
  obtain ⟨BJ, oZ⟩ : ∃ BJ, BJ = B.set m (Dl mt) ++ J := ⟨_, rfl⟩
  obtain ⟨L, hL⟩ : ∃ L, BJ.length = L := ⟨_, rfl⟩
  rw [← oZ]
  have Zf : BJ[m]? = some (Dl mt) := by rw [oZ, List.getElem?_append_left (by rw [List.length_set]; omega), List.getElem?_set_self (by omega)]
  have hmL : m < L := by rw [← hL]; exact (List.getElem?_eq_some_iff.1 Zf).1
  obtain ⟨row, aA⟩ : ∃ row, row = [V.d (.str p.name), .d (.int .i64 p.type.kind), .d (.str p.type.name), .d (.sl (p.type.elem.map ej))] := ⟨_, rfl⟩
  cases h7 : decide (p.type.kind = 7)
  case false =>
   have hF : xP (nD E.su k) mt p = mt := by unfold xP; rw [h7, Bool.false_and]; rfl
   rw [hF] at h3
   refine af.go 160 ?_
   simp only [W, seval, Qo, nG, e2, hg, lO, au, hL, h7, nZ]
   refine ih ⟨i + 1, mt, J ++ [row]⟩ ⟨au, h3, h4⟩ (by dsimp only; omega) _ _ ?_ (by rw [oZ, List.append_assoc, ← aA])
   refine ay.env _ ?_
   simp only [cZ, seval]
  have Pd : ∀ (J2 : List (List V)), cS Tryz.prog ⟨BJ ++ J2, T⟩ 120 (.mp m) (.d (.str p.type.name)) false = some (.d (.bool (mt.contains p.type.name))) := fun J2 => Qq (by rw [ai (by omega)]; exact Zf) _
  cases hc : mt.contains p.type.name
  case true =>
   have hF : xP (nD E.su k) mt p = mt := by unfold xP; rw [hc]; simp
   rw [hF] at h3
   rw [hc] at Pd
   refine af.go 160 ?_
   simp only [W, seval, Qo, nG, e2, hg, lO, au, hL, h7, nZ, Pd]
   refine ih ⟨i + 1, mt, J ++ [row]⟩ ⟨au, h3, h4⟩ (by dsimp only; omega) _ _ ?_ (by rw [oZ, List.append_assoc, ← aA])
   refine ay.env _ ?_
   simp only [cZ, seval]
  have hpm := Au p (hp ▸ List.getElem_mem au)
  have hms := Pb hpm hc
  have hF : xP (nD E.su k) mt p = nD E.su k (mt ++ [p.type.name]) p.type.name := by unfold xP; rw [hc, h7]; rfl
  rw [hF] at h3
  rw [hc] at Pd
  have jX : ∀ (X : List V) (J2 : List (List V)), (BJ ++ J2).set m X = B.set m X ++ (J ++ J2) := fun X J2 => by
   rw [oZ, List.append_assoc, List.set_append_left _ _ (by rw [List.length_set]; omega), List.set_set]
  obtain ⟨BM, Tg⟩ : ∃ BM, BM = B.set m (Dl (mt ++ [p.type.name])) ++ J := ⟨_, rfl⟩
  have hBL : BM.length = L := by rw [Tg, ← hL, oZ]; simp
  have hpt : ∀ (J2 : List (List V)), eP Tryz.prog ⟨BJ ++ J2, T⟩ 120 (.mp m) (.d (.str p.type.name)) (.d (.bool true)) = some (.undef, ⟨BM ++ J2, T⟩) := fun J2 => by
   rw [Zd (by rw [ai (by omega)]; exact Zf) hc, jX, Tg, List.append_assoc]
  obtain ⟨k', rfl⟩ : ∃ k', k = k' + 1 := ⟨k - 1, by omega⟩
  have hold : ∀ q, q ≠ m → q < N → (BM ++ [row])[q]? = B[q]? := fun q h1 h2 => by
   have := hK.lt
   rw [ai (by rw [Tg, List.length_append, List.length_set]; omega), Tg, List.getElem?_append_left (by rw [List.length_set]; omega), List.getElem?_set_ne (Ne.symm h1)]
  have adM := hK.lt
  obtain ⟨d1, d2, d3⟩ := bV
  have pS := ihk k' (by omega) (mt ++ [p.type.name]) p.type.name (BM ++ [row]) T m (by omega) (hK.dZ (hold _ d1 (by omega)) (hold _ d2 (by omega)) (hold _ d3 (by omega))) (by
   rw [ai (by omega), Tg, List.getElem?_append_left (by rw [List.length_set]; omega), List.getElem?_set_self (by omega)]) ⟨d1, d2, d3⟩
  have Ma : tT E.su (nD E.su (k' + 1) (mt ++ [p.type.name]) p.type.name) ≤ k' + 1 := by
   obtain ⟨J2, e⟩ := yQ E.su (k' + 1) (mt ++ [p.type.name]) p.type.name
   rw [e]
   have := L9 E.su (mt ++ [p.type.name]) J2
   omega
  rw [aA] at pS
  refine af.go 160 ?_
  simp only [W, seval, Qo, nG, e2, hg, lO, au, hL, hBL, h7, Pd, hpt]
  refine ag pS ?_
  rintro v _ rfl
  refine af.go 60 ?_
  simp only [W, seval, Qo, nZ]
  refine ih ⟨i + 1, nD E.su (k' + 1) (mt ++ [p.type.name]) p.type.name, J ++ [row]⟩ ⟨au, h3, Ma⟩ (by dsimp only; omega) _ _ ?_ ?_
  ·skip
   refine ay.env _ ?_
   simp only [cZ, seval]
  ·rw [← aA, Tg, List.append_assoc, List.set_append_left _ _ (by rw [List.length_set]; omega), List.set_set]
end
def uq := by
 have c := aN Tryz.f23 (by conv => lhs; cbv)
 dsimp only [KK, fj, eR, eS, List.map_cons, List.map_nil, List.toList_toArray] at c
 exact c
theorem b23 : bK Tryz.prog 23 Tryz.f23 96 := ⟨Tryz.func23, by kernel_rfl⟩
def c67 := by
 have c := aN Tryz.f67 (by conv => lhs; cbv)
 dsimp only [KK, fj, eR, eS, List.map_cons, List.map_nil, List.toList_toArray] at c
 exact c
theorem b67 : bK Tryz.prog 67 Tryz.f67 9 := ⟨Tryz.func67, by kernel_rfl⟩
def W1 := by
 have c := aN Tryz.f69 (by conv => lhs; cbv)
 dsimp only [KK, fj, eR, eS, List.map_cons, List.map_nil, List.toList_toArray] at c
 exact c
theorem b69 : bK Tryz.prog 69 Tryz.f69 16 := ⟨Tryz.func69, by kernel_rfl⟩
def c71 := by
 have c := aN Tryz.f71 (by conv => lhs; cbv)
 dsimp only [KK, fj, eR, eS, List.map_cons, List.map_nil, List.toList_toArray] at c
 exact c
theorem b71 : bK Tryz.prog 71 Tryz.f71 8 := ⟨Tryz.func71, by kernel_rfl⟩
section
variable {E : bG} {c s f : Nat} {xx yy : V} {B : List (List V)} {T : List (Nat × Nat)}
theorem Jg (h : xO B c s f xx yy E) {N : Nat} (hN : B[N]? = some [.ptr c 0]) {p : bI} (hp : TW p.type) : aD Tryz.prog av 67 [AS p, .ptr N 0] ⟨B, T⟩ (aB (.d (.bool (!bP E.su p.type))) ⟨B, T⟩) := by
 obtain ⟨L, hn⟩ : ∃ L, B.length = L := ⟨_, rfl⟩
 have ML : N < L := by rw [← hn]; exact (List.getElem?_eq_some_iff.1 hN).1
 have jX := fun J => sW (T := T) hp (h.more J)
 unfold aT at jX
 unfold AS
 refine b67.go 60 rfl fun _ => ?_
 simp only [W, seval, c67, hn, hN, ML]
 refine ag (jX _) ?_
 rintro _ _ ⟨rfl, rfl⟩
 refine af.go 60 ?_
 simp only [W, seval, c67]
 refine af.ret Tryz.func67 rfl (Left.box ?_)
 exact ⟨rfl, rfl⟩
theorem Jh (h : xO B c s f xx yy E) {N : Nat} (hN : B[N]? = some [.ptr c 0]) {t : az} (hp : TW t) : aD Tryz.prog av 71 [aT t, .ptr N 0] ⟨B, T⟩ (aB (.d (.bool (!bP E.su t))) ⟨B, T⟩) := by
 obtain ⟨L, hn⟩ : ∃ L, B.length = L := ⟨_, rfl⟩
 have ML : N < L := by rw [← hn]; exact (List.getElem?_eq_some_iff.1 hN).1
 have jX := fun J => sW (T := T) hp (h.more J)
 unfold aT at jX ⊢
 refine b71.go 60 rfl fun _ => ?_
 simp only [W, seval, c71, hn, hN, ML]
 refine ag (jX _) ?_
 rintro _ _ ⟨rfl, rfl⟩
 refine af.go 60 ?_
 simp only [W, seval, c71]
 refine af.ret Tryz.func71 rfl (Left.box ?_)
 exact ⟨rfl, rfl⟩
theorem Ji (h : xO B c s f xx yy E) {N : Nat} (hN : B[N]? = some [.ptr c 0]) {p : bI} (hp : TW p.type) : aD Tryz.prog av 69 [AS p, .ptr N 0] ⟨B, T⟩ (aB (.d (.bool (!(bP E.su p.type && gV E.su E.fu p.name)))) ⟨B, T⟩) := by
 obtain ⟨L, hn⟩ : ∃ L, B.length = L := ⟨_, rfl⟩
 have ML : N < L := by rw [← hn]; exact (List.getElem?_eq_some_iff.1 hN).1
 have jX := fun J => sW (T := T) hp (h.more J)
 have qo := fun J => As (T := T) p.name (h.more J)
 unfold aT at jX
 unfold AS
 refine b69.go 60 rfl fun _ => ?_
 simp only [W, seval, W1, hn, hN, ML]
 refine ag (jX _) ?_
 rintro _ _ ⟨rfl, rfl⟩
 cases hs : bP E.su p.type
 ·refine af.go 60 ?_
  simp only [W, seval, W1, hn, hN, ML, Bool.not_false]
  refine af.ret Tryz.func69 rfl (Left.box ?_)
  exact ⟨rfl, rfl⟩
 ·refine af.go 60 ?_
  simp only [W, seval, W1, hn, hN, ML, Bool.not_true]
  refine ag (qo _) ?_
  rintro _ _ ⟨rfl, rfl⟩
  refine af.go 60 ?_
  simp only [W, seval, W1]
  refine af.ret Tryz.func69 rfl (Left.box ?_)
  exact ⟨rfl, rfl⟩
theorem Mb {l : List cM} {x : cM} (h : fD cM.name l x.name = none) : zq (l.map cM.name) (l.map xC) x.name (xC x) = ny (l ++ [x]) := by
 unfold zq ny
 rw [oX _ _ _ h]
 simp
theorem Mc {l : List cR} {x : cR} (h : fD cR.name l x.name = none) : zq (l.map cR.name) (l.map xD) x.name (xD x) = nA (l ++ [x]) := by
 unfold zq nA
 rw [oX _ _ _ h]
 simp
theorem Aw {α : Type} (nm : α → List UInt8) (n : List UInt8) : ∀ l : List α, (fD nm l n).isNone = !(l.map nm).contains n
 | [] => rfl
 | x :: l => by
  rw [fD]
  by_cases h : nm x = n
  ·rw [if_pos h]; simp [h]
  ·rw [if_neg h, Aw nm n l]
   simp [Ne.symm h]
theorem yR (su : List cM) (fu : List cR) (n : List UInt8) : gV su fu n = (!(su.map cM.name ++ fu.map cR.name).contains n && !(n == [95])) := by
 unfold gV
 rw [Aw, Aw]
 congr 1
 simp
def Zg (su : List cM) (n : List UInt8) : Bool := (nD su ((rW su).length + 1) [] n).contains n
def yS (su : List cM) (s : cM) : Bool := !Zg su s.name && s.fields.all fun p => bP su p.type
def sX (su : List cM) (fu : List cR) : Bool := p8 [] (su.map cM.name ++ fu.map cR.name) && (su.all (yS su) && fu.all (Dg su fu))
structure Pe where
 i : Nat
 J : List (List V)
def Zh (r : Bool) (su : List cM) (fu : List cR) (s f : Nat) (B : List (List V)) (T : List (Nat × Nat)) (v : V) (S' : Mem) : Prop :=
 v = .d (.bool r) ∧ ∃ Ax Ay, S' = ⟨(B.set s (ny Ax)).set f (nA Ay), T⟩ ∧ (r = true → Ax = su ∧ Ay = fu)
theorem Pf (l : List cM) (n m : Nat) : (ny l).all (fit n m) = true := by
 unfold ny
 simp only [List.all_cons, List.all_nil, Bool.and_true]
 show iW n m _ = true
 rw [dN]
 intro j hj
 simp [xC, fit, iW]
theorem Pg (l : List cR) (n m : Nat) : (nA l).all (fit n m) = true := by
 unfold nA
 simp only [List.all_cons, List.all_nil, Bool.and_true]
 show iW n m _ = true
 rw [dN]
 intro j hj
 simp [xD, fit, iW]
set_option maxHeartbeats 8000000 in
theorem Md {su : List cM} {fu : List cR} (hT : nx su fu) (h : xO B c s f xx yy ⟨[], [], []⟩) (bV : c ≠ s ∧ c ≠ f ∧ s ≠ f) : aD Tryz.prog av 23 [.ptr c 0, l7 ⟨su, fu⟩] ⟨B, T⟩ (Zh (sX su fu) su fu s f B T) := by
 obtain ⟨N, hn⟩ : ∃ N, B.length = N := ⟨_, rfl⟩
 obtain ⟨n1, n2, n3⟩ := h.lt
 obtain ⟨d1, d2, d4⟩ := bV
 have mw := hT.su
 have xk := hT.fu
 unfold l7
 generalize cw : sX su fu = r
 unfold sX at cw
 have wF : ∀ (J : List (List V)) (v : V) (Ax : List cM) (Ay : List cR), wk B.length T.length v = v → v = .d (.bool r) → (r = true → Ax = su ∧ Ay = fu) → Go.Ab.Left ⟨B, T⟩ (Zh r su fu s f B T) v ⟨(B.set s (ny Ax)).set f (nA Ay) ++ J, T⟩ := fun J v Ax Ay hw hv hr => by
  have := Left.of (B := B) (J := J) (T := T) (K := []) (L := (B.set s (ny Ax)).set f (nA Ay)) (R := Zh r su fu s f B T) (v := v) (by simp) rfl (((qg.refl _ _ _).set s (Pf _ _ _)).set f (Pg _ _ _)) (by rw [hw]; exact ⟨hv, Ax, Ay, rfl, hr⟩)
  rwa [List.append_nil] at this
 have Qz : (B.set s (ny [])).set f (nA []) = B := by
  rw [oz _ _ _ h.s, oz _ _ _ h.f]
 have hK : ∀ (Ax : List cM) (Ay : List cR) (J : List (List V)), xO ((B.set s (ny Ax)).set f (nA Ay) ++ J) c s f xx yy ⟨Ax, Ay, []⟩ := fun Ax Ay J => by
  refine xO.more ⟨?_, ?_, ?_⟩ J
  ·rw [List.getElem?_set_ne (Ne.symm d2), List.getElem?_set_ne (Ne.symm d1)]; exact h.c
  ·rw [List.getElem?_set_ne (Ne.symm d4), List.getElem?_set_self n2]
  ·rw [List.getElem?_set_self (by rw [List.length_set]; exact n3)]
 refine b23.go 160 rfl fun bh => ?_
 simp only [eI] at bh
 simp only [W, seval, uq, hn]
 obtain ⟨jC, GK⟩ : ∃ jC, jC = [V.d (.sl (su.map fJ)), V.d (.sl (fu.map fK))] := ⟨_, rfl⟩
 obtain ⟨dn, Zi⟩ : ∃ dn, p8 [] (su.map cM.name ++ fu.map cR.name) = dn := ⟨_, rfl⟩
 rw [Zi] at cw
 have Au : ∀ (Ax : List cM) (Ay : List cR) (J : List (List V)), ((B.set s (ny Ax)).set f (nA Ay) ++ ([.ptr c 0] :: jC :: J))[N]? = some [.ptr c 0] ∧ ((B.set s (ny Ax)).set f (nA Ay) ++ ([.ptr c 0] :: jC :: J))[N + 1]? = some jC := fun Ax Ay J => by
  constructor
  ·rw [List.getElem?_append_right (by simp; omega)]; simp [hn]
  ·rw [List.getElem?_append_right (by simp; omega)]; simp [hn]
 refine af.cJ (fun a : Pe => (bu 96 [(17, .d (.int .i64 (a.i : Int))), (16, .d (.int .i64 (su.length : Int))), (15, .d (.sl (su.map fJ))), (3, .ptr (N + 1) 0), (2, .ptr N 0)], ⟨(B.set s (ny (su.take a.i))).set f (nA []) ++ ([.ptr c 0] :: jC :: a.J), T⟩)) (fun a => a.i ≤ su.length ∧ p8 ((su.take a.i).map cM.name) ((su.drop a.i).map cM.name ++ fu.map cR.name) = dn) (fun a => su.length - a.i) ⟨0, []⟩ ⟨Nat.zero_le _, Zi⟩ ?_ (by rw [GK]; simp only [List.take_zero, Qz]) ?_
 ·skip
  refine ay.env _ ?_
  simp only [cZ, seval]
 rintro ⟨i, J⟩ ⟨h2, h3⟩ ih
 dsimp only at h2 h3 ih ⊢
 by_cases au : i < su.length
 case pos =>
  have e2 : decide ((i : Int) < (su.length : Int)) = true := decide_eq_true (by omega)
  have nZ := aI ((i : Int) + 1) (by omega)
  have lO : (i : Int) < (su.length : Int) := by omega
  obtain ⟨x, hx⟩ : ∃ x, su[i] = x := ⟨_, rfl⟩
  have hg : (su.map fJ)[i]? = some [.str x.name, .sl (x.fields.map gI)] := by rw [List.getElem?_map, List.getElem?_eq_getElem au, hx]; rfl
  obtain ⟨row, aA⟩ : ∃ row, row = [V.d (.str x.name), V.d (.sl (x.fields.map gI))] := ⟨_, rfl⟩
  obtain ⟨h4, h5⟩ := Au (su.take i) [] J
  have hk := hK (su.take i) [] ([.ptr c 0] :: jC :: J)
  have qy : ∀ y, (((B.set s (ny (su.take i))).set f (nA []) ++ ([.ptr c 0] :: jC :: J)) ++ [row]).set s (ny y) = (B.set s (ny y)).set f (nA []) ++ ([.ptr c 0] :: jC :: (J ++ [row])) := fun y => by
   rw [List.append_assoc, List.set_append_left _ _ (by simp; omega), List.set_comm _ _ (Ne.symm d4), List.set_set]
   rfl
  obtain ⟨BJ, oZ⟩ : ∃ BJ, BJ = (B.set s (ny (su.take i))).set f (nA []) ++ ([.ptr c 0] :: jC :: J) := ⟨_, rfl⟩
  rw [← oZ] at h4 h5 hk qy ⊢
  obtain ⟨L, hL⟩ : ∃ L, BJ.length = L := ⟨_, rfl⟩
  have Ph : N < L := by rw [← hL]; exact (List.getElem?_eq_some_iff.1 h4).1
  have qo := As (T := T) x.name (hk.more [row])
  rw [List.drop_eq_getElem_cons au, hx, List.map_cons, List.cons_append, wD] at h3
  have Ss := yR (su.take i) [] x.name
  rw [List.map_nil, List.append_nil] at Ss
  rw [← Ss] at h3
  dsimp only at qo
  rw [aA] at qo
  refine af.go 160 ?_
  simp only [W, seval, uq, e2, hg, lO, au, hL, h4, Ph]
  refine ag qo ?_
  rintro _ _ ⟨rfl, rfl⟩
  cases Me : gV (su.take i) [] x.name
  ·rw [Me, Bool.false_and] at h3
   rw [← h3, Bool.false_and] at cw
   subst cw
   refine af.go 60 ?_
   simp only [W, seval, uq]
   rw [oZ, List.append_assoc]
   refine af.ret Tryz.func23 rfl (wF _ _ _ _ rfl rfl (fun h => by cases h))
  ·rw [Me, Bool.true_and] at h3
   have Zj : fD cM.name (su.take i) x.name = none := by
    unfold gV at Me
    simp only [Bool.and_eq_true] at Me
    simpa using Me.1.1
   have Vg := hk.c
   have Zk : c < L := by rw [← hL]; exact hk.lt.1
   have Gi := (hk.more [row]).s
   have ku : eP Tryz.prog ⟨BJ ++ [row], T⟩ 60 (.mp s) (.d (.str x.name)) (.agg [V.d (.str x.name), V.d (.sl (x.fields.map gI))]) = some (.undef, ⟨(B.set s (ny (su.take (i + 1)))).set f (nA []) ++ ([.ptr c 0] :: jC :: (J ++ [row])), T⟩) := by
    unfold eP
    unfold ny at Gi
    simp only [LH, Gi]
    rw [List.take_succ_eq_append_getElem au, hx, ← qy, ← Mb (l := su.take i) (x := x) Zj]
    rfl
   rw [aA] at ku
   refine af.go 60 ?_
   simp only [W, seval, uq]
   refine af.bp 7 [] [N, c, L] (by kernel_rfl) (by kernel_rfl) (by kernel_rfl) (by kernel_rfl) (by kernel_rfl) (by kernel_rfl) (by kernel_rfl) ?_
   simp (maxSteps := 4000000) only [W, seval, uq, xw, nG, hL, h4, Ph, Vg, Zk, ku]
   refine af.go 60 ?_
   simp only [W, seval, uq, nZ]
   refine ih ⟨i + 1, J ++ [row]⟩ ⟨au, ?_⟩ (by dsimp only; omega) _ _ ?_ (by rw [aA])
   ·show p8 ((su.take (i + 1)).map cM.name) ((su.drop (i + 1)).map cM.name ++ fu.map cR.name) = dn
    rw [List.take_succ_eq_append_getElem au, hx, List.map_append]
    exact h3
   ·skip
    refine ay.env _ ?_
    simp only [cZ, seval]
 have e2 : decide ((i : Int) < (su.length : Int)) = false := decide_eq_false (by omega)
 obtain rfl : i = su.length := by omega
 rw [List.take_length, List.drop_eq_nil_of_le (Nat.le_refl _), List.map_nil, List.nil_append] at h3
 rw [List.take_length]
 clear ih h2
 obtain ⟨h4, h5⟩ := Au su [] J
 obtain ⟨BJ, oZ⟩ : ∃ BJ, BJ = (B.set s (ny su)).set f (nA []) ++ ([.ptr c 0] :: jC :: J) := ⟨_, rfl⟩
 rw [← oZ] at h4 h5 ⊢
 rw [GK] at h5
 refine af.go 160 ?_
 simp only [W, seval, uq, e2, h5]
 clear h4 h5
 refine af.cJ (fun a : Pe => (bu 96 [(37, .d (.int .i64 (a.i : Int))), (36, .d (.int .i64 (fu.length : Int))), (35, .d (.sl (fu.map fK))), (3, .ptr (N + 1) 0), (2, .ptr N 0)], ⟨(B.set s (ny su)).set f (nA (fu.take a.i)) ++ ([.ptr c 0] :: jC :: a.J), T⟩)) (fun a => a.i ≤ fu.length ∧ p8 (su.map cM.name ++ (fu.take a.i).map cR.name) ((fu.drop a.i).map cR.name) = dn) (fun a => fu.length - a.i) ⟨0, J⟩ ⟨Nat.zero_le _, by simpa using h3⟩ ?_ (by rw [oZ]; simp only [List.take_zero]) ?_
 ·skip
  refine ay.env _ ?_
  simp only [cZ, seval]
 clear h3 oZ BJ J
 rintro ⟨i, J⟩ ⟨h2, h3⟩ ih
 dsimp only at h2 h3 ih ⊢
 by_cases au : i < fu.length
 case pos =>
  have e2 : decide ((i : Int) < (fu.length : Int)) = true := decide_eq_true (by omega)
  have nZ := aI ((i : Int) + 1) (by omega)
  have lO : (i : Int) < (fu.length : Int) := by omega
  obtain ⟨x, hx⟩ : ∃ x, fu[i] = x := ⟨_, rfl⟩
  have hg : (fu.map fK)[i]? = some [.str x.name, .sl (x.params.map gI), .sl (x.results.map ej), .sl (x.body.map dL)] := by rw [List.getElem?_map, List.getElem?_eq_getElem au, hx]; rfl
  obtain ⟨row, aA⟩ : ∃ row, row = [V.d (.str x.name), V.d (.sl (x.params.map gI)), V.d (.sl (x.results.map ej)), V.d (.sl (x.body.map dL))] := ⟨_, rfl⟩
  obtain ⟨h4, h5⟩ := Au su (fu.take i) J
  have hk := hK su (fu.take i) ([.ptr c 0] :: jC :: J)
  have qy : ∀ y, (((B.set s (ny su)).set f (nA (fu.take i)) ++ ([.ptr c 0] :: jC :: J)) ++ [row]).set f (nA y) = (B.set s (ny su)).set f (nA y) ++ ([.ptr c 0] :: jC :: (J ++ [row])) := fun y => by
   rw [List.append_assoc, List.set_append_left _ _ (by simp; omega), List.set_set]
   rfl
  obtain ⟨BJ, oZ⟩ : ∃ BJ, BJ = (B.set s (ny su)).set f (nA (fu.take i)) ++ ([.ptr c 0] :: jC :: J) := ⟨_, rfl⟩
  rw [← oZ] at h4 h5 hk qy ⊢
  obtain ⟨L, hL⟩ : ∃ L, BJ.length = L := ⟨_, rfl⟩
  have Ph : N < L := by rw [← hL]; exact (List.getElem?_eq_some_iff.1 h4).1
  have qo := As (T := T) x.name (hk.more [row])
  rw [List.drop_eq_getElem_cons au, hx, List.map_cons, wD] at h3
  have Ss := yR su (fu.take i) x.name
  rw [← Ss] at h3
  dsimp only at qo
  rw [aA] at qo
  refine af.go 160 ?_
  simp only [W, seval, uq, e2, hg, lO, au, hL, h4, Ph]
  refine ag qo ?_
  rintro _ _ ⟨rfl, rfl⟩
  cases Me : gV su (fu.take i) x.name
  ·rw [Me, Bool.false_and] at h3
   rw [← h3, Bool.false_and] at cw
   subst cw
   refine af.go 60 ?_
   simp only [W, seval, uq]
   rw [oZ, List.append_assoc]
   refine af.ret Tryz.func23 rfl (wF _ _ _ _ rfl rfl (fun h => by cases h))
  ·rw [Me, Bool.true_and] at h3
   have Zj : fD cR.name (fu.take i) x.name = none := by
    unfold gV at Me
    simp only [Bool.and_eq_true] at Me
    simpa using Me.1.2
   have Vg := hk.c
   have Zk : c < L := by rw [← hL]; exact hk.lt.1
   have Gi := (hk.more [row]).f
   have ku : eP Tryz.prog ⟨BJ ++ [row], T⟩ 61 (.mp f) (.d (.str x.name)) (.agg row) = some (.undef, ⟨(B.set s (ny su)).set f (nA (fu.take (i + 1))) ++ ([.ptr c 0] :: jC :: (J ++ [row])), T⟩) := by
    unfold eP
    unfold nA at Gi
    simp only [LI, Gi]
    rw [List.take_succ_eq_append_getElem au, hx, ← qy, ← Mc (l := fu.take i) (x := x) Zj, aA]
    rfl
   rw [aA] at ku
   refine af.go 60 ?_
   simp only [W, seval, uq]
   refine af.bp 7 [] [N, c, L] (by kernel_rfl) (by kernel_rfl) (by kernel_rfl) (by kernel_rfl) (by kernel_rfl) (by kernel_rfl) (by kernel_rfl) ?_
   simp (maxSteps := 4000000) only [W, seval, uq, xw, nG, hL, h4, Ph, Vg, Zk, ku]
   refine af.go 60 ?_
   simp only [W, seval, uq, nZ]
   refine ih ⟨i + 1, J ++ [row]⟩ ⟨au, ?_⟩ (by dsimp only; omega) _ _ ?_ (by rw [aA])
   ·show p8 (su.map cM.name ++ (fu.take (i + 1)).map cR.name) ((fu.drop (i + 1)).map cR.name) = dn
    rw [List.take_succ_eq_append_getElem au, hx, List.map_append, ← List.append_assoc]
    exact h3
   ·skip
    refine ay.env _ ?_
    simp only [cZ, seval]
 have e2 : decide ((i : Int) < (fu.length : Int)) = false := decide_eq_false (by omega)
 obtain rfl : i = fu.length := by omega
 rw [List.drop_eq_nil_of_le (Nat.le_refl _), List.map_nil, Jc] at h3
 rw [List.take_length]
 clear ih h2
 rw [← h3, Bool.true_and] at cw
 clear h3 Zi dn
 obtain ⟨h4, h5⟩ := Au su fu J
 obtain ⟨BJ, oZ⟩ : ∃ BJ, BJ = (B.set s (ny su)).set f (nA fu) ++ ([.ptr c 0] :: jC :: J) := ⟨_, rfl⟩
 rw [← oZ] at h4 h5 ⊢
 rw [GK] at h5
 refine af.go 160 ?_
 simp only [W, seval, uq, e2, h5]
 clear h4 h5
 refine af.cJ (fun a : Pe => (bu 96 [(57, .d (.int .i64 (a.i : Int))), (56, .d (.int .i64 (su.length : Int))), (55, .d (.sl (su.map fJ))), (3, .ptr (N + 1) 0), (2, .ptr N 0)], ⟨(B.set s (ny su)).set f (nA fu) ++ ([.ptr c 0] :: jC :: a.J), T⟩)) (fun a => a.i ≤ su.length ∧ ((su.drop a.i).all (yS su) && fu.all (Dg su fu)) = r) (fun a => su.length - a.i) ⟨0, J⟩ ⟨Nat.zero_le _, by simpa using cw⟩ ?_ (by rw [oZ]) ?_
 ·skip
  refine ay.env _ ?_
  simp only [cZ, seval]
 clear oZ BJ J cw e2
 rintro ⟨i, J⟩ ⟨h2, h3⟩ ih
 dsimp only at h2 h3 ih ⊢
 by_cases au : i < su.length
 case pos =>
  have e2 : decide ((i : Int) < (su.length : Int)) = true := decide_eq_true (by omega)
  have nZ := aI ((i : Int) + 1) (by omega)
  have lO : (i : Int) < (su.length : Int) := by omega
  obtain ⟨x, hx⟩ : ∃ x, su[i] = x := ⟨_, rfl⟩
  obtain ⟨Vt, Vu⟩ := hT.fl su[i] (List.getElem_mem au)
  rw [hx] at Vt Vu
  have hg : (su.map fJ)[i]? = some [.str x.name, .sl (x.fields.map gI)] := by rw [List.getElem?_map, List.getElem?_eq_getElem au, hx]; rfl
  obtain ⟨row, aA⟩ : ∃ row, row = [V.d (.str x.name), V.d (.sl (x.fields.map gI))] := ⟨_, rfl⟩
  obtain ⟨h4, h5⟩ := Au su fu J
  have hk := hK su fu ([.ptr c 0] :: jC :: J)
  obtain ⟨BJ, oZ⟩ : ∃ BJ, BJ = (B.set s (ny su)).set f (nA fu) ++ ([.ptr c 0] :: jC :: J) := ⟨_, rfl⟩
  rw [← oZ] at h4 h5 hk ⊢
  obtain ⟨L, hL⟩ : ∃ L, BJ.length = L := ⟨_, rfl⟩
  have Ph : N < L := by rw [← hL]; exact (List.getElem?_eq_some_iff.1 h4).1
  rw [List.drop_eq_getElem_cons au, hx, List.all_cons] at h3
  have adR := hk.lt
  have pS := Ft (c := c) (s := s) (f := f) (xx := xx) (yy := yy) (E := ⟨su, fu, []⟩) hT (rW su).length [] x.name (BJ ++ [row, [.nI [] []]]) T (L + 1) List.countP_le_length (hk.more _) (by rw [List.getElem?_append_right (by omega), hL]; simp [Dl]) ⟨by omega, by omega, by omega⟩
  obtain ⟨M', hM'⟩ : ∃ M', M' = Dl (nD su ((rW su).length + 1) [] x.name) := ⟨_, rfl⟩
  dsimp only at pS
  rw [← hM', List.set_append_right _ _ (by omega), show L + 1 - BJ.length = 1 by omega, List.set_cons_succ, List.set_cons_zero] at pS
  have Pd : cS Tryz.prog ⟨BJ ++ [row, M'], T⟩ 120 (.mp (L + 1)) (.d (.str x.name)) false = some (.d (.bool (Zg su x.name))) := by
   rw [Qq (met := nD su ((rW su).length + 1) [] x.name) (by rw [List.getElem?_append_right (by omega), show L + 1 - BJ.length = 1 by omega, hM']; rfl)]
   rfl
  rw [aA] at pS
  refine af.go 160 ?_
  simp only [W, seval, uq, nG, e2, hg, lO, au, hL, h4, Ph]
  refine ag pS ?_
  rintro v _ rfl
  cases Og : Zg su x.name
  case true =>
   have hh : yS su x = false := by unfold yS; rw [Og]; rfl
   rw [hh, Bool.false_and, Bool.false_and] at h3
   subst h3
   rw [Og, aA] at Pd
   refine af.go 160 ?_
   simp only [W, seval, uq, nG, hL, Pd]
   rw [oZ, List.append_assoc]
   refine af.ret Tryz.func23 rfl (wF _ _ _ _ rfl rfl (fun h => by cases h))
  rw [Og, aA] at Pd
  have Cn := kK 67 [] [.ptr N 0] (fun _ : Unit => ⟨BJ ++ [row, M'], T⟩) (fun p s => (!bP su p.type, s)) (fun _ _ => ⟨rfl, rfl⟩) x.fields (by omega) () (lp x.fields fun p hp => Jg (E := ⟨su, fu, []⟩) (hk.more [row, M']) (by rw [ai (by omega)]; exact h4) (Vu p hp))
  rw [je, aA] at Cn
  have hh : yS su x = !(x.fields.any fun p => !bP su p.type) := by
   unfold yS
   rw [Og, List.not_any_eq_all_not]
   simp
  rw [hh] at h3
  refine af.go 160 ?_
  simp only [W, seval, uq, nG, hL, Pd]
  refine ag Cn ?_
  rintro _ _ ⟨rfl, rfl⟩
  cases qS : x.fields.any fun p => !bP su p.type
  case true =>
   rw [qS, Bool.not_true, Bool.false_and, Bool.false_and] at h3
   subst h3
   refine af.go 160 ?_
   simp only [W, seval, uq]
   rw [oZ, List.append_assoc]
   refine af.ret Tryz.func23 rfl (wF _ _ _ _ rfl rfl (fun h => by cases h))
  rw [qS, Bool.not_false, Bool.true_and] at h3
  refine af.go 160 ?_
  simp only [W, seval, uq, nZ]
  refine ih ⟨i + 1, J ++ [row, M']⟩ ⟨au, h3⟩ (by dsimp only; omega) _ _ ?_ (by rw [oZ, aA]; simp only [List.append_assoc, List.cons_append])
  refine ay.env _ ?_
  simp only [cZ, seval]
 have e2 : decide ((i : Int) < (su.length : Int)) = false := decide_eq_false (by omega)
 obtain rfl : i = su.length := by omega
 rw [List.drop_eq_nil_of_le (Nat.le_refl _), List.all_nil, Bool.true_and] at h3
 clear ih h2
 obtain ⟨h4, h5⟩ := Au su fu J
 obtain ⟨BJ, oZ⟩ : ∃ BJ, BJ = (B.set s (ny su)).set f (nA fu) ++ ([.ptr c 0] :: jC :: J) := ⟨_, rfl⟩
 rw [← oZ] at h4 h5 ⊢
 rw [GK] at h5
 refine af.go 160 ?_
 simp only [W, seval, uq, e2, h5]
 clear h4 h5
 refine af.cJ (fun a : Pe => (bu 96 [(81, .d (.int .i64 (a.i : Int))), (80, .d (.int .i64 (fu.length : Int))), (79, .d (.sl (fu.map fK))), (3, .ptr (N + 1) 0), (2, .ptr N 0)], ⟨(B.set s (ny su)).set f (nA fu) ++ ([.ptr c 0] :: jC :: a.J), T⟩)) (fun a => a.i ≤ fu.length ∧ (fu.drop a.i).all (Dg su fu) = r) (fun a => fu.length - a.i) ⟨0, J⟩ ⟨Nat.zero_le _, by simpa using h3⟩ ?_ (by rw [oZ]) ?_
 ·skip
  refine ay.env _ ?_
  simp only [cZ, seval]
 clear oZ BJ J h3 e2
 rintro ⟨i, J⟩ ⟨h2, h3⟩ ih
 dsimp only at h2 h3 ih ⊢
 by_cases au : i < fu.length
 case neg =>
  have e2 : decide ((i : Int) < (fu.length : Int)) = false := decide_eq_false (by omega)
  obtain rfl : i = fu.length := by omega
  rw [List.drop_eq_nil_of_le (Nat.le_refl _), List.all_nil] at h3
  subst h3
  refine af.go 160 ?_
  simp only [W, seval, uq, e2]
  refine af.ret Tryz.func23 rfl (wF _ _ _ _ rfl rfl (fun _ => ⟨rfl, rfl⟩))
 have e2 : decide ((i : Int) < (fu.length : Int)) = true := decide_eq_true (by omega)
 have nZ := aI ((i : Int) + 1) (by omega)
 have lO : (i : Int) < (fu.length : Int) := by omega
 obtain ⟨x, hx⟩ : ∃ x, fu[i] = x := ⟨_, rfl⟩
 obtain ⟨Vt, hxr, Vu, hxu⟩ := hT.pa fu[i] (List.getElem_mem au)
 rw [hx] at Vt hxr Vu hxu
 have hg : (fu.map fK)[i]? = some [.str x.name, .sl (x.params.map gI), .sl (x.results.map ej), .sl (x.body.map dL)] := by rw [List.getElem?_map, List.getElem?_eq_getElem au, hx]; rfl
 obtain ⟨row, aA⟩ : ∃ row, row = [V.d (.str x.name), V.d (.sl (x.params.map gI)), V.d (.sl (x.results.map ej)), V.d (.sl (x.body.map dL))] := ⟨_, rfl⟩
 obtain ⟨h4, h5⟩ := Au su fu J
 have hk := hK su fu ([.ptr c 0] :: jC :: J)
 obtain ⟨BJ, oZ⟩ : ∃ BJ, BJ = (B.set s (ny su)).set f (nA fu) ++ ([.ptr c 0] :: jC :: J) := ⟨_, rfl⟩
 rw [← oZ] at h4 h5 hk ⊢
 obtain ⟨L, hL⟩ : ∃ L, BJ.length = L := ⟨_, rfl⟩
 have Ph : N < L := by rw [← hL]; exact (List.getElem?_eq_some_iff.1 h4).1
 rw [List.drop_eq_getElem_cons au, hx, List.all_cons] at h3
 have Cn := kK 69 [] [.ptr N 0] (fun _ : Unit => ⟨BJ ++ [row], T⟩) (fun p s => (!(bP su p.type && gV su fu p.name), s)) (fun _ _ => ⟨rfl, rfl⟩) x.params (by omega) () (lp x.params fun p hp => Ji (E := ⟨su, fu, []⟩) (hk.more [row]) (by rw [ai (by omega)]; exact h4) (Vu p hp))
 have Vv := lg 71 [] [.ptr N 0] (fun _ : Unit => ⟨BJ ++ [row], T⟩) (fun t s => (!bP su t, s)) (fun _ _ => ⟨rfl, rfl⟩) x.results (by omega) () (lp x.results fun t ht => Jh (E := ⟨su, fu, []⟩) (hk.more [row]) (by rw [ai (by omega)]; exact h4) (hxu t ht))
 rw [je, aA] at Cn Vv
 have hh : Dg su fu x = (!(x.params.any fun p => !(bP su p.type && gV su fu p.name)) && !(x.results.any fun t => !bP su t)) := by
  unfold Dg
  rw [List.not_any_eq_all_not, List.not_any_eq_all_not]
  simp
 rw [hh] at h3
 refine af.go 160 ?_
 simp only [W, seval, uq, e2, hg, lO, au, hL, h4, Ph]
 refine ag Cn ?_
 rintro _ _ ⟨rfl, rfl⟩
 cases qS : x.params.any fun p => !(bP su p.type && gV su fu p.name)
 case true =>
  rw [qS, Bool.not_true, Bool.false_and, Bool.false_and] at h3
  subst h3
  refine af.go 160 ?_
  simp only [W, seval, uq, hL]
  rw [oZ, List.append_assoc]
  refine af.ret Tryz.func23 rfl (wF _ _ _ _ rfl rfl (fun h => by cases h))
 rw [qS, Bool.not_false, Bool.true_and] at h3
 refine af.go 160 ?_
 simp only [W, seval, uq, hL]
 refine ag Vv ?_
 rintro _ _ ⟨rfl, rfl⟩
 cases Qr : x.results.any fun t => !bP su t
 case true =>
  rw [Qr, Bool.not_true, Bool.false_and] at h3
  subst h3
  refine af.go 160 ?_
  simp only [W, seval, uq, hL]
  rw [oZ, List.append_assoc]
  refine af.ret Tryz.func23 rfl (wF _ _ _ _ rfl rfl (fun h => by cases h))
 rw [Qr, Bool.not_false, Bool.true_and] at h3
 refine af.go 160 ?_
 simp only [W, seval, uq, hL, nZ]
 refine ih ⟨i + 1, J ++ [row]⟩ ⟨au, h3⟩ (by dsimp only; omega) _ _ ?_ (by rw [oZ, aA]; simp only [List.append_assoc, List.cons_append])
 refine ay.env _ ?_
 simp only [cZ, seval]
end
end Go.Proofs.YtnfnbjjnjjdjdaaGreatDoor
namespace Go.Ab
open Go.RowKit Go.Av
set_option linter.unusedSimpArgs false
inductive Deep (n : Nat) (B : List (List V)) : V → D → Prop
 | d (x : D) : Deep n B (.d x) x
 | full (rows : List (List D)) : Deep n B (.sl rows .full) (.sl rows)
 | bx (j cap sz : Nat) (Y : List V) (rows : List (List D)) : n ≤ j → B[j]? = some Y → MP Y → 0 < sz → (∀ r ∈ rows, r.length = sz) → rows.length * sz ≤ Y.length →
  (∀ i (h : i < rows.length) q (_ : q < (rows[i]).length) v, Y[i * sz + q]? = some v → Deep n B v (rows[i])[q]) → Deep n B (.bx j rows.length cap) (.sl rows)
theorem dc.notM {c : Cx} {w : World} {S : Mem} (h5 : dc c w S) {n m j b0 : Nat} (hj : n ≤ j) (iM : c.ρ[j]? = some b0) : ∀ q, ¬ (c.cut n m).M b0 q := by
 rintro q ((hm | hm) | ⟨t, i, off, ht, ha, e1, e2⟩)
 ·have e1 := (c.hX _ _ hm).2
  obtain ⟨e3, _⟩ := h5.box _ _ iM
  omega
 ·obtain ⟨k, hk⟩ := iT.1 hm
  have Dy : (c.ρ.take n)[k]? = some b0 := hk
  rw [List.getElem?_take] at Dy
  split at Dy
  case isFalse => cases Dy
  have := h5.inj _ _ _ Dy iM
  omega
 ·have gw : (c.τ.take m)[t]? = some i := ht
  rw [List.getElem?_take] at gw
  split at gw
  case isFalse => cases gw
  obtain ⟨a1, a2, a3, a4, a5⟩ := h5.tok t i gw
  have au : i.n < i.cap := by
   rcases Nat.lt_or_ge i.n i.cap with h' | h'
   ·exact h'
   ·have := Nat.mul_le_mul_right i.sz h'
    omega
  exact (a5 au b0 off ha).2.1 (iT.2 ⟨_, iM⟩)
theorem Deep.dr {c : Cx} {w : World} {S : Mem} (h5 : dc c w S) {n m : Nat} {v : V} {x : D} (h : Deep n S.boxes v x) : ∀ {y : Value}, VR c w v y → DR (c.cut n m).M w x y := by
 induction h with
 | d x =>
  intro y hv
  cases hv with
  | d _ _ h => exact h.cut _ _
 | full rows => exact fun hv => (fL hv rfl).cut _ _
 | bx j cap sz Y rows hj hB zB h0 hr hl hd ih =>
  intro y hv
  cases hv with
  | bx _ _ _ b0 iM hn hm hT =>
   obtain ⟨cs, Ty, hh, dG, oF⟩ := h5.qM iM (h5.zg iM hB zB) hB
   have Sv := h5.notM (m := m) hj iM
   have pos : ∀ i (h : i < rows.length) q (hq : q < (rows[i]).length), i * sz + q < Y.length := fun i h q hq => by
    have e := hr _ (List.getElem_mem h)
    have := Nat.mul_le_mul_right sz (show i + 1 ≤ rows.length by omega)
    rw [Nat.add_mul] at this
    omega
   refine .sl rows sz _ cap (fun i q => cs.getD (i * sz + q) undef) h0 hr hn hm (fun _ => ⟨b0, 0, rfl, fun i hi q hq => ⟨Sv _, ?_⟩⟩) (fun i hi q hq => ?_)
   ·rw [Nat.zero_add]
    exact (oF _ (pos i hi q hq)).1
   ·exact ih i hi q hq _ (List.getElem?_eq_getElem (pos i hi q hq)) (oF _ (pos i hi q hq)).2.1
theorem aD.Vw {P : Program} {I : Inv} {f : FuncId} {args : List V} {S : Mem} {R : V → Mem → Prop}
 (h : aD P I f args S fun v S' => ∃ L J T K v1 v2 d1 d2 y, S' = ⟨L ++ J, T ++ K⟩ ∧ L.length = S.boxes.length ∧ T.length = S.aL.length ∧ zy S.boxes.length S.aL.length S.boxes L ∧ v = .bZ [.agg [v1, v2], .d y] ∧ Deep S.boxes.length (L ++ J) v1 d1 ∧ Deep S.boxes.length (L ++ J) v2 d2 ∧ R (.bZ [.agg [.d d1, .d d2], .d y]) ⟨L, T⟩) : aD P I f args S R := by
 refine ⟨h.1, fun c w xs h1 h2 h3 hI cs => ?_⟩
 obtain ⟨e, w', fr, ⟨v, x, S', c', a1, ⟨L, J, T, K, v1, v2, d1, d2, y, rfl, b2, b3, b4, rfl, g1, g2, b5⟩, a3, a4, a5⟩, h⟩ := h.2 c w xs h1 h2 h3 hI cs
 obtain ⟨r1, r2, r3⟩ := forget h3 a4 a3 a5 b2 b3 b4
 refine ⟨e, w', fr, ⟨_, x, _, _, a1, b5, r1, r2, ?_⟩, h⟩
 cases a5 with
 | bZ vs cs q1 q2 =>
  refine .bZ _ cs q1 fun j hj => ?_
  have hq := q2 j hj
  match j, hj with
  | 0, hj =>
   have hq : VR c' w' (.agg [v1, v2]) (cs.getD 0 undef) := hq
   show VR _ _ (.agg [.d d1, .d d2]) (cs.getD 0 undef)
   generalize cs.getD 0 undef = X at hq
   cases hq with
   | agg vs cs p1 p2 p3 =>
    refine .agg _ cs p1 (fun j hj => ?_) p3
    match j, hj with
    | 0, hj => exact .d _ _ (g1.dr a3 (p2 0 hj))
    | 1, hj => exact .d _ _ (g2.dr a3 (p2 1 hj))
  | 1, hj =>
   have hq : VR c' w' (.d y) (cs.getD 1 undef) := hq
   show VR _ _ (.d y) (cs.getD 1 undef)
   exact (hq.cut _ _)
end Go.Ab
namespace Go.Proofs.YtnfnbjjnjjdjdaaGreatDoor
open Go.RowKit Go.Av Go.Ab
set_option linter.unusedSimpArgs false
theorem kG.deep {α : Type} {sz n lo hi : Nat} {f : α → Nat → Nat → List V → Prop} {g : α → List D} {l : List α} {B : List (List V)} {v : V} (dG : 2 ≤ sz) (h : kG (bL sz f l) l.length B lo hi v) (hn : n ≤ lo) (hg : ∀ x ∈ l, (g x).length = sz)
 (hf : ∀ x ∈ l, ∀ a b r, n ≤ a → f x a b r → ∀ q (hq : q < (g x).length) u, r[q]? = some u → Deep n B u (g x)[q]) : Deep n B v (.sl (l.map g)) := by
 rcases h with ⟨h0, rfl, _⟩ | ⟨h0, j, cap, Y, rfl, h1, h2, h3, h4⟩
 ·obtain rfl := List.eq_nil_of_length_eq_zero h0
  exact .d _
 have hl := h4.len
 have := Deep.bx (n := n) (B := B) j cap sz Y (l.map g) (by omega) h3 (fun ks us he => by
  rw [he] at hl
  have := Nat.mul_le_mul_right sz (show 1 ≤ l.length by omega)
  simp at hl
  omega) (by omega) (fun r hr => by obtain ⟨x, hx, rfl⟩ := List.mem_map.1 hr; exact hg x hx) (by rw [List.length_map]; exact hl) (fun i hi q hq u hu => ?_)
 ·rwa [List.length_map] at this
 rw [List.length_map] at hi
 obtain ⟨A, r, C, eC, dM, e1, e2, e3, e4, e5, e6, e7, _⟩ := h4.at i l[i] (List.getElem?_eq_getElem hi)
 have y5 : q < (g l[i]).length := by simpa using hq
 have hqs : q < sz := by rw [hg _ (List.getElem_mem hi)] at y5; exact y5
 have hr : r[q]? = some u := by
  rw [e1, List.append_assoc, List.getElem?_append_right (by omega), e2, Nat.add_sub_cancel_left, List.getElem?_append_left (by omega)] at hu
  exact hu
 have := hf l[i] (List.getElem_mem hi) eC dM r (by omega) e7 q y5 u hr
 simpa using this
mutual
theorem iG.deep {n : Nat} {B : List (List V)} : ∀ (x : aj) {lo hi : Nat} {r : List V}, n ≤ lo → iG B x lo hi r → ∀ q (hq : q < (eH x).length) u, r[q]? = some u → Deep n B u (eH x)[q]
 | .mk k t i ty ns ks, lo, hi, r, hn, h => by
  unfold iG at h
  obtain ⟨kv, rfl, hk⟩ := h
  rw [Ar] at hk
  have hd : Deep n B kv (.sl (ks.map eH)) := kG.deep (g := eH) (by omega) hk hn (fun x _ => by rw [cP]; rfl) fun x hx a b r ha hf => iG.nt ks x hx ha hf
  rw [cP]
  intro q hq u hu
  have hq8 : q < 8 := hq
  rcases q with _ | _ | _ | _ | _ | _ | _ | _ | q
  all_goals first
   | omega
   | (simp only [aR, List.getElem?_cons_zero, List.getElem?_cons_succ, Option.some.injEq] at hu
      subst hu
      first
       | exact .d _
       | exact hd)
theorem iG.nt {n : Nat} {B : List (List V)} : ∀ (l : List aj) (x : aj), x ∈ l → ∀ {lo hi : Nat} {r : List V}, n ≤ lo → iG B x lo hi r → ∀ q (hq : q < (eH x).length) u, r[q]? = some u → Deep n B u (eH x)[q]
 | y :: l, x, hx, lo, hi, r, hn, h => by
  rcases List.mem_cons.1 hx with e | hx
  ·rw [e] at h ⊢
   exact iG.deep y hn h
  ·exact iG.nt l x hx hn h
end
theorem fN.deep {n lo hi : Nat} {B : List (List V)} {l : List aj} {v : V} (h : fN B l lo hi v) (hn : n ≤ lo) : Deep n B v (.sl (l.map eH)) := by
 unfold fN at h
 rw [Ar] at h
 exact kG.deep (g := eH) (by omega) h hn (fun x _ => by rw [cP]; rfl) fun x hx a b r ha hf => iG.nt l x hx ha hf
mutual
theorem ia.deep {n : Nat} {B : List (List V)} : ∀ (x : aF) {lo hi : Nat} {r : List V}, n ≤ lo → ia B x lo hi r → ∀ q (hq : q < (dL x).length) u, r[q]? = some u → Deep n B u (dL x)[q]
 | .mk k ns ty ls es b e cs, lo, hi, r, hn, h => by
  unfold ia at h
  obtain ⟨v1, v2, v3, v4, v5, m1, m2, m3, m4, rfl, o1, o2, o3, o4, o5⟩ := h
  have l1 := o1.le
  have l2 := o2.le
  have l3 := o3.le
  have l4 := o4.le
  rw [rV] at o3 o4
  rw [Dj] at o5
  have h1 := o1.deep hn
  have h2 := o2.deep (n := n) (by omega)
  have h3 : Deep n B v3 (.sl (b.map dL)) := kG.deep (g := dL) (by omega) o3 (by omega) (fun x _ => by rw [bY]; rfl) fun x hx a z r ha hf => ia.nt b x hx ha hf
  have h4 : Deep n B v4 (.sl (e.map dL)) := kG.deep (g := dL) (by omega) o4 (by omega) (fun x _ => by rw [bY]; rfl) fun x hx a z r ha hf => ia.nt e x hx ha hf
  have h5 : Deep n B v5 (.sl (cs.map jJ)) := kG.deep (g := jJ) (by omega) o5 (by omega) (fun x _ => by rw [gr]; rfl) fun x hx a z r ha hf => jj.nt cs x hx ha hf
  rw [bY]
  intro q hq u hu
  have hq8 : q < 10 := hq
  rcases q with _ | _ | _ | _ | _ | _ | _ | _ | _ | _ | q
  all_goals first
   | omega
   | (simp only [cT, List.getElem?_cons_zero, List.getElem?_cons_succ, Option.some.injEq] at hu
      subst hu
      first
       | exact .d _
       | exact h1
       | exact h2
       | exact h3
       | exact h4
       | exact h5)
theorem ia.nt {n : Nat} {B : List (List V)} : ∀ (l : List aF) (x : aF), x ∈ l → ∀ {lo hi : Nat} {r : List V}, n ≤ lo → ia B x lo hi r → ∀ q (hq : q < (dL x).length) u, r[q]? = some u → Deep n B u (dL x)[q]
 | y :: l, x, hx, lo, hi, r, hn, h => by
  rcases List.mem_cons.1 hx with e | hx
  ·rw [e] at h ⊢
   exact ia.deep y hn h
  ·exact ia.nt l x hx hn h
theorem jj.deep {n : Nat} {B : List (List V)} : ∀ (x : cQ) {lo hi : Nat} {r : List V}, n ≤ lo → jj B x lo hi r → ∀ q (hq : q < (jJ x).length) u, r[q]? = some u → Deep n B u (jJ x)[q]
 | .mk i b, lo, hi, r, hn, h => by
  unfold jj at h
  obtain ⟨v, rfl, hv⟩ := h
  rw [rV] at hv
  have h3 : Deep n B v (.sl (b.map dL)) := kG.deep (g := dL) (by omega) hv (by omega) (fun x _ => by rw [bY]; rfl) fun x hx a z r ha hf => ia.nt b x hx ha hf
  rw [gr]
  intro q hq u hu
  have hq8 : q < 2 := hq
  rcases q with _ | _ | q
  all_goals first
   | omega
   | (simp only [List.getElem?_cons_zero, List.getElem?_cons_succ, Option.some.injEq] at hu
      subst hu
      first
       | exact .d _
       | exact h3)
theorem jj.nt {n : Nat} {B : List (List V)} : ∀ (l : List cQ) (x : cQ), x ∈ l → ∀ {lo hi : Nat} {r : List V}, n ≤ lo → jj B x lo hi r → ∀ q (hq : q < (jJ x).length) u, r[q]? = some u → Deep n B u (jJ x)[q]
 | y :: l, x, hx, lo, hi, r, hn, h => by
  rcases List.mem_cons.1 hx with e | hx
  ·rw [e] at h ⊢
   exact jj.deep y hn h
  ·exact jj.nt l x hx hn h
end
theorem fH.deep {n lo hi : Nat} {B : List (List V)} {l : List aF} {v : V} (h : fH B l lo hi v) (hn : n ≤ lo) : Deep n B v (.sl (l.map dL)) := by
 unfold fH at h
 rw [rV] at h
 exact kG.deep (g := dL) (by omega) h hn (fun x _ => by rw [bY]; rfl) fun x hx a b r ha hf => ia.nt l x hx ha hf
end Go.Proofs.YtnfnbjjnjjdjdaaGreatDoor
namespace Go.Ab
open Go.RowKit Go.Av
set_option linter.unusedSimpArgs false
theorem af.Vx {P : Program} {I : Inv} {ops : Array Oper} {z : Nat × Nat} {fn : FuncId} {k : List Item} {R : V → Mem → Prop} {id : Nat} {env : List V} {S : Mem} (W : List Nat) (MM : Mem → Prop) (hm : P.follows .mixedOrders = true) (h : jI P I ops W MM (fun env S => af P I z fn k env S R) ops.size (Array.replicate ops.size false) env S) : af P I z fn (.code (.region id ops true) :: k) env S R := by
 intro b a c w c0 w0 h1 h2 h3 h4 h5 h6 hI cs
 have hd : Below w.heap.size w { w with drawn := w.drawn + 1 } := ⟨rfl, rfl, rfl, Nat.le_refl _, fun _ _ => rfl⟩
 obtain ⟨r1, r2⟩ := h5.under hd
 have aX := qW (fn := fn) (k := k) (R := R) ops.size (w.tape w.drawn (.order b.fn id)) _ _ _ h
 obtain ⟨e, w', fr, g1, g2, g3⟩ := aX b a c _ c0 w0 h1 h2 h3 (h4.ext r2) r1 (h6.trans r2) ⟨r2.I.trans hI.1, hI.2⟩ cs
 refine ⟨e, w', fr, g1, .of_steps (.one ?_) g2, g3⟩
 have := step_region_draw (P := P) (b := b) (a := a) (k := k) (cs := cs) (w := w) (ops := ops) (id := id)
 rw [this]
 simp only [Region.schedule, hm, Bool.true_or, if_true, Region.linearise]
theorem aD.Vy {P : Program} {I : Inv} {f : FuncId} {args : List V} {S : Mem} {R : V → Mem → Prop}
 (h : aD P I f args S fun v S' => ∃ L J T K d, S' = ⟨L ++ J, T ++ K⟩ ∧ L.length = S.boxes.length ∧ T.length = S.aL.length ∧ zy S.boxes.length S.aL.length S.boxes L ∧ Deep S.boxes.length (L ++ J) v d ∧ R (.d d) ⟨L, T⟩) : aD P I f args S R := by
 refine ⟨h.1, fun c w xs h1 h2 h3 hI cs => ?_⟩
 obtain ⟨e, w', fr, ⟨v, x, S', c', a1, ⟨L, J, T, K, d, rfl, b2, b3, b4, g1, b5⟩, a3, a4, a5⟩, h⟩ := h.2 c w xs h1 h2 h3 hI cs
 obtain ⟨r1, r2, r3⟩ := forget h3 a4 a3 a5 b2 b3 b4
 exact ⟨e, w', fr, ⟨_, x, _, _, a1, b5, r1, r2, .d _ _ (g1.dr a3 a5)⟩, h⟩
end Go.Ab
namespace Go.Proofs.YtnfnbjjnjjdjdaaGreatDoor
open Go.RowKit Go.Av Go.Ab
theorem tU {su : List cM} (hl : su.length ≤ 60000) (B : List (List V)) (T : List (Nat × Nat)) : aD Tryz.prog av 24 [.d (.sl (su.map fJ))] ⟨B, T⟩ (aB (.d (.sl (su.map fJ))) ⟨B, T⟩) := by
 have hr : ∀ r ∈ su.map fJ, r.length = 2 := by intro r hr; obtain ⟨x, _, rfl⟩ := List.mem_map.1 hr; rfl
 refine aD.Vy ((Aq (su.map fJ) hr (by rw [List.length_map]; omega) B T).mono fun v S' h => ?_)
 rcases h with ⟨h0, rfl, rfl⟩ | ⟨h0, cap, h1, h2, rfl, rfl⟩
 ·exact ⟨B, [], T, [], _, by rw [List.append_nil, List.append_nil], rfl, rfl, (qg.refl _ _ _).cells, .d _, by rw [h0]; exact ⟨rfl, rfl⟩⟩
 ·have xk := lW hr
  obtain ⟨X, hX⟩ : ∃ X, X = List.replicate ((cap - (su.map fJ).length) * 2) V.undef := ⟨_, rfl⟩
  rw [← hX]
  have hle : (su.map fJ).length * 2 ≤ ((su.map fJ).flatten.map V.d ++ X).length := by rw [List.length_append, xk]; omega
  refine ⟨B, [(su.map fJ).flatten.map V.d ++ X], T, [], _, by rw [List.append_nil], rfl, rfl, (qg.refl _ _ _).cells, .bx B.length cap 2 _ _ (Nat.le_refl _) (cy rfl) (fun ks us he => ?_) (by decide) hr hle (fun i hi q hq v hv => ?_), rfl, rfl⟩
  ·rw [he] at hle
   have : 1 ≤ (su.map fJ).length := Nat.one_le_iff_ne_zero.2 fun e => h0 (List.eq_nil_of_length_eq_zero e)
   simp only [List.length_cons, List.length_nil] at hle
   omega
  ·have hg := qX hr i q _ _ (List.getElem?_eq_getElem hi) (List.getElem?_eq_getElem hq)
   have au := (List.getElem?_eq_some_iff.1 hg).1
   rw [List.getElem?_append_left (by rw [List.length_map]; exact au), List.getElem?_map, hg] at hv
   obtain rfl := Option.some.inj hv
   exact .d _
end Go.Proofs.YtnfnbjjnjjdjdaaGreatDoor
namespace Go.Proofs.YtnfnbjjnjjdjdaaGreatDoor
open Go.RowKit Go.Av Go.Ab
set_option linter.unusedSimpArgs false
mutual
theorem Fu : ∀ s : aF, vY (mC s) = vY s
 | .mk k ns ty ls es b e cs => by
  have h1 := jq b
  have h2 := jq e
  have h3 := wG cs
  unfold mC vY
  rw [h1, h2, h3]
theorem jq : ∀ l : List aF, dY (cx l) = dY l
 | [] => by unfold cx dY; rfl
 | [x] => by
  have h := Fu x
  unfold cx cx dY
  exact h
 | x :: y :: l => by
  have h := jq (y :: l)
  rw [dj] at h ⊢
  show dY (mC x :: (mC y :: l.map mC)) = _
  unfold dY
  dsimp only
  exact h
theorem wG : ∀ l : List cQ, ni (jm l) = ni l
 | [] => by unfold jm ni; rfl
 | .mk i b :: l => by
  have h1 := jq b
  have h2 := wG l
  unfold jm E7 ni
  rw [h1, h2]
end
theorem Jj {l m : List aF} (h : cx l = cx m) : dY l = dY m := by rw [← jq l, h, jq m]
set_option maxRecDepth 100000
set_option linter.defProp false
def c9 := by
 have c := aN Tryz.f9 (by conv => lhs; cbv)
 dsimp only [KK, fj, eR, eS, List.map_cons, List.map_nil, List.toList_toArray] at c
 exact c
theorem b9 : bK Tryz.prog 9 Tryz.f9 95 := ⟨Tryz.func9, by kernel_rfl⟩
theorem mV {P : Program} {I : Inv} {ops : Array Oper} {W : List Nat} {MM : Mem → Prop} {K : List V → Mem → Prop} {n : Nat} {listed : Array Bool} {env : List V} {S : Mem} (i : Nat) {o : Oper} (hM : MM S) (hr : Region.ready .any ops listed = [i]) (ho : ops[i]? = some o) (hw : W.contains i = true) (h : WC P I ops o env S fun v S' => jI P I ops W MM K n (listed.setIfInBounds i true) (aK env o.dst v) S') : jI P I ops W MM K (n + 1) listed env S :=
 ⟨hM, fun e => (by rw [hr] at e; cases e), fun x hx => by
  rw [hr] at hx
  obtain rfl := List.mem_singleton.1 hx
  exact ⟨o, ho, .inl ⟨hw, h⟩⟩⟩
theorem GL {P : Program} {I : Inv} {ops : Array Oper} {W : List Nat} {MM : Mem → Prop} {K : List V → Mem → Prop} {n : Nat} {listed : Array Bool} {env : List V} {S : Mem} (i j : Nat) {o o2 : Oper} (hM : MM S) (hr : Region.ready .any ops listed = [i, j]) (ho : ops[i]? = some o) (ho2 : ops[j]? = some o2) (hw : W.contains i = true) (SF : W.contains j = true) (h : WC P I ops o env S fun v S' => jI P I ops W MM K n (listed.setIfInBounds i true) (aK env o.dst v) S') (h2 : WC P I ops o2 env S fun v S' => jI P I ops W MM K n (listed.setIfInBounds j true) (aK env o2.dst v) S') : jI P I ops W MM K (n + 1) listed env S :=
 ⟨hM, fun e => (by rw [hr] at e; cases e), fun x hx => by
  rw [hr] at hx
  simp only [List.mem_cons, List.not_mem_nil, or_false] at hx
  rcases hx with rfl | rfl
  ·exact ⟨o, ho, .inl ⟨hw, h⟩⟩
  ·exact ⟨o2, ho2, .inl ⟨SF, h2⟩⟩⟩
theorem rX {P : Program} {I : Inv} {ops : Array Oper} {o : Oper} {env : List V} {S : Mem} {K : V → Mem → Prop} {q : Call} {f : Operand} {g : FuncId} {args : List V} {Q : V → Mem → Prop} (hg : o.guard = none) (h1 : o.op = .call q) (h2 : q.callee = .value f) (h3 : ah I env f = .func g [] []) (h4 : q.args.toList.map (ah I env) = args) (bV : ∃ v S', Q v S') (h : aD P I g args S Q) (hk : ∀ v S', Q v S' → K v S') : WC P I ops o env S K :=
 ⟨Q, bV, .inl ⟨.inl hg, .inr (.inl ⟨q, f, g, [], [], h1, h2, h3, by rw [h4]; simpa using h⟩)⟩, hk⟩
theorem yT {P : Program} {ev : Operand → V} {S : Mem} {N q : Nat} {Y : List V} {v : V} {o : Op} {t : TypeId} {a : Operand} {ti : tc} (hS : S.boxes[N]? = some Y) (nF : o = .load t a) (ht : bB P t = some ti) (Xw : ti.agg = false) (ha : ev a = .ptr N q) (hv : Y[q]? = some v) : cU P ev S o = some (v, S) := by
 subst nF
 show still S (fM P S t (ev a)) = _
 rw [ha]
 simp [fM, ht, hS, pK, Xw, hv, still]
theorem Vz : bB Tryz.prog 22 = some ⟨.slice 67, 1, 24, false, [.sl [] .full]⟩ := by kernel_rfl
theorem VA : bB Tryz.prog 23 = some ⟨.slice 41, 1, 24, false, [.sl [] .full]⟩ := by kernel_rfl
theorem VB : bB Tryz.prog 25 = some ⟨.struct [(0, 1), (1, 1)], 2, 48, true, [.sl [] .full, .sl [] .full]⟩ := by kernel_rfl
theorem sY {ev : Operand → V} {S : Mem} {v1 v2 : V} {o : Op} {a b : Operand} (nF : o = .build 25 #[(0, a), (1, b)]) (ha : ev a = v1) (hb : ev b = v2) (c1 : fy v1 = some [v1]) (c2 : fy v2 = some [v2]) : cU Tryz.prog ev S o = some (.agg [v1, v2], S) := by
 subst nF
 show still S (oI Tryz.prog 25 [(0, ev a), (1, ev b)]) = _
 rw [ha, hb]
 simp [oI, VB, pL, c1, c2, still]
theorem sZ {ev : Operand → V} {M : List (List V)} {T : List (Nat × Nat)} {j : Nat} {v1 v2 u1 u2 : V} {o : Op} {a x : Operand} (nF : o = .store 25 a x) (ha : ev a = .ptr j 0) (hx : ev x = .agg [v1, v2]) (hM : M[j]? = some [u1, u2]) : cU Tryz.prog ev ⟨M, T⟩ o = some (.undef, ⟨M.set j [v1, v2], T⟩) := by
 subst nF
 show mF Tryz.prog ⟨M, T⟩ 25 (ev a) (ev x) = _
 rw [ha, hx]
 simp [mF, VB, fy, hM]
def fC (su : List cM) (fu : List cR) (f : cR) : Option cR :=
 match cB su fu f.results f.body f.params with
 | some b => if dY f.body = true then some ⟨f.name, f.params, f.results, b⟩ else none
 | none => none
def jr (rb : Bool) (p : oV) : oV × Int :=
 if rb = true then (if sX p.structs p.funcs = true then (match p.funcs.mapM (fC p.structs p.funcs) with
  | some fs => (⟨p.structs, fs⟩, 0)
  | none => (⟨[], []⟩, 52)) else (⟨[], []⟩, 52)) else (⟨[], []⟩, 2)
def W2 (p : oV) (M : List (List V)) (a : Nat) (v2 : V) (M' : List (List V)) : Prop :=
 M.length ≤ a ∧ (∀ k, k < M.length → M'[k]? = M[k]?) ∧ M'[a]? = some [.d (.sl (p.structs.map fJ)), v2] ∧
  ((p.funcs = [] ∧ v2 = .d (.sl []) ∧ M'.length = M.length + 1) ∨ (p.funcs ≠ [] ∧ ∃ b cap J, v2 = .bx b p.funcs.length cap ∧ M.length ≤ b ∧ b ≠ a ∧ M'[b]? = some ((p.funcs.map fK).flatten.map V.d ++ J) ∧ M'.length = M.length + 2))
theorem Pj {p : oV} {M M2 : List (List V)} {v2 u1 u2 : V} (l2 : M.length ≤ M2.length) (p2 : ∀ k, k < M.length → M2[k]? = M[k]?)
 (d2 : (p.funcs.map fK = [] ∧ v2 = .d (.sl []) ∧ M2 = M) ∨ (p.funcs.map fK ≠ [] ∧ ∃ cap J, v2 = .bx M.length (p.funcs.map fK).length cap ∧ M2 = M ++ [(p.funcs.map fK).flatten.map V.d ++ J])) : W2 p M M2.length v2 ((M2 ++ [[u1, u2]]).set M2.length [.d (.sl (p.structs.map fJ)), v2]) := by
 refine ⟨l2, fun k hk => ?_, ?_, ?_⟩
 ·rw [List.getElem?_set_ne (by omega), ai (by omega), p2 k hk]
 ·rw [List.getElem?_set_self (by simp)]
 ·rcases d2 with ⟨h0, rfl, rfl⟩ | ⟨h0, cap, J, rfl, rfl⟩
  ·exact .inl ⟨by simpa using h0, rfl, by simp⟩
  ·rw [List.length_map]
   refine .inr ⟨fun e => h0 (by rw [e]; rfl), M.length, cap, J, rfl, Nat.le_refl _, by simp, ?_, by simp⟩
   rw [List.getElem?_set_ne (by simp), ai (by simp), cy rfl]
   rfl
theorem GM {p : oV} {M M2 : List (List V)} {v2 u1 u2 : V} (l2 : (M ++ [[u1, u2]]).length ≤ M2.length) (p2 : ∀ k, k < (M ++ [[u1, u2]]).length → M2[k]? = (M ++ [[u1, u2]])[k]?)
 (d2 : (p.funcs.map fK = [] ∧ v2 = .d (.sl []) ∧ M2 = M ++ [[u1, u2]]) ∨ (p.funcs.map fK ≠ [] ∧ ∃ cap J, v2 = .bx (M ++ [[u1, u2]]).length (p.funcs.map fK).length cap ∧ M2 = (M ++ [[u1, u2]]) ++ [(p.funcs.map fK).flatten.map V.d ++ J])) : W2 p M M.length v2 (M2.set M.length [.d (.sl (p.structs.map fJ)), v2]) := by
 have hl : (M ++ [[u1, u2]]).length = M.length + 1 := by simp
 refine ⟨Nat.le_refl _, fun k hk => ?_, ?_, ?_⟩
 ·rw [List.getElem?_set_ne (by omega), p2 k (by omega), ai hk]
 ·rw [List.getElem?_set_self (by omega)]
 ·rcases d2 with ⟨h0, rfl, rfl⟩ | ⟨h0, cap, J, rfl, rfl⟩
  ·exact .inl ⟨by simpa using h0, rfl, by simp⟩
  ·rw [List.length_map]
   refine .inr ⟨fun e => h0 (by rw [e]; rfl), _, cap, J, rfl, by omega, by omega, ?_, by simp⟩
   rw [List.getElem?_set_ne (by omega), cy rfl]
   rfl
section
variable {p : oV} {T : List (Nat × Nat)} {z : Nat × Nat} {k : List Item} {R : V → Mem → Prop}
set_option maxHeartbeats 4000000 in
theorem Az {N : Nat} {M : List (List V)} (Th : p.structs.length ≤ 60000) (VC : p.funcs.length ≤ 60000) (hM : M[N]? = some [V.d (.sl (p.structs.map fJ)), V.d (.sl (p.funcs.map fK))])
 (rest : ∀ a v2 M', W2 p M a v2 M' → af Tryz.prog av z 9 k (bu 95 [(5, .ptr a 0), (4, .ptr (N + 4) 0), (2, .ptr (N + 1) 0)]) ⟨M', T⟩ R) :
 af Tryz.prog av z 9 (.code (.region 6 (opsOf (kF Tryz.f9 21)) true) :: k) (bu 95 [(4, .ptr (N + 4) 0), (2, .ptr (N + 1) 0), (1, .ptr N 0)]) ⟨M, T⟩ R := by
 have dG : (opsOf (kF Tryz.f9 21)).size = 9 := by kernel_rfl
 have qo : ∀ r ∈ p.funcs.map fK, r.length = 4 := by intro r hr; obtain ⟨x, _, rfl⟩ := List.mem_map.1 hr; rfl
 have Cn := fun M => Fo (p.funcs.map fK) qo (by rw [List.length_map]; omega) M T
 have ML : N < M.length := (List.getElem?_eq_some_iff.1 hM).1
 have fin : ∀ a v2 M' env, Go.Ab.gC (bu 95 [(5, .ptr a 0), (4, .ptr (N + 4) 0), (2, .ptr (N + 1) 0)]) env → W2 p M a v2 M' → af Tryz.prog av z 9 k env ⟨M', T⟩ R := fun a v2 M' env he h => af.fX he (rest a v2 M' h)
 refine af.Vx [2, 5, 7, 8] (fun S => S.boxes[N]? = some [V.d (.sl (p.structs.map fJ)), V.d (.sl (p.funcs.map fK))]) (by kernel_rfl) ?_
 rw [dG]
 refine ql 0 (v := .ptr N 0) (oi := bD (opsOf (kF Tryz.f9 21)) 0) (by kernel_rfl) (by rfl) (by kernel_rfl) (by kernel_rfl) (by kernel_rfl) (fun S hS => by kernel_rfl) ?_
 refine ql 1 (v := .d (.sl (p.structs.map fJ))) (oi := bD (opsOf (kF Tryz.f9 21)) 1) (by kernel_rfl) (by rfl) (by kernel_rfl) (by kernel_rfl) (by kernel_rfl) (fun S hS => yT (q := 0) (a := .tmp 23) hS (by kernel_rfl) Vz rfl (by kernel_rfl) rfl) ?_
 refine ql 3 (v := .ptr N 1) (oi := bD (opsOf (kF Tryz.f9 21)) 3) (by kernel_rfl) (by rfl) (by kernel_rfl) (by kernel_rfl) (by kernel_rfl) (fun S hS => by kernel_rfl) ?_
 refine ql 4 (v := .d (.sl (p.funcs.map fK))) (oi := bD (opsOf (kF Tryz.f9 21)) 4) (by kernel_rfl) (by rfl) (by kernel_rfl) (by kernel_rfl) (by kernel_rfl) (fun S hS => yT (q := 1) (a := .tmp 26) hS (by kernel_rfl) VA rfl (by kernel_rfl) rfl) ?_
 have hz : (M ++ [[V.sl [] .full, .sl [] .full]])[N]? = some [V.d (.sl (p.structs.map fJ)), V.d (.sl (p.funcs.map fK))] := (ai ML).trans hM
 have Xl : (M ++ [[V.sl [] .full, .sl [] .full]]).length = M.length + 1 := by simp
 have hzM : (M ++ [[V.sl [] .full, .sl [] .full]])[M.length]? = some [V.sl [] .full, .sl [] .full] := cy rfl
 refine GL 2 7 (o := bD (opsOf (kF Tryz.f9 21)) 2) (o2 := bD (opsOf (kF Tryz.f9 21)) 7) hM (by kernel_rfl) (by kernel_rfl) (by kernel_rfl) (by rfl) (by rfl) ?_ ?_
 ·refine rX (by kernel_rfl) (q := ⟨.value (.func 24), #[.tmp 24], #[22]⟩) (by kernel_rfl) rfl (by rfl) (by kernel_rfl) ⟨_, _, rfl, rfl⟩ (tU Th _ T) ?_
  rintro _ _ ⟨rfl, rfl⟩
  refine GL 5 7 (o := bD (opsOf (kF Tryz.f9 21)) 5) (o2 := bD (opsOf (kF Tryz.f9 21)) 7) hM (by kernel_rfl) (by kernel_rfl) (by kernel_rfl) (by rfl) (by rfl) ?_ ?_
  ·refine rX (by kernel_rfl) (q := ⟨.value (.func 25), #[.tmp 27], #[23]⟩) (by kernel_rfl) rfl (by rfl) (by kernel_rfl) (jn.ne _ _ _ _ (by rw [List.length_map]; omega)) (Cn M) ?_
   intro v2 S' hv
   obtain ⟨M2, rfl, l2, p2, c2, d2⟩ := hv.split
   refine ql 6 (v := .agg [.d (.sl (p.structs.map fJ)), v2]) (oi := bD (opsOf (kF Tryz.f9 21)) 6) (by kernel_rfl) (by rfl) (by kernel_rfl) (by kernel_rfl) (by kernel_rfl) (fun S hS => sY (a := .tmp 25) (b := .tmp 28) (by kernel_rfl) (by kernel_rfl) (by kernel_rfl) rfl c2) ?_
   have h2 : M2[N]? = some [V.d (.sl (p.structs.map fJ)), V.d (.sl (p.funcs.map fK))] := (p2 N ML).trans hM
   refine mV 7 (o := bD (opsOf (kF Tryz.f9 21)) 7) h2 (by kernel_rfl) (by kernel_rfl) (by rfl) (xY (v := .ptr M2.length 0) (S' := ⟨M2 ++ [[.sl [] .full, .sl [] .full]], T⟩) (by kernel_rfl) (by kernel_rfl) ?_)
   refine mV 8 (o := bD (opsOf (kF Tryz.f9 21)) 8) ((ai (by omega)).trans h2) (by kernel_rfl) (by kernel_rfl) (by rfl) (xY (v := .undef) (S' := ⟨(M2 ++ [[V.sl [] .full, .sl [] .full]]).set M2.length [.d (.sl (p.structs.map fJ)), v2], T⟩) (by kernel_rfl) (sZ (a := .tmp 5) (x := .tmp 29) (by kernel_rfl) (by kernel_rfl) (by kernel_rfl) (cy rfl)) ?_)
   refine ⟨?_, by kernel_rfl, fin _ _ _ _ ?_ (Pj l2 p2 d2)⟩
   ·show ((M2 ++ [[V.sl [] .full, .sl [] .full]]).set M2.length [.d (.sl (p.structs.map fJ)), v2])[N]? = _
    rw [List.getElem?_set_ne (by omega), ai (by omega), h2]
   ·simp only [W, seval, c9]
    refine ay.env _ ?_
    simp only [cZ, seval]
  ·refine xY (v := .ptr M.length 0) (S' := ⟨M ++ [[.sl [] .full, .sl [] .full]], T⟩) (by kernel_rfl) (by kernel_rfl) ?_
   refine mV 5 (o := bD (opsOf (kF Tryz.f9 21)) 5) hz (by kernel_rfl) (by kernel_rfl) (by rfl) (rX (by kernel_rfl) (q := ⟨.value (.func 25), #[.tmp 27], #[23]⟩) (by kernel_rfl) rfl (by rfl) (by kernel_rfl) (jn.ne _ _ _ _ (by rw [List.length_map]; omega)) (Cn _) ?_)
   intro v2 S' hv
   obtain ⟨M2, rfl, l2, p2, c2, d2⟩ := hv.split
   refine ql 6 (v := .agg [.d (.sl (p.structs.map fJ)), v2]) (oi := bD (opsOf (kF Tryz.f9 21)) 6) (by kernel_rfl) (by rfl) (by kernel_rfl) (by kernel_rfl) (by kernel_rfl) (fun S hS => sY (a := .tmp 25) (b := .tmp 28) (by kernel_rfl) (by kernel_rfl) (by kernel_rfl) rfl c2) ?_
   have h2 : M2[N]? = some [V.d (.sl (p.structs.map fJ)), V.d (.sl (p.funcs.map fK))] := (p2 N (by omega)).trans hz
   refine mV 8 (o := bD (opsOf (kF Tryz.f9 21)) 8) h2 (by kernel_rfl) (by kernel_rfl) (by rfl) (xY (v := .undef) (S' := ⟨M2.set M.length [.d (.sl (p.structs.map fJ)), v2], T⟩) (by kernel_rfl) (sZ (a := .tmp 5) (x := .tmp 29) (by kernel_rfl) (by kernel_rfl) (by kernel_rfl) ((p2 _ (by omega)).trans hzM)) ?_)
   refine ⟨?_, by kernel_rfl, fin _ _ _ _ ?_ (GM l2 p2 d2)⟩
   ·show (M2.set M.length [.d (.sl (p.structs.map fJ)), v2])[N]? = _
    rw [List.getElem?_set_ne (by omega), h2]
   ·simp only [W, seval, c9]
    refine ay.env _ ?_
    simp only [cZ, seval]
 ·refine xY (v := .ptr M.length 0) (S' := ⟨M ++ [[.sl [] .full, .sl [] .full]], T⟩) (by kernel_rfl) (by kernel_rfl) ?_
  refine mV 2 (o := bD (opsOf (kF Tryz.f9 21)) 2) hz (by kernel_rfl) (by kernel_rfl) (by rfl) (rX (by kernel_rfl) (q := ⟨.value (.func 24), #[.tmp 24], #[22]⟩) (by kernel_rfl) rfl (by rfl) (by kernel_rfl) ⟨_, _, rfl, rfl⟩ (tU Th _ T) ?_)
  rintro _ _ ⟨rfl, rfl⟩
  refine mV 5 (o := bD (opsOf (kF Tryz.f9 21)) 5) hz (by kernel_rfl) (by kernel_rfl) (by rfl) (rX (by kernel_rfl) (q := ⟨.value (.func 25), #[.tmp 27], #[23]⟩) (by kernel_rfl) rfl (by rfl) (by kernel_rfl) (jn.ne _ _ _ _ (by rw [List.length_map]; omega)) (Cn _) ?_)
  intro v2 S' hv
  obtain ⟨M2, rfl, l2, p2, c2, d2⟩ := hv.split
  refine ql 6 (v := .agg [.d (.sl (p.structs.map fJ)), v2]) (oi := bD (opsOf (kF Tryz.f9 21)) 6) (by kernel_rfl) (by rfl) (by kernel_rfl) (by kernel_rfl) (by kernel_rfl) (fun S hS => sY (a := .tmp 25) (b := .tmp 28) (by kernel_rfl) (by kernel_rfl) (by kernel_rfl) rfl c2) ?_
  have h2 : M2[N]? = some [V.d (.sl (p.structs.map fJ)), V.d (.sl (p.funcs.map fK))] := (p2 N (by omega)).trans hz
  refine mV 8 (o := bD (opsOf (kF Tryz.f9 21)) 8) h2 (by kernel_rfl) (by kernel_rfl) (by rfl) (xY (v := .undef) (S' := ⟨M2.set M.length [.d (.sl (p.structs.map fJ)), v2], T⟩) (by kernel_rfl) (sZ (a := .tmp 5) (x := .tmp 29) (by kernel_rfl) (by kernel_rfl) (by kernel_rfl) ((p2 _ (by omega)).trans hzM)) ?_)
  refine ⟨?_, by kernel_rfl, fin _ _ _ _ ?_ (GM l2 p2 d2)⟩
  ·show (M2.set M.length [.d (.sl (p.structs.map fJ)), v2])[N]? = _
   rw [List.getElem?_set_ne (by omega), h2]
  ·simp only [W, seval, c9]
   refine ay.env _ ?_
   simp only [cZ, seval]
end
end Go.Proofs.YtnfnbjjnjjdjdaaGreatDoor
