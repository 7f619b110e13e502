/- GotypeKinds answers true, for any kind. Part 5 of 5 of the proof. -/
import Derived.Test.YtnfnbjjnjjdjdaaGreatDoorGotypeKindsd
import Derived.OpenShut
import Derived.ChangeArms
import Derived.Test.YtnfnbjjnjjdjdaaGreatDoorRows
import Derived.ProofKit
import Derived.ShutString
import Derived.Deep.DeepHandedRow
import Derived.Carry
import Derived.Lib.LaidTab
import Derived.LaidLaws
import Derived.WalkKit
import Derived.Test.YtnfnbjjnjjdjdaaGreatDoorCards
import Derived.Test.YtnfnbjjnjjdjdaaGreatDoorTie
import Derived.Lay
namespace Go.Proofs.YtnfnbjjnjjdjdaaGreatDoor
open Go.RowKit Go.Av Go.Ab
set_option linter.unusedSimpArgs false
set_option maxRecDepth 100000
set_option linter.defProp false
def c111 := by
 have c := KK_of Tryz.f111 (by conv => lhs; cbv)
 dsimp only [KK, KxP, doO, opO, List.map_cons, List.map_nil, List.toList_toArray] at c
 exact c
theorem b111 : FnIs Tryz.prog 111 Tryz.f111 56 := ⟨Tryz.func111, by kernel_rfl⟩
def swSt : StT → ExT → List CaT → List StT → StT
 | .mk k ns ty ls _ b _ _, y, cs, e => .mk k ns ty ls [y] b e cs
theorem swSt_row (L : Lay) (x : StT) (y : ExT) (cs : List CaT) (e : List StT) : L.row (swSt x y cs e) = L.row x := by cases x; rfl
theorem swSt_at (x : StT) (y : ExT) (cs : List CaT) (e : List StT) : (swSt x y cs e).lefts = x.lefts ∧ (swSt x y cs e).exprs = [y] ∧ (swSt x y cs e).body = x.body ∧ (swSt x y cs e).els = e ∧ (swSt x y cs e).cases = cs := by cases x; exact ⟨rfl, rfl, rfl, rfl, rfl⟩
def chG (r : Option (ExT × List CaT × List StT)) (L : Lay) (x : StT) (w : Nat) (vs : List PaT) (B : List (List V)) (T : List (Nat × Nat)) (u : V) (S' : Mem) : Prop :=
 ∃ B', S' = ⟨B', T⟩ ∧ B'.length = B.length ∧ EfS w w L.lo L.hi B.length 0 B B' ∧ u = .d (.bool r.isSome) ∧ ∀ y cs e, r = some (y, cs, e) → L.parts B' (swSt x y cs e) ∧ B'[w]? = some (vaM vs)
theorem casesG_drop (su : List SuT) (fu : List FuT) (res : List TyT) (top : Int) (l : List CaT) (vs : List PaT) (i : Nat) (h : i < l.length) {ci : Int} {cb : List StT} (hc : l[i] = .mk ci cb) : casesS su fu res top (l.drop i) vs = if top < ci then none else match blockS su fu res cb vs with
 | some b => (casesS su fu res top (l.drop (i + 1)) vs).map fun m => .mk ci b :: m
 | none => none := by
 rw [List.drop_eq_getElem_cons h, hc]
 conv => lhs; unfold casesS
 rfl
structure DSt where
 i : Nat
 ys : List CaT
 B : List (List V)
theorem tySts : tyOf Tryz.prog 39 = some ⟨.slice 53, 1, 24, false, [.sl [] .full]⟩ := by kernel_rfl
theorem tyCas : tyOf Tryz.prog 51 = some ⟨.slice 96, 1, 24, false, [.sl [] .full]⟩ := by kernel_rfl
section
variable {su : List SuT} {fu : List FuT} {vs : List PaT} {res : List TyT} {n c s f w : Nat} {B : List (List V)} {T : List (Nat × Nat)} {L : Lay} {x : StT}
theorem SAt.cases (h : SAt B n c s f w ⟨su, fu, vs⟩ res L x) : CsAt B n c s f w ⟨su, fu, vs⟩ res L.m4 L.hi L.v5 x.cases := by
 obtain ⟨n1, n2, n3, n4, n5, n6⟩ := h.nb
 obtain ⟨l1, l2, l3, l4, l5⟩ := h.own.le
 exact ⟨h.k, h.own.2.2.2.2, by have := h.oc.2; omega, by have := h.os.2; omega, by have := h.of.2; omega, by have := h.ow.2; omega, h.wd, ⟨n1, n2, n3, n4, n6⟩, h.nl⟩
theorem SAt.part {B1 : List (List V)} {y : StT} {p q lo1 hi1 : Nat} (h : SAt B n c s f w ⟨su, fu, vs⟩ res L x) (he : EfS w p lo1 hi1 n q B B1) (hp : n ≤ p ∨ p = w) (hlo : L.lo ≤ lo1) (hhi : hi1 ≤ L.hi) (hw : B1[w]? = some (vaM vs)) (hr : L.row y = L.row x) (hpa : L.parts B1 y) : SAt B1 n c s f w ⟨su, fu, vs⟩ res L y := by
 obtain ⟨n1, n2, n3, n4, n5, n6⟩ := h.nb
 obtain ⟨w1, w2, w3⟩ := h.wd
 have hq : ∀ i, i < n → i ≠ w → (i < L.lo ∨ L.hi ≤ i) → B1[i]? = B[i]? := fun i a b c => he.2.1 i a b (by omega) (by omega)
 exact ⟨h.k.vars (hq _ n1 w1 h.oc.2) (hq _ n2 w2 h.os.2) (hq _ n3 w3 h.of.2) hw rfl rfl, by rw [hq _ n5 (fun e => h.ow.1 e.symm) h.jo, hr]; exact h.row, hpa, h.jo, h.oc, h.os, h.of, h.ow, h.wd, h.nb, by have := h.nl; have := he.1; omega⟩
structure DOk (su : List SuT) (fu : List FuT) (vs : List PaT) (res : List TyT) (n c s f w : Nat) (L : Lay) (x : StT) (y : ExT) (t : TyT) (N : Nat) (B : List (List V)) (a : DSt) : Prop where
 le : a.i ≤ x.cases.length
 len : a.ys.length = a.i
 eff : EfS w w L.lo L.hi B.length 0 B a.B
 at' : SAt a.B n c s f w ⟨su, fu, vs⟩ res L (swSt x y (a.ys ++ x.cases.drop a.i) x.els)
 tb : a.B[N]? = some (tyL t)
 res : (casesS su fu res (topS t.kind) (x.cases.drop a.i) vs).map (a.ys ++ ·) = casesS su fu res (topS t.kind) x.cases vs
set_option maxHeartbeats 16000000 in
theorem choice_gt {a : ExT} (hk : x.exprs = [a]) (hvs : ∀ p ∈ vs, TW p.type) (ha : TypG ⟨su, fu, vs⟩ res a) (hcs : ∀ q ∈ x.cases, BlG su fu res q.body) (hel : BlG su fu res x.els) (hlen : x.cases.length ≤ 60000) (h : SAt B n c s f w ⟨su, fu, vs⟩ res L x) :
 AFn Tryz.prog TabI 111 [.ptr c 0, .ptr L.j L.A.length] ⟨B, T⟩ (chG (match typS ⟨su, fu, vs⟩ a noT with
  | some (y, t) => if numK t.kind = true then (match casesS su fu res (topS t.kind) x.cases vs with
   | some cs => (blockS su fu res x.els vs).map fun e => (y, cs, e)
   | none => none) else none
  | none => none) L x w vs B T) := by
 obtain ⟨N, hn⟩ : ∃ N, B.length = N := ⟨_, rfl⟩
 obtain ⟨al, hal⟩ : ∃ a, L.A.length = a := ⟨_, rfl⟩
 obtain ⟨j, hLj⟩ : ∃ j, L.j = j := ⟨_, rfl⟩
 obtain ⟨X, hX⟩ : ∃ X, L.row x = X := ⟨_, rfl⟩
 obtain ⟨x0, x1, x5, x6, x7, x8, x9, x10, x11, _⟩ := srow_at (show X = _ from hX.symm) hal
 have hrow := h.row
 rw [hX, hLj] at hrow
 have hnl := h.nl
 have hj : j < N := by have := h.nb; omega
 have hjo := h.jo
 have how := h.ow
 have hle := h.own.le
 rw [hal, hLj]
 have hex := h.exprs
 rw [hk] at hex
 obtain ⟨j1, m, cap, hv2, hmk⟩ := hex.bx (by simp)
 rw [hv2] at hex x6
 have hm : (0 : Int) < (m : Int) := by rw [hmk]; simp
 obtain ⟨lo1, hi1, A1, C1, kv1, a1, k1, k2, k3⟩ := hex.kid (k := 0) (y := a) rfl
 rw [Nat.zero_mul] at a1
 refine b111.go 160 rfl fun hsm => ?_
 simp only [smw] at hsm
 simp only [W, seval, c111, hn]
 refine ARun.drawX 12 [11] [j] (by kernel_rfl) (by kernel_rfl) (by kernel_rfl) (by kernel_rfl) (by kernel_rfl) (by kernel_rfl) (by kernel_rfl) ?_
 simp (maxSteps := 4000000) only [W, seval, c111, xw, bxw, hn, hj, hrow, x6, hm]
 refine callX_fn (fun Z => none_gt _ _) ?_
 simp (maxSteps := 4000000) only [W, seval, c111, xw, hn, tyV]
 refine typX ha k1 noT a1 ?_
 intro B1 t b0 hd hl1 hb1 hb0
 have e1 := k2 B.length _ _ hd.1
 have g1 : B1[j]? = B[j]? := e1.2.1 j (by omega) ⟨by omega, by omega⟩
 have e2 : EfS w w L.lo L.hi B.length 0 B B1 := EfS.weak (e1.efs (w := w) (p := w) (m := 0) (.inl (Nat.le_refl _))) (Nat.le_refl _) (.inr (.inr rfl)) (.inl rfl) (.inl rfl) hle.1 (by omega)
 rw [hn] at hl1
 refine ⟨⟨g1, trivial⟩, ?_⟩
 unfold tyV
 simp (maxSteps := 4000000) only [W, seval, c111, xw, hl1]
 refine ⟨g1, ?_⟩
 cases b0
 ·have hr := hb0 rfl
  rw [hr]
  refine ARun.go 60 ?_
  simp only [W, seval, c111, Bool.not_false]
  refine ARun.ret Tryz.func111 rfl (left_efs0 e2.app (Nat.zero_le _) rfl ?_)
  exact ⟨_, rfl, by have := e2.1; rw [List.length_take, List.length_append]; omega, e2.app.cut, rfl, fun y cs e he => by cases he⟩
 obtain ⟨y, hr⟩ := hb1 rfl
 rw [hr] at hd ⊢
 dsimp only
 cases hnk : numK t.kind
 ·rw [if_neg (by decide)]
  refine ARun.go 60 ?_
  simp only [W, seval, c111, Bool.not_true, hl1]
  refine callS_fn (number_gt t _ _) ?_
  rintro _ _ ⟨rfl, rfl⟩
  rw [hnk]
  refine ARun.go 60 ?_
  simp only [W, seval, c111, Bool.not_false]
  refine ARun.ret Tryz.func111 rfl (left_efs0 e2.app (Nat.zero_le _) rfl ?_)
  exact ⟨_, rfl, by have := e2.1; rw [List.length_take, List.length_append]; omega, e2.app.cut, rfl, fun y cs e he => by cases he⟩
 rw [if_pos rfl]
 have hx1 := k3 B1 y hd
 have hcl0 := h.own.2.2.2.2.len Tryz.prog tyCas rfl
 rw [opLen.eq_1, tyCas] at hcl0
 have hrow1 : B1[j]? = some X := g1.trans hrow
 refine ARun.go 60 ?_
 simp only [W, seval, c111, Bool.not_true, hl1]
 refine callS_fn (number_gt t _ _) ?_
 rintro _ _ ⟨rfl, rfl⟩
 rw [hnk]
 refine ARun.go 60 ?_
 simp only [W, seval, c111, Bool.not_true, hl1, hj, hrow1, x9, hcl0]
 have hw1 : B1[w]? = some (vaM vs) := by rw [e1.2.1 w (by have := h.nb; omega) ⟨by have := h.nb; omega, by have := how.2; omega⟩]; exact h.k.w
 have fr : ∀ i, i < n → (i < L.m1 ∨ L.m2 ≤ i) → B1[i]? = B[i]? := fun i a b => e1.2.1 i (by omega) ⟨by omega, b⟩
 have hnb := h.nb
 have hs1 : SAt B1 n c s f w ⟨su, fu, vs⟩ res L (swSt x y x.cases x.els) := by
  obtain ⟨s1, s2, s3, s4, s5⟩ := swSt_at x y x.cases x.els
  refine h.part (e2.weak (n := n) (m := 0) hnl (.inr (.inr rfl)) (.inl rfl) (.inl rfl) (Nat.le_refl _) (Nat.le_refl _)) (.inr rfl) (Nat.le_refl _) (Nat.le_refl _) hw1 (swSt_row _ _ _ _ _) ⟨?_, ?_, ?_, ?_, ?_⟩
  ·rw [s1]; exact h.own.1.frame fun i a b => fr i (by omega) (by omega)
  ·rw [s2, hv2]; exact hx1.own
  ·rw [s3]; exact h.own.2.2.1.frame fun i a b => fr i (by omega) (by omega)
  ·rw [s4]; exact h.own.2.2.2.1.frame fun i a b => fr i (by omega) (by omega)
  ·rw [s5]; exact h.own.2.2.2.2.frame fun i a b => fr i (by omega) (by omega)
 refine ARun.loopW (fun a : DSt => (envS 56 [(0, .ptr c 0), (1, .ptr j al), (5, .ptr N 0), (30, L.v5), (31, .d (.int .i64 (x.cases.length : Int))), (32, .d (.int .i64 (a.i : Int)))], ⟨a.B, T⟩)) (DOk su fu vs res n c s f w L x y t N B) (fun a => x.cases.length - a.i) ⟨0, [], B1 ++ [[.d (.int .i64 t.kind), .d (.str t.name), .d (.sl (t.elem.map tyD))]]⟩ ⟨Nat.zero_le _, rfl, e2.app, by simpa using hs1.more, by rw [bx_loc0 hl1]; rfl, by simp⟩ ?_ rfl ?_
 ·skip
  refine Agree.env _ ?_
  simp only [agw, seval]
 rintro ⟨i, ys, Bi⟩ ⟨h2, h3, h4, h6, h5, h7⟩ ih
 dsimp only at h2 h3 h4 h6 h5 h7 ih ⊢
 obtain ⟨Ni, hNi⟩ : ∃ Ni, Bi.length = Ni := ⟨_, rfl⟩
 have hNNi : N < Ni := by rw [← hNi]; exact (List.getElem?_eq_some_iff.1 h5).1
 have hji : j < Ni := by omega
 have hrowi := h6.row
 rw [swSt_row, hX, hLj] at hrowi
 unfold tyL at h5
 by_cases hlt : i < x.cases.length
 case neg =>
  have e3 : decide ((i : Int) < (x.cases.length : Int)) = false := decide_eq_false (by omega)
  obtain rfl : i = x.cases.length := by omega
  rw [List.drop_eq_nil_of_le (Nat.le_refl _), casesS, Option.map_some, List.append_nil] at h7
  rw [List.drop_eq_nil_of_le (Nat.le_refl _), List.append_nil] at h6
  obtain ⟨s1, s2, s3, s4, s5⟩ := swSt_at x y ys x.els
  have hbe := h6.els
  rw [s4] at hbe
  have hb := hel vs n c s f w Bi T _ _ _ hvs hbe
  rw [← h7]
  dsimp only
  refine ARun.go 160 ?_
  simp only [W, seval, c111, e3, hji, hrowi, x8]
  refine callS_of hb ?_
  rintro u _ ⟨B2, rfl, hd2, rfl⟩
  have e4 : EfS w w L.lo L.hi B.length 0 B B2 := h4.step (hd2.1.weak (Nat.le_refl _) (.inr (.inr rfl)) (.inl rfl) (.inl rfl) (by omega) (by omega))
  refine ARun.go 60 ?_
  simp only [W, seval, c111]
  refine ARun.ret Tryz.func111 rfl (left_efs0 e4 (Nat.zero_le _) rfl ?_)
  refine ⟨_, rfl, by have := e4.1; rw [List.length_take]; omega, e4.cut, by cases blockS su fu res x.els vs <;> rfl, fun y' cs e he => ?_⟩
  obtain ⟨e', he', q⟩ := Option.map_eq_some_iff.1 he
  obtain ⟨z0, q⟩ := Prod.mk.inj q
  obtain ⟨z1, z2⟩ := Prod.mk.inj q
  rw [← z0, ← z1, ← z2]
  obtain ⟨o1, o2⟩ := hd2.2.2 e' he'
  have fr2 : ∀ i, i < n → i ≠ w → (i < L.m3 ∨ L.m4 ≤ i) → (B2.take B.length)[i]? = Bi[i]? := fun i a b c => by rw [take_at (by omega), hd2.1.2.1 i (by omega) b b c]
  have how2 := how.2
  obtain ⟨p1, p2, p3, p4, p5⟩ := h6.own
  rw [s1] at p1
  rw [s2] at p2
  rw [s3] at p3
  rw [s5] at p5
  refine ⟨⟨?_, ?_, ?_, ?_, ?_⟩, by rw [take_at (by omega)]; exact o2⟩
  ·rw [(swSt_at x y ys e').1]; exact p1.frame fun i a b => fr2 i (by omega) (by omega) (by omega)
  ·rw [(swSt_at x y ys e').2.1]; exact p2.frame fun i a b => fr2 i (by omega) (by omega) (by omega)
  ·rw [(swSt_at x y ys e').2.2.1]; exact p3.frame fun i a b => fr2 i (by omega) (by omega) (by omega)
  ·rw [(swSt_at x y ys e').2.2.2.1]; exact o1.frame fun i a b => by rw [take_at (by omega)]
  ·rw [(swSt_at x y ys e').2.2.2.2]; exact p5.frame fun i a b => fr2 i (by omega) (by omega) (by omega)
 have e3 : decide ((i : Int) < (x.cases.length : Int)) = true := decide_eq_true (by omega)
 have hwi := wrap_in ((i : Int) + 1) (by omega)
 obtain ⟨ci, cb, hci⟩ : ∃ ci cb, x.cases[i] = .mk ci cb := by
  cases x.cases[i] with
  | mk ci cb => exact ⟨ci, cb, rfl⟩
 have hbl := hcs x.cases[i] (List.getElem_mem hlt)
 rw [hci] at hbl
 rw [casesG_drop _ _ _ _ _ _ _ hlt hci] at h7
 have hca := h6.cases
 rw [(swSt_at x y (ys ++ x.cases.drop i) x.els).2.2.2.2] at hca
 have hki : (ys ++ x.cases.drop i)[i]? = some (.mk ci cb) := by rw [mix_at _ _ h3, List.getElem?_eq_getElem hlt, hci]
 obtain ⟨j5, m5, cap5, hv5, hm5⟩ := hca.bx (by intro h0; rw [h0] at hki; simp at hki)
 rw [hv5] at hca
 have hmi : (i : Int) < (m5 : Int) := by have := (List.getElem?_eq_some_iff.1 hki).1; omega
 obtain ⟨lo5, hi5, A5, C5, bv, a5, r5, hj5, hj5', hlo5, hhi5, q1, q2⟩ := hca.kid hki
 have hj5n : j5 < Ni := by omega
 obtain ⟨Y, hY⟩ : ∃ Y, A5 ++ [.d (.int .u64 ci), bv] ++ C5 = Y := ⟨_, rfl⟩
 rw [hY] at r5
 have y2 : i * 2 + 2 ≤ Y.length := by rw [← hY]; simp; omega
 have y3 : (Y.drop (i * 2)).take 2 = [.d (.int .u64 ci), bv] := by
  rw [← hY, ← a5, List.append_assoc, List.drop_left]; rfl
 have hbk := hbl vs n c s f w (Bi ++ [[.d (.int .u64 ci), bv]]) T _ _ _ hvs q1.more
 rw [hv5] at ih ⊢
 refine ARun.go 160 ?_
 simp only [W, seval, c111, bxw, hNi, e3, hmi, hj5n, r5, y2, y3]
 by_cases htop : topS t.kind < ci
 ·have et := decide_eq_true htop
  rw [if_pos htop] at h7
  rw [← h7]
  refine ARun.drawX 13 [] [Ni, N] (by kernel_rfl) (by kernel_rfl) (by kernel_rfl) (by kernel_rfl) (by kernel_rfl) (by kernel_rfl) (by kernel_rfl) ?_
  simp (maxSteps := 4000000) only [W, seval, c111, xw, hNi, hNNi, h5]
  refine callX_fn (fun Z => most_gt t.kind _) ?_
  simp (maxSteps := 4000000) only [W, seval, c111, xw, hNi, et, Bool.not_true]
  refine ARun.go 60 ?_
  simp only [W, seval, c111]
  refine ARun.ret Tryz.func111 rfl (left_efs0 h4.app (Nat.zero_le _) rfl ?_)
  exact ⟨_, rfl, by have := h4.1; rw [List.length_take, List.length_append]; omega, h4.app.cut, rfl, fun y cs e he => by cases he⟩
 have et := decide_eq_false htop
 rw [if_neg htop] at h7
 refine ARun.drawX 13 [] [Ni, N] (by kernel_rfl) (by kernel_rfl) (by kernel_rfl) (by kernel_rfl) (by kernel_rfl) (by kernel_rfl) (by kernel_rfl) ?_
 simp (maxSteps := 4000000) only [W, seval, c111, xw, hNi, hNNi, h5]
 refine callX_fn (fun Z => most_gt t.kind _) ?_
 simp (maxSteps := 4000000) only [W, seval, c111, xw, hNi, et, Bool.not_false]
 refine callX_0 (blG.ne q1.more) hbk ?_
 rintro u _ ⟨B2, rfl, hd2, rfl⟩
 have hl2 := hd2.2.1
 simp only [List.length_append, List.length_cons, List.length_nil, hNi, Nat.zero_add] at hl2
 have e4 : EfS w w L.lo L.hi B.length 0 B B2 := h4.app.step (hd2.1.weak (Nat.le_refl _) (.inr (.inr rfl)) (.inl rfl) (.inl rfl) (by omega) (by omega))
 have how2 := how.2
 have p1 := hd2.1.2.1 Ni (by simp; omega) (by omega) (by omega) (by omega)
 have p2 := hd2.1.2.1 N (by simp; omega) (by omega) (by omega) (by omega)
 refine ⟨⟨p1, p2, trivial⟩, ?_⟩
 simp (maxSteps := 4000000) only [W, seval, c111, xw, hNi]
 refine ⟨⟨by rw [p1, bx_loc0 hNi]; rfl, p2⟩, ?_⟩
 cases hw : blockS su fu res cb vs with
 | none =>
  rw [hw] at h7
  rw [← h7]
  refine ARun.go 60 ?_
  simp only [W, seval, c111, Option.isSome_none, Bool.not_false]
  refine ARun.ret Tryz.func111 rfl (left_efs0 e4 (Nat.zero_le _) rfl ?_)
  exact ⟨_, rfl, by have := e4.1; rw [List.length_take]; omega, e4.cut, rfl, fun y cs e he => by cases he⟩
 | some b' =>
  rw [hw] at h7 hd2
  have f1 : B2[N]? = some [V.d (.int .i64 t.kind), .d (.str t.name), .d (.sl (t.elem.map tyD))] := by rw [p2, bx_old (by omega), h5]
  have fr2 : ∀ i, i < n → i ≠ w → (i < lo5 ∨ hi5 ≤ i) → B2[i]? = (Bi ++ [[V.d (.int .u64 ci), bv]])[i]? := fun i a b c => hd2.1.2.1 i (by simp; omega) b b c
  have hsB : SAt B2 n c s f w ⟨su, fu, vs⟩ res L (swSt x y (ys ++ [.mk ci b'] ++ x.cases.drop (i + 1)) x.els) := by
   obtain ⟨s1, s2, s3, s4, s5⟩ := swSt_at x y (ys ++ x.cases.drop i) x.els
   obtain ⟨r1, r2, r3, r4, r5⟩ := swSt_at x y (ys ++ [.mk ci b'] ++ x.cases.drop (i + 1)) x.els
   obtain ⟨w1, w2, w3, w4, w5⟩ := (h6.more (J := [[V.d (.int .u64 ci), bv]])).own
   rw [s1] at w1
   rw [s2] at w2
   rw [s3] at w3
   rw [s4] at w4
   refine (h6.more (J := [[V.d (.int .u64 ci), bv]])).part (hd2.1.weak (n := n) (m := 0) (by simp; omega) (.inr (.inr rfl)) (.inl rfl) (.inl rfl) (Nat.le_refl _) (Nat.le_refl _)) (.inr rfl) (by omega) hhi5 (hd2.2.2 b' rfl).2 (by rw [swSt_row, swSt_row]) ⟨?_, ?_, ?_, ?_, ?_⟩
   ·rw [r1]; exact w1.frame fun i a b => fr2 i (by omega) (by omega) (by omega)
   ·rw [r2]; exact w2.frame fun i a b => fr2 i (by omega) (by omega) (by omega)
   ·rw [r3]; exact w3.frame fun i a b => fr2 i (by omega) (by omega) (by omega)
   ·rw [r4]; exact w4.frame fun i a b => fr2 i (by omega) (by omega) (by omega)
   ·rw [r5, hv5]
    have := (q2 _ B2 b' hd2).own
    rwa [mix_set _ _ h3 hlt] at this
  refine ARun.go 60 ?_
  simp only [W, seval, c111, Option.isSome_some, Bool.not_true, hwi]
  rw [← hv5] at ih
  refine ih ⟨i + 1, ys ++ [.mk ci b'], B2⟩ ⟨hlt, by simp [h3], e4, hsB, f1, ?_⟩ (by dsimp only; omega) _ _ ?_ rfl
  ·dsimp only at h7 ⊢
   rw [← h7]
   cases casesS su fu res (topS t.kind) (x.cases.drop (i + 1)) vs <;> simp
  ·skip
   refine Agree.env _ ?_
   simp only [agw, seval]
   rw [hv5]
end
def c75 := by
 have c := KK_of Tryz.f75 (by conv => lhs; cbv)
 dsimp only [KK, KxP, doO, opO, List.map_cons, List.map_nil, List.toList_toArray] at c
 exact c
theorem b75 : FnIs Tryz.prog 75 Tryz.f75 110 := ⟨Tryz.func75, by kernel_rfl⟩
theorem kidx_none {α : Type} (nm : α → List UInt8) (n : List UInt8) : ∀ l : List α, atN nm l n = none → kidx (l.map nm) n = none
 | [], _ => rfl
 | x :: l, h => by
  unfold atN at h
  split at h
  ·cases h
  ·rename_i hx
   rw [List.map_cons, kidx, if_neg hx, kidx_none nm n l h]; rfl
theorem vaM_snoc {vs : List PaT} {n : List UInt8} {ty : TyT} (h : atN PaT.name vs n = none) : kset (vs.map PaT.name) (vs.map fun p => tyV p.type) n (tyV ty) = vaM (vs ++ [⟨n, ty⟩]) := by
 unfold kset vaM
 rw [kidx_none _ _ _ h]
 simp
theorem fit_vaM (vs : List PaT) (m : Nat) : ∀ v ∈ vaM vs, fit 0 m v = true := by
 intro v hv
 obtain rfl := List.mem_singleton.1 hv
 show fitL 0 m _ = true
 rw [fitL_iff]
 intro j hj
 simp [tyV, fit, fitL]
section
variable {su : List SuT} {fu : List FuT} {vs : List PaT} {res : List TyT} {n c s f w : Nat} {B : List (List V)} {T : List (Nat × Nat)}
theorem KAt.putV {E : Tenv} (h : KAt B c s f w E res) {nme : List UInt8} (hn : atN PaT.name E.vs nme = none) (ty : TyT) (J : List (List V)) (T : List (Nat × Nat)) : opMapSet Tryz.prog ⟨B ++ J, T⟩ 62 (.mp w) (.d (.str nme)) (tyV ty) = some (.undef, ⟨B.set w (vaM (E.vs ++ [⟨nme, ty⟩])) ++ J, T⟩) := by
 have hw := (h.more J).w
 unfold opMapSet
 unfold vaM at hw
 simp only [mapTyp, hw]
 rw [vaM_snoc hn, bx_set_old h.lt.2.2.2]
set_option maxHeartbeats 8000000 in
theorem svar_gt {nme : List UInt8} {ty : TyT} (hty : TW ty) {x : StT} (hx : x = .mk 1 [nme] ty [] [] [] [] []) : StG su fu res x := by
 intro vs n c s f w B T L p M nm hvs h hp hpb hTM hnm
 obtain ⟨N, hn⟩ : ∃ N, B.length = N := ⟨_, rfl⟩
 obtain ⟨al, hal⟩ : ∃ a, L.A.length = a := ⟨_, rfl⟩
 obtain ⟨j, hLj⟩ : ∃ j, L.j = j := ⟨_, rfl⟩
 obtain ⟨X, hX⟩ : ∃ X, L.row x = X := ⟨_, rfl⟩
 obtain ⟨x0, x1, x5, x6, x7, x8, x9, x10, x11, _⟩ := srow_at (show X = _ from hX.symm) hal
 have hrow := h.row
 rw [hX, hLj] at hrow
 have hnl := h.nl
 have hj : j < N := by have := h.nb; omega
 have hk1 : x.kind = 1 := by rw [hx]; rfl
 have hnm1 : x.names = [nme] := by rw [hx]; rfl
 have hty1 : x.type = ty := by rw [hx]; rfl
 rw [hk1] at x0
 rw [hnm1] at x1
 rw [hty1] at x11
 have hci : c < N := by rw [← hn]; exact h.k.lt.1
 have hwl : w < N := by rw [← hn]; exact h.k.lt.2.2.2
 have hwb := h.k.w
 have hb := h.k.c
 unfold cBox at hb
 have hlo := h.k.lookV nme true [] T
 rw [List.append_nil] at hlo
 have hr : stmtS su fu res x vs = if (atN PaT.name vs nme).isNone = true ∧ freeS su fu nme = true ∧ standS su ty = true then some (x, vs ++ [⟨nme, ty⟩]) else none := by
  rw [hx]; unfold stmtS; rw [if_pos rfl]
 rw [hal, hLj]
 generalize stmtS su fu res x vs = r at hr ⊢
 have hfr := fun J => free_gt (T := T) nme (h.k.more J)
 have hst := fun J => stands_gt (T := T) hty (h.k.more J)
 dsimp only at hfr hst
 have en : ∀ J, EfS w p L.lo L.hi B.length T.length B (B ++ J) := fun J => (EfS.refl _ _ _ _ _ _ B).app
 have fail : ∀ J, stG none L w p M vs nm B T (.d (.bool false)) ⟨(B ++ J).take B.length, T⟩ := fun J => ⟨_, T, rfl, by simp, rfl, fun _ _ => rfl, (en J).cut, rfl, fun x vs he => by cases he⟩
 unfold tyL at x11
 unfold tyV at hst
 cases h1 : atN PaT.name vs nme with
 | some q =>
  have h1' : atN PaT.name (Tenv.mk su fu vs).vs nme = some q := h1
  rw [h1'] at hlo
  simp only [Go.Ab.lookV, Option.map_some, if_true, tyV] at hlo
  obtain rfl : r = none := by rw [hr, h1]; exact if_neg (fun h => by cases h.1)
  refine b75.go 160 rfl fun hsm => ?_
  simp only [smw] at hsm
  simp only [W, seval, c75, mpw, hn, hj, hrow, x0, x1, hci, hb, hlo, ssD, mapD_cons, mapD_nil, decide_true]
  refine ARun.ret Tryz.func75 rfl (left_efs0 (en _) (Nat.le_refl _) rfl ?_)
  exact fail _
 | none =>
  have h1' : atN PaT.name (Tenv.mk su fu vs).vs nme = none := h1
  rw [h1'] at hlo
  simp only [Go.Ab.lookV, Option.map_none, if_true, tyZ] at hlo
  refine b75.go 160 rfl fun hsm => ?_
  simp only [smw] at hsm
  simp only [W, seval, c75, mpw, hn, hj, hrow, x0, x1, hci, hb, hlo, ssD, mapD_cons, mapD_nil, decide_true]
  refine callS_fn (hfr _) ?_
  rintro _ _ ⟨rfl, rfl⟩
  cases hf1 : freeS su fu nme with
  | false =>
   obtain rfl : r = none := by rw [hr, hf1]; exact if_neg (fun h => by cases h.2.1)
   refine ARun.go 60 ?_
   simp only [W, seval, c75, Bool.not_false]
   refine ARun.ret Tryz.func75 rfl (left_efs0 (en _) (Nat.le_refl _) rfl ?_)
   exact fail _
  | true =>
   refine ARun.go 60 ?_
   simp only [W, seval, c75, Bool.not_true, hn, hj, hrow, x10, x11, x9]
   refine callS_fn (hst _) ?_
   rintro _ _ ⟨rfl, rfl⟩
   cases hs1 : standS su ty with
   | false =>
    obtain rfl : r = none := by rw [hr, hs1]; exact if_neg (fun h => by cases h.2.2)
    refine ARun.go 60 ?_
    simp only [W, seval, c75, Bool.not_false]
    refine ARun.ret Tryz.func75 rfl (left_efs0 (en _) (Nat.le_refl _) rfl ?_)
    exact fail _
   | true =>
    obtain rfl : r = some (x, vs ++ [⟨nme, ty⟩]) := by rw [hr, hs1, hf1, h1]; exact if_pos ⟨rfl, rfl, rfl⟩
    have hpN : p < N := by rw [← hn]; exact (List.getElem?_eq_some_iff.1 hpb).1
    have hwn : w < n := by have := h.nb; omega
    have hput := fun J T => h.k.putV h1' ty J T
    unfold tyV at hput
    dsimp only at hput
    have hpw : ∀ Z, (B.set w Z)[p]? = some [.sl (ssD nm) (.own M)] := fun Z => by rw [List.getElem?_set_ne (by omega)]; exact hpb
    have hcap : (nm.length + 1) * 16 ≤ 140737488355328 := by omega
    have hr1 : rowsSz 1 [[D.str nme]] = true := rfl
    refine ARun.go 60 ?_
    simp only [W, seval, c75, Bool.not_true, hn]
    refine ARun.drawX 9 [] [c, j] (by kernel_rfl) (by kernel_rfl) (by kernel_rfl) (by kernel_rfl) (by kernel_rfl) (by kernel_rfl) (by kernel_rfl) ?_
    simp (maxSteps := 4000000) only [W, seval, c75, xw, mpw, hn, hj, hrow, x10, x11, hci, hb, hput]
    have hrow1 : ssD nm ++ [[.str nme]] = ssD (nm ++ [nme]) := by simp [ssD]
    refine ARun.go 160 ?_
    simp only [W, seval, c75, hn, hpN, hpw, hTM, mapD_nil, mapD_cons, ssD_length, Nat.reduceMul, hcap, hr1, hrow1]
    have e1 : EfS w p L.lo L.hi B.length T.length B ((B.set w (vaM (vs ++ [⟨nme, ty⟩]))).set p [.sl (ssD (nm ++ [nme])) (.own M)]) := ((EfS.refl _ _ _ _ _ _ B).put (.inl rfl) (fun v hv => .inl (fit_vaM _ _ v hv))).put (.inr (.inl rfl)) (fun v hv => .inr ⟨rfl, by
     obtain rfl := List.mem_singleton.1 hv
     exact decide_eq_true (List.getElem?_eq_some_iff.1 hTM).1⟩)
    refine ARun.ret Tryz.func75 rfl (left_efs0 e1.app (Nat.le_refl _) List.length_set ?_)
    have hM := (List.getElem?_eq_some_iff.1 hTM).1
    have hnb := h.nb
    have how := h.ow
    have at1 : ∀ J i, i < B.length → i ≠ w → i ≠ p → ((((B.set w (vaM (vs ++ [⟨nme, ty⟩]))).set p [V.sl (ssD (nm ++ [nme])) (.own M)]) ++ J).take B.length)[i]? = B[i]? := fun J i a b c => by
     rw [take_at a, bx_old (by simp; omega), List.getElem?_set_ne (Ne.symm c), List.getElem?_set_ne (Ne.symm b)]
    refine ⟨_, _, rfl, by simp, List.length_set, fun q hq => List.getElem?_set_ne (Ne.symm hq), e1.app.cut, rfl, fun y vs' he => ?_⟩
    obtain ⟨rfl, rfl⟩ := Prod.mk.inj (Option.some.inj he)
    have fr : ∀ J i, L.lo ≤ i → i < L.hi → ((((B.set w (vaM (vs ++ [⟨nme, ty⟩]))).set p [V.sl (ssD (nm ++ [nme])) (.own M)]) ++ J).take B.length)[i]? = B[i]? := fun J i a b => at1 J i (by omega) (by have := how.2; omega) (by omega)
    obtain ⟨l1, l2, l3, l4, l5⟩ := h.own.le
    refine ⟨⟨h.own.1.frame fun i a b => fr _ i (by omega) (by omega), h.own.2.1.frame fun i a b => fr _ i (by omega) (by omega), h.own.2.2.1.frame fun i a b => fr _ i (by omega) (by omega), h.own.2.2.2.1.frame fun i a b => fr _ i (by omega) (by omega), h.own.2.2.2.2.frame fun i a b => fr _ i (by omega) (by omega)⟩, ?_, [⟨nme, ty⟩], rfl, ?_, ?_, ?_⟩
    ·rw [at1 _ _ (by omega) (fun e => how.1 e.symm) (by omega)]; exact h.row
    ·rw [take_at (by omega), bx_old (by simp; omega), List.getElem?_set_ne (by omega), List.getElem?_set_self (by omega)]
    ·rw [take_at (by omega), bx_old (by simp; omega), List.getElem?_set_self (by simp; omega)]; rfl
    ·rw [List.getElem?_set_self hM]; simp
end
def setEx : StT → List ExT → StT
 | .mk k ns ty ls _ b e cs, es => .mk k ns ty ls es b e cs
theorem setEx_row (L : Lay) (x : StT) (es : List ExT) : L.row (setEx x es) = L.row x := by cases x; rfl
theorem setEx_at (x : StT) (es : List ExT) : (setEx x es).lefts = x.lefts ∧ (setEx x es).exprs = es ∧ (setEx x es).body = x.body ∧ (setEx x es).els = x.els ∧ (setEx x es).cases = x.cases := by cases x; exact ⟨rfl, rfl, rfl, rfl, rfl⟩
section
variable {su : List SuT} {fu : List FuT} {vs : List PaT} {res : List TyT} {n c s f w : Nat} {B : List (List V)} {T : List (Nat × Nat)} {L : Lay} {x : StT} {p M : Nat} {nm : List (List UInt8)}
theorem stG.of {B1 : List (List V)} {r : Option (StT × List PaT)} (h : SAt B n c s f w ⟨su, fu, vs⟩ res L x) (hp : n ≤ p) (hpb : B[p]? = some [.sl (ssD nm) (.own M)]) (hTM : T[M]? = some (nm.length, 1)) (hl : B1.length = B.length) (he : EfS w w L.lo L.hi B.length 0 B B1) {u : V} (hu : u = .d (.bool r.isSome)) (hr : ∀ y vs', r = some (y, vs') → vs' = vs ∧ L.row y = L.row x ∧ L.parts B1 y ∧ B1[w]? = some (vaM vs)) : stG r L w p M vs nm B T u ⟨B1, T⟩ := by
 have hnb := h.nb
 have hnl := h.nl
 have hpl := (List.getElem?_eq_some_iff.1 hpb).1
 refine ⟨B1, T, rfl, hl, rfl, fun _ _ => rfl, he.weak (Nat.le_refl _) (.inr (.inr rfl)) (.inl rfl) (.inl rfl) (Nat.le_refl _) (Nat.le_refl _), hu, fun y vs' hy => ?_⟩
 obtain ⟨rfl, h2, h3, h4⟩ := hr y vs' hy
 have how := h.ow
 refine ⟨h3, ?_, [], by simp, h4, ?_, by simpa using hTM⟩
 ·rw [he.2.1 L.j (by omega) (fun e => how.1 e.symm) (fun e => how.1 e.symm) h.jo, h2]; exact h.row
 ·rw [he.2.1 p hpl (by omega) (by omega) (by omega)]; simpa using hpb
theorem ssw_eq (su : List SuT) (fu : List FuT) (res : List TyT) (vs : List PaT) (x : StT) (a : ExT) (h5 : x.kind = 5) (hk : x.exprs = [a]) : stmtS su fu res x vs = (match typS ⟨su, fu, vs⟩ a noT with
 | some (y, t) => if numK t.kind = true then (match casesS su fu res (topS t.kind) x.cases vs with
  | some cs => (blockS su fu res x.els vs).map fun e => (y, cs, e)
  | none => none) else none
 | none => none).map fun r : ExT × List CaT × List StT => (swSt x r.1 r.2.1 r.2.2, vs) := by
 obtain ⟨k, ns, ty, ls, es, b, e, cs⟩ := x
 obtain rfl : k = 5 := h5
 obtain rfl : es = [a] := hk
 unfold stmtS
 rw [if_neg (by decide), if_neg (by decide), if_neg (by decide)]
 dsimp only
 rw [if_pos rfl]
 cases typS ⟨su, fu, vs⟩ a noT with
 | none => rfl
 | some q =>
  obtain ⟨y, t⟩ := q
  dsimp only [StT.cases, StT.els]
  cases numK t.kind
  ·rfl
  ·rw [if_pos rfl, if_pos rfl]
   cases casesS su fu res (topS t.kind) cs vs with
   | none => rfl
   | some m =>
    dsimp only
    cases blockS su fu res e vs <;> rfl
set_option maxHeartbeats 8000000 in
theorem ssw_gt {a : ExT} (h5 : x.kind = 5) (hk : x.exprs = [a]) (ha : ∀ vs, (∀ p ∈ vs, TW p.type) → TypG ⟨su, fu, vs⟩ res a) (hcs : ∀ q ∈ x.cases, BlG su fu res q.body) (hel : BlG su fu res x.els) (hlen : x.cases.length ≤ 60000) : StG su fu res x := by
 intro vs n c s f w B T L p M nm hvs h hp hpb hTM hnm
 obtain ⟨N, hn⟩ : ∃ N, B.length = N := ⟨_, rfl⟩
 obtain ⟨al, hal⟩ : ∃ a, L.A.length = a := ⟨_, rfl⟩
 obtain ⟨j, hLj⟩ : ∃ j, L.j = j := ⟨_, rfl⟩
 obtain ⟨X, hX⟩ : ∃ X, L.row x = X := ⟨_, rfl⟩
 obtain ⟨x0, x1, x5, x6, x7, x8, x9, x10, x11, _⟩ := srow_at (show X = _ from hX.symm) hal
 have hrow := h.row
 rw [hX, hLj] at hrow
 rw [h5] at x0
 have hj : j < N := by have := h.nb; have := h.nl; omega
 have hc := choice_gt (T := T) hk hvs (ha vs hvs) hcs hel hlen h
 rw [ssw_eq su fu res vs x a h5 hk]
 rw [hal, hLj] at hc ⊢
 refine b75.go 160 rfl fun hsm => ?_
 simp only [smw] at hsm
 simp only [W, seval, c75, hn, hj, hrow, x0, Int.reduceEq, decide_true, decide_false]
 refine callS_of hc ?_
 rintro u _ ⟨B1, rfl, hl, he, rfl, hr⟩
 refine ARun.go 60 ?_
 simp only [W, seval, c75]
 refine ARun.ret Tryz.func75 rfl (left_efs0 he (Nat.zero_le _) rfl ?_)
 rw [List.take_of_length_le (by omega)]
 refine stG.of h hp hpb hTM hl he (by rw [Option.isSome_map]; rfl) fun y vs' hy => ?_
 obtain ⟨⟨y', cs, e⟩, hq, e2⟩ := Option.map_eq_some_iff.1 hy
 obtain ⟨rfl, rfl⟩ := Prod.mk.inj e2
 exact ⟨rfl, swSt_row _ _ _ _ _, hr y' cs e hq⟩
theorem sset_eq (su : List SuT) (fu : List FuT) (res : List TyT) (vs : List PaT) (x : StT) (h2 : x.kind = 2) : stmtS su fu res x vs = (match typsS ⟨su, fu, vs⟩ x.lefts with
 | some ts => valuesS ⟨su, fu, vs⟩ x.exprs ts
 | none => none).map fun es => (setEx x es, vs) := by
 obtain ⟨k, ns, ty, ls, es, b, e, cs⟩ := x
 obtain rfl : k = 2 := h2
 unfold stmtS
 rw [if_neg (by decide), if_pos rfl]
 dsimp only [StT.lefts, StT.exprs]
 cases typsS ⟨su, fu, vs⟩ ls with
 | none => rfl
 | some ts => rfl
theorem sret_eq (su : List SuT) (fu : List FuT) (res : List TyT) (vs : List PaT) (x : StT) (h6 : x.kind = 6) : stmtS su fu res x vs = (valuesS ⟨su, fu, vs⟩ x.exprs res).map fun es => (setEx x es, vs) := by
 obtain ⟨k, ns, ty, ls, es, b, e, cs⟩ := x
 obtain rfl : k = 6 := h6
 unfold stmtS
 rw [if_neg (by decide), if_neg (by decide), if_pos rfl]
 rfl
theorem SAt.exs {B1 : List (List V)} {es : List ExT} (h : SAt B n c s f w ⟨su, fu, vs⟩ res L x) (he : ∀ i, i < n → (i < L.m1 ∨ L.m2 ≤ i) → B1[i]? = B[i]?) (ho : OwnV B1 es L.m1 L.m2 L.v2) : L.parts B1 (setEx x es) ∧ B1[w]? = some (vaM vs) := by
 obtain ⟨s1, s2, s3, s4, s5⟩ := setEx_at x es
 have hle := h.own.le
 have hnb := h.nb
 have how := h.ow
 refine ⟨⟨?_, ?_, ?_, ?_, ?_⟩, ?_⟩
 ·rw [s1]; exact h.own.1.frame fun i a b => he i (by omega) (by omega)
 ·rw [s2]; exact ho
 ·rw [s3]; exact h.own.2.2.1.frame fun i a b => he i (by omega) (by omega)
 ·rw [s4]; exact h.own.2.2.2.1.frame fun i a b => he i (by omega) (by omega)
 ·rw [s5]; exact h.own.2.2.2.2.frame fun i a b => he i (by omega) (by omega)
 ·rw [he w (by omega) (by have := how.2; omega)]; exact h.k.w
set_option maxHeartbeats 8000000 in
theorem sset_gt (hT : EnvT su fu) (h2 : x.kind = 2) (hlf : ∀ vs, (∀ p ∈ vs, TW p.type) → ∀ y ∈ x.lefts, TypG ⟨su, fu, vs⟩ res y ∧ ∀ w z t, typS ⟨su, fu, vs⟩ y w = some (z, t) → z = y) (hl : ∀ vs, (∀ p ∈ vs, TW p.type) → ∀ y ∈ x.exprs, TypG ⟨su, fu, vs⟩ res y ∧ ∀ z ∈ y.kids, TypG ⟨su, fu, vs⟩ res z) (hlen : x.exprs.length ≤ 60000) (hlen' : x.lefts.length ≤ 60000) : StG su fu res x := by
 intro vs n c s f w B T L p M nm hvs h hp hpb hTM hnm
 obtain ⟨N, hn⟩ : ∃ N, B.length = N := ⟨_, rfl⟩
 obtain ⟨al, hal⟩ : ∃ a, L.A.length = a := ⟨_, rfl⟩
 obtain ⟨j, hLj⟩ : ∃ j, L.j = j := ⟨_, rfl⟩
 obtain ⟨X, hX⟩ : ∃ X, L.row x = X := ⟨_, rfl⟩
 obtain ⟨x0, x1, x5, x6, x7, x8, x9, x10, x11, _⟩ := srow_at (show X = _ from hX.symm) hal
 have hrow := h.row
 rw [hX, hLj] at hrow
 rw [h2] at x0
 have hnl := h.nl
 have hle := h.own.le
 have hj : j < N := by have := h.nb; omega
 have hc := set_gt (T := T) hT (hlf vs hvs) (fun y hy => (hl vs hvs y hy).1) (fun y hy => (hl vs hvs y hy).2) hlen hlen' h
 rw [sset_eq su fu res vs x h2]
 rw [hal, hLj] at hc ⊢
 refine b75.go 160 rfl fun hsm => ?_
 simp only [smw] at hsm
 simp only [W, seval, c75, hn, hj, hrow, x0, Int.reduceEq, decide_true, decide_false]
 refine callS_of hc ?_
 rintro u _ ⟨B1, rfl, hlB, he, rfl, hr⟩
 refine ARun.go 60 ?_
 simp only [W, seval, c75]
 have e1 : EfS w w L.lo L.hi B.length 0 B B1 := EfS.weak (he.efs (w := w) (p := w) (m := 0) (.inl (Nat.le_refl _))) (Nat.le_refl _) (.inr (.inr rfl)) (.inl rfl) (.inl rfl) (Nat.le_refl _) (by omega)
 refine ARun.ret Tryz.func75 rfl (left_efs0 e1 (Nat.zero_le _) rfl ?_)
 rw [List.take_of_length_le (by omega)]
 refine stG.of h hp hpb hTM hlB e1 (by rw [Option.isSome_map]; rfl) fun y vs' hy => ?_
 obtain ⟨es, hq, e2⟩ := Option.map_eq_some_iff.1 hy
 obtain ⟨rfl, rfl⟩ := Prod.mk.inj e2
 obtain ⟨o1, o2⟩ := hr es hq
 obtain ⟨s1, s2, s3, s4, s5⟩ := setEx_at x es
 have hnb := h.nb
 have how := h.ow
 have fr : ∀ i, i < n → (i < L.lo ∨ L.m2 ≤ i) → B1[i]? = B[i]? := fun i a b => he.2.1 i (by omega) ⟨by omega, b⟩
 refine ⟨rfl, setEx_row _ _ _, ⟨?_, ?_, ?_, ?_, ?_⟩, ?_⟩
 ·rw [s1]; exact o1
 ·rw [s2]; exact o2
 ·rw [s3]; exact h.own.2.2.1.frame fun i a b => fr i (by omega) (by omega)
 ·rw [s4]; exact h.own.2.2.2.1.frame fun i a b => fr i (by omega) (by omega)
 ·rw [s5]; exact h.own.2.2.2.2.frame fun i a b => fr i (by omega) (by omega)
 ·rw [fr w (by omega) (by have := how.2; omega)]; exact h.k.w
set_option maxHeartbeats 8000000 in
theorem sret_gt (hT : EnvT su fu) (h6 : x.kind = 6) (hl : ∀ vs, (∀ p ∈ vs, TW p.type) → ∀ y ∈ x.exprs, TypG ⟨su, fu, vs⟩ res y ∧ ∀ z ∈ y.kids, TypG ⟨su, fu, vs⟩ res z) (hlen : x.exprs.length ≤ 60000) : StG su fu res x := by
 intro vs n c s f w B T L p M nm hvs h hp hpb hTM hnm
 obtain ⟨N, hn⟩ : ∃ N, B.length = N := ⟨_, rfl⟩
 obtain ⟨al, hal⟩ : ∃ a, L.A.length = a := ⟨_, rfl⟩
 obtain ⟨j, hLj⟩ : ∃ j, L.j = j := ⟨_, rfl⟩
 obtain ⟨X, hX⟩ : ∃ X, L.row x = X := ⟨_, rfl⟩
 obtain ⟨x0, x1, x5, x6, x7, x8, x9, x10, x11, _⟩ := srow_at (show X = _ from hX.symm) hal
 have hrow := h.row
 rw [hX, hLj] at hrow
 rw [h6] at x0
 have hnl := h.nl
 have hle := h.own.le
 have hjo := h.jo
 have hj : j < N := by have := h.nb; omega
 have hci : c < N := by rw [← hn]; exact h.k.lt.1
 have hb := h.k.c
 have hoc := h.oc
 unfold cBox at hb
 have hc := values_gt (T := T) hT (fun y hy => (hl vs hvs y hy).1) (fun y hy => (hl vs hvs y hy).2) hlen res h.exprs
 rw [sret_eq su fu res vs x h6]
 rw [hal, hLj]
 refine b75.go 160 rfl fun hsm => ?_
 simp only [smw] at hsm
 simp only [W, seval, c75, hn, hj, hrow, x0, Int.reduceEq, decide_true, decide_false]
 refine ARun.drawX 10 [] [j, c] (by kernel_rfl) (by kernel_rfl) (by kernel_rfl) (by kernel_rfl) (by kernel_rfl) (by kernel_rfl) (by kernel_rfl) ?_
 simp (maxSteps := 4000000) only [W, seval, c75, xw, hn, hj, hrow, x6, hci, hb]
 refine callX_0 (vaG.ne h.exprs res) hc ?_
 rintro u _ ⟨B1, rfl, ⟨he, hlB, hr⟩, rfl⟩
 have k1 : B1[j]? = B[j]? := he.2.1 j (by omega) ⟨by omega, by omega⟩
 have k2 : B1[c]? = B[c]? := he.2.1 c (by omega) ⟨by omega, by have := hoc.2; omega⟩
 refine ⟨⟨k1, k2, trivial⟩, ?_⟩
 simp (maxSteps := 4000000) only [W, seval, c75, xw, hn]
 refine ⟨⟨k1, k2⟩, ?_⟩
 refine ARun.go 60 ?_
 simp only [W, seval, c75]
 have e1 : EfS w w L.lo L.hi B.length 0 B B1 := EfS.weak (he.efs (w := w) (p := w) (m := 0) (.inl (Nat.le_refl _))) (Nat.le_refl _) (.inr (.inr rfl)) (.inl rfl) (.inl rfl) (by omega) (by omega)
 refine ARun.ret Tryz.func75 rfl (left_efs0 e1 (Nat.zero_le _) rfl ?_)
 rw [List.take_of_length_le (by omega)]
 refine stG.of h hp hpb hTM hlB e1 (by rw [Option.isSome_map]; rfl) fun y vs' hy => ?_
 obtain ⟨es, hq, e2⟩ := Option.map_eq_some_iff.1 hy
 obtain ⟨rfl, rfl⟩ := Prod.mk.inj e2
 have := h.exs (fun i a b => he.2.1 i (by omega) ⟨by omega, b⟩) (hr es hq)
 exact ⟨rfl, setEx_row _ _ _, this⟩
def ifSt : StT → ExT → List StT → List StT → StT
 | .mk k ns ty ls _ _ _ cs, y, b, e => .mk k ns ty ls [y] b e cs
theorem ifSt_row (L : Lay) (x : StT) (y : ExT) (b e : List StT) : L.row (ifSt x y b e) = L.row x := by cases x; rfl
theorem ifSt_at (x : StT) (y : ExT) (b e : List StT) : (ifSt x y b e).lefts = x.lefts ∧ (ifSt x y b e).exprs = [y] ∧ (ifSt x y b e).body = b ∧ (ifSt x y b e).els = e ∧ (ifSt x y b e).cases = x.cases := by cases x; exact ⟨rfl, rfl, rfl, rfl, rfl⟩
theorem sif_eq (su : List SuT) (fu : List FuT) (res : List TyT) (vs : List PaT) (x : StT) (a : ExT) (hx : x.kind = 3 ∨ x.kind = 4) (hk : x.exprs = [a]) : stmtS su fu res x vs = (match wantR (typS ⟨su, fu, vs⟩ a tyBool) tyBool with
 | some y => (match blockS su fu res x.body vs with
  | some b => (blockS su fu res x.els vs).map fun e => (ifSt x y b e, vs)
  | none => none)
 | none => none) := by
 obtain ⟨k, ns, ty, ls, es, b, e, cs⟩ := x
 obtain rfl : es = [a] := hk
 have h1 : k = 3 ∨ k = 4 := hx
 unfold stmtS
 rw [if_neg (by omega), if_neg (by omega), if_neg (by omega)]
 dsimp only
 rw [if_neg (by omega)]
 rfl
set_option maxHeartbeats 16000000 in
theorem sif_gt {a : ExT} (hx : x.kind = 3 ∨ x.kind = 4) (hk : x.exprs = [a]) (ha : ∀ vs, (∀ p ∈ vs, TW p.type) → TypG ⟨su, fu, vs⟩ res a) (hbo : BlG su fu res x.body) (hel : BlG su fu res x.els) : StG su fu res x := by
 intro vs n c s f w B T L p M nm hvs h hp hpb hTM hnm
 obtain ⟨N, hn⟩ : ∃ N, B.length = N := ⟨_, rfl⟩
 obtain ⟨al, hal⟩ : ∃ a, L.A.length = a := ⟨_, rfl⟩
 obtain ⟨j, hLj⟩ : ∃ j, L.j = j := ⟨_, rfl⟩
 obtain ⟨X, hX⟩ : ∃ X, L.row x = X := ⟨_, rfl⟩
 obtain ⟨x0, x1, x5, x6, x7, x8, x9, x10, x11, _⟩ := srow_at (show X = _ from hX.symm) hal
 have hrow := h.row
 rw [hX, hLj] at hrow
 have hnl := h.nl
 have hle := h.own.le
 have hjo := h.jo
 have how := h.ow
 have hoc := h.oc
 have hos := h.os
 have hof := h.of
 have hj : j < N := by have := h.nb; omega
 have hex := h.exprs
 rw [hk] at hex
 obtain ⟨j1, m, cap, hv2, hmk⟩ := hex.bx (by simp)
 rw [hv2] at hex x6
 have hm : (0 : Int) < (m : Int) := by rw [hmk]; simp
 obtain ⟨lo1, hi1, A1, C1, kv1, a1, k1, k2, k3⟩ := hex.kid (k := 0) (y := a) rfl
 rw [Nat.zero_mul] at a1
 have hh := has_gt (T := T) (ha vs hvs) tyBool k1
 rw [a1] at hh
 unfold tyV at hh
 rw [sif_eq su fu res vs x a hx hk]
 rw [hal, hLj]
 have e3 : ∀ k : Int, k = 3 ∨ k = 4 → decide (k = 1) = false ∧ decide (k = 2) = false ∧ decide (k = 6) = false ∧ decide (k = 5) = false := fun k h => ⟨decide_eq_false (by omega), decide_eq_false (by omega), decide_eq_false (by omega), decide_eq_false (by omega)⟩
 obtain ⟨q1, q2, q3, q4⟩ := e3 _ hx
 refine b75.go 160 rfl fun hsm => ?_
 simp only [smw] at hsm
 simp only [W, seval, c75, hn, hj, hrow, x0, q1, q2, q3, q4]
 refine ARun.drawX 24 [] [j] (by kernel_rfl) (by kernel_rfl) (by kernel_rfl) (by kernel_rfl) (by kernel_rfl) (by kernel_rfl) (by kernel_rfl) ?_
 simp (maxSteps := 4000000) only [W, seval, c75, xw, bxw, hn, hj, hrow, x6, hm]
 refine callX_fn (fun Z => truth_gt _ _) ?_
 simp (maxSteps := 4000000) only [W, seval, c75, xw, tyV]
 refine callX_0 (hasG.ne k1 tyBool) hh ?_
 rintro u _ ⟨B1, rfl, hd, rfl⟩
 have ee := k2 B.length _ _ hd.1
 have hl1 := hd.2.1
 have g1 : B1[j]? = B[j]? := ee.2.1 j (by omega) ⟨by omega, by omega⟩
 have e1 : EfS w w L.lo L.hi B.length 0 B B1 := EfS.weak (ee.efs (w := w) (p := w) (m := 0) (.inl (Nat.le_refl _))) (Nat.le_refl _) (.inr (.inr rfl)) (.inl rfl) (.inl rfl) (by omega) (by omega)
 refine ⟨⟨g1, trivial⟩, ?_⟩
 cases hw : wantR (typS ⟨su, fu, vs⟩ a tyBool) tyBool with
 | none =>
  simp (maxSteps := 4000000) only [W, seval, c75, xw, Option.isSome_none, hn]
  refine ⟨g1, ?_⟩
  refine ARun.go 60 ?_
  simp only [W, seval, c75]
  refine ARun.ret Tryz.func75 rfl (left_efs0 e1 (Nat.zero_le _) rfl ?_)
  rw [List.take_of_length_le (by omega)]
  exact stG.of h hp hpb hTM hl1 e1 rfl fun y vs' hy => by cases hy
 | some z =>
  rw [hw] at hd
  have hz := (k3 B1 z hd).own
  obtain ⟨pz, wz⟩ := h.exs (es := [z]) (fun i a b => ee.2.1 i (by omega) ⟨by omega, b⟩) (by rw [hv2]; exact hz)
  have hs1 : SAt B1 n c s f w ⟨su, fu, vs⟩ res L (setEx x [z]) := h.part (e1.weak (n := n) (m := 0) hnl (.inr (.inr rfl)) (.inl rfl) (.inl rfl) (Nat.le_refl _) (Nat.le_refl _)) (.inr rfl) (Nat.le_refl _) (Nat.le_refl _) wz (setEx_row _ _ _) pz
  have hbk := hs1.body
  rw [(setEx_at x [z]).2.2.1] at hbk
  have hb1 := hbo vs n c s f w B1 T _ _ _ hvs hbk
  have hj1 : j < B1.length := by omega
  have row1 : B1[j]? = some X := g1.trans hrow
  simp (maxSteps := 4000000) only [W, seval, c75, xw, Option.isSome_some, hn, row1, x7]
  refine callX_0 (blG.ne hbk) hb1 ?_
  rintro u _ ⟨B2, rfl, hd2, rfl⟩
  have hl2 := hd2.2.1
  have g2 : B2[j]? = B1[j]? := hd2.1.2.1 j hj1 (fun e => how.1 (e.symm.trans hLj.symm)) (fun e => how.1 (e.symm.trans hLj.symm)) (by omega)
  have e2 : EfS w w L.lo L.hi B.length 0 B B2 := e1.step (hd2.1.weak (Nat.le_refl _) (.inr (.inr rfl)) (.inl rfl) (.inl rfl) (by omega) (by omega))
  refine ⟨⟨g2.trans g1, trivial⟩, ?_⟩
  cases hwb : blockS su fu res x.body vs with
  | none =>
   simp (maxSteps := 4000000) only [W, seval, c75, xw, Option.isSome_none, hn]
   refine ⟨g2.trans g1, ?_⟩
   refine ARun.go 60 ?_
   simp only [W, seval, c75]
   refine ARun.ret Tryz.func75 rfl (left_efs0 e2 (Nat.zero_le _) rfl ?_)
   rw [List.take_of_length_le (by omega)]
   exact stG.of h hp hpb hTM (hl2.trans hl1) e2 rfl fun y vs' hy => by cases hy
  | some b =>
   rw [hwb] at hd2
   obtain ⟨ob, ow2⟩ := hd2.2.2 b rfl
   have hnb := h.nb
   have fr2 : ∀ i, i < n → i ≠ w → (i < L.m2 ∨ L.m3 ≤ i) → B2[i]? = B1[i]? := fun i a b c => hd2.1.2.1 i (by omega) b b c
   have how2 := how.2
   have hs2 : SAt B2 n c s f w ⟨su, fu, vs⟩ res L (ifSt x z b x.els) := by
    obtain ⟨p1, p2, p3, p4, p5⟩ := hs1.own
    obtain ⟨s1, s2, s3, s4, s5⟩ := setEx_at x [z]
    obtain ⟨r1, r2, r3, r4, r5⟩ := ifSt_at x z b x.els
    rw [s1] at p1
    rw [s2] at p2
    rw [s4] at p4
    rw [s5] at p5
    refine hs1.part (hd2.1.weak (n := n) (m := 0) (by omega) (.inr (.inr rfl)) (.inl rfl) (.inl rfl) (Nat.le_refl _) (Nat.le_refl _)) (.inr rfl) (by omega) (by omega) ow2 (by rw [ifSt_row, setEx_row]) ⟨?_, ?_, ?_, ?_, ?_⟩
    ·rw [r1]; exact p1.frame fun i a b => fr2 i (by omega) (by omega) (by omega)
    ·rw [r2]; exact p2.frame fun i a b => fr2 i (by omega) (by omega) (by omega)
    ·rw [r3]; exact ob
    ·rw [r4]; exact p4.frame fun i a b => fr2 i (by omega) (by omega) (by omega)
    ·rw [r5]; exact p5.frame fun i a b => fr2 i (by omega) (by omega) (by omega)
   have hbk2 := hs2.els
   rw [(ifSt_at x z b x.els).2.2.2.1] at hbk2
   have hb2 := hel vs n c s f w B2 T _ _ _ hvs hbk2
   have row2 : B2[j]? = some X := g2.trans row1
   simp (maxSteps := 4000000) only [W, seval, c75, xw, Option.isSome_some, hn, row2, x8]
   refine callX_0 (blG.ne hbk2) hb2 ?_
   rintro u _ ⟨B3, rfl, hd3, rfl⟩
   have hl3 := hd3.2.1
   have g3 : B3[j]? = B2[j]? := hd3.1.2.1 j (by omega) (fun e => how.1 (e.symm.trans hLj.symm)) (fun e => how.1 (e.symm.trans hLj.symm)) (by omega)
   have e4 : EfS w w L.lo L.hi B.length 0 B B3 := e2.step (hd3.1.weak (Nat.le_refl _) (.inr (.inr rfl)) (.inl rfl) (.inl rfl) (by omega) (by omega))
   have g4 := g3.trans (g2.trans g1)
   refine ⟨⟨g4, trivial⟩, ?_⟩
   simp (maxSteps := 4000000) only [W, seval, c75, xw, hn]
   refine ⟨g4, ?_⟩
   refine ARun.go 60 ?_
   simp only [W, seval, c75]
   refine ARun.ret Tryz.func75 rfl (left_efs0 e4 (Nat.zero_le _) rfl ?_)
   rw [List.take_of_length_le (by omega)]
   refine stG.of h hp hpb hTM (hl3.trans (hl2.trans hl1)) e4 (by rw [Option.isSome_map]; rfl) fun y vs' hy => ?_
   obtain ⟨e', hq, e5⟩ := Option.map_eq_some_iff.1 hy
   obtain ⟨rfl, rfl⟩ := Prod.mk.inj e5
   obtain ⟨oe, ow3⟩ := hd3.2.2 e' hq
   have fr3 : ∀ i, i < n → i ≠ w → (i < L.m3 ∨ L.m4 ≤ i) → B3[i]? = B2[i]? := fun i a b c => hd3.1.2.1 i (by omega) b b c
   obtain ⟨p1, p2, p3, p4, p5⟩ := hs2.own
   obtain ⟨s1, s2, s3, s4, s5⟩ := ifSt_at x z b x.els
   obtain ⟨r1, r2, r3, r4, r5⟩ := ifSt_at x z b e'
   rw [s1] at p1
   rw [s2] at p2
   rw [s3] at p3
   rw [s5] at p5
   refine ⟨rfl, ifSt_row _ _ _ _ _, ⟨?_, ?_, ?_, ?_, ?_⟩, ow3⟩
   ·rw [r1]; exact p1.frame fun i a b => fr3 i (by omega) (by omega) (by omega)
   ·rw [r2]; exact p2.frame fun i a b => fr3 i (by omega) (by omega) (by omega)
   ·rw [r3]; exact p3.frame fun i a b => fr3 i (by omega) (by omega) (by omega)
   ·rw [r4]; exact oe
   ·rw [r5]; exact p5.frame fun i a b => fr3 i (by omega) (by omega) (by omega)
end
def c27 := by
 have c := KK_of Tryz.f27 (by conv => lhs; cbv)
 dsimp only [KK, KxP, doO, opO, List.map_cons, List.map_nil, List.toList_toArray] at c
 exact c
theorem b27 : FnIs Tryz.prog 27 Tryz.f27 33 := ⟨Tryz.func27, by kernel_rfl⟩
theorem stmtS_new {su : List SuT} {fu : List FuT} {res : List TyT} {s : StT} {vs : List PaT} {s' : StT} {vs' : List PaT} (h : stmtS su fu res s vs = some (s', vs')) : vs' = vs ∨ ∃ n, vs' = vs ++ [⟨n, s.type⟩] ∧ atN PaT.name vs n = none := by
 obtain ⟨k, ns, ty, ls, es, b, e, cs⟩ := s
 have one : ∀ {α : Type} {o : Option α} {g : α → StT × List PaT}, (∀ a, (g a).2 = vs) → o.map g = some (s', vs') → vs' = vs := by
  intro α o g hg h
  obtain ⟨x, _, e⟩ := Option.map_eq_some_iff.1 h
  rw [← hg x, e]
 unfold stmtS at h
 split at h
 ·split at h
  ·split at h
   ·rename_i n _ hc
    have := (Prod.mk.inj (Option.some.inj h)).2
    exact .inr ⟨n, this.symm, by simpa using hc.1⟩
   ·cases h
  ·cases h
 split at h
 ·split at h
  ·exact .inl (one (fun _ => rfl) h)
  ·cases h
 split at h
 ·exact .inl (one (fun _ => rfl) h)
 split at h
 ·split at h
  ·split at h
   ·split at h
    ·split at h
     ·exact .inl (one (fun _ => rfl) h)
     ·cases h
    ·cases h
   ·cases h
  ·split at h
   ·split at h
    ·exact .inl (one (fun _ => rfl) h)
    ·cases h
   ·cases h
 ·cases h
theorem atN_app {α : Type} (nm : α → List UInt8) : ∀ {l m : List α} {n : List UInt8}, atN nm (l ++ m) n = none → atN nm l n = none
 | [], _, _, _ => rfl
 | x :: l, m, n, h => by
  rw [List.cons_append] at h
  unfold atN at h ⊢
  split at h
  ·cases h
  ·rename_i hx
   rw [if_neg hx]
   exact atN_app nm h
theorem kidx_mid {α : Type} (nm : α → List UInt8) (k : α) (r : List α) : ∀ l : List α, atN nm l (nm k) = none → kidx ((l ++ k :: r).map nm) (nm k) = some l.length
 | [], _ => by simp [kidx]
 | x :: l, h => by
  unfold atN at h
  split at h
  ·cases h
  ·rename_i hx
   rw [List.cons_append, List.map_cons, kidx, if_neg hx, kidx_mid nm k r l h]; rfl
theorem vaM_del {vs r : List PaT} {k : PaT} (h : atN PaT.name vs k.name = none) : kdel ((vs ++ k :: r).map PaT.name) ((vs ++ k :: r).map fun p => tyV p.type) k.name = vaM (vs ++ r) := by
 unfold kdel vaM
 rw [kidx_mid _ _ _ _ h]
 dsimp only
 simp only [List.map_append, List.map_cons]
 rw [List.eraseIdx_append_of_length_le (by simp), List.eraseIdx_append_of_length_le (by simp)]
 simp
theorem toks_cut {T T' : List (Nat × Nat)} {b : Nat × Nat} (hq : ∀ q, q ≠ T.length → T'[q]? = (T ++ [b])[q]?) : T' = T ++ T'.drop T.length := by
 conv => lhs; rw [← List.take_append_drop T.length T']
 congr 1
 apply List.ext_getElem?
 intro q
 rw [List.getElem?_take]
 by_cases h : q < T.length
 ·rw [if_pos h, hq q (by omega), List.getElem?_append_left h]
 ·rw [if_neg h, List.getElem?_eq_none (by omega)]
theorem toks_eq {T T' : List (Nat × Nat)} {b d : Nat × Nat} (hl : T'.length = (T ++ [b]).length) (hq : ∀ q, q ≠ T.length → T'[q]? = (T ++ [b])[q]?) (hd : T'[T.length]? = some d) : T' = T ++ [d] := by
 rw [toks_cut hq] at hd ⊢
 rw [List.getElem?_append_right (Nat.le_refl _), Nat.sub_self] at hd
 congr 1
 have : (T'.drop T.length).length = 1 := by simp at hl; simp; omega
 obtain ⟨x, hx⟩ := List.length_eq_one_iff.1 this
 rw [hx] at hd ⊢
 rw [← Option.some.inj hd]
structure BgSt where
 i : Nat
 ys : List StT
 ks : List PaT
 B : List (List V)
structure POk (su : List SuT) (fu : List FuT) (vs : List PaT) (res : List TyT) (n c s f w lo hi : Nat) (v : V) (l : List StT) (M : Nat) (B : List (List V)) (a : BgSt) : Prop where
 le : a.i ≤ l.length
 len : a.ys.length = a.i
 eff : EfS w w lo hi B.length 0 B a.B
 bl : a.B.length = B.length + 1
 at' : BkAt a.B n c s f w ⟨su, fu, vs ++ a.ks⟩ res lo hi v (a.ys ++ l.drop a.i)
 nb : a.B[B.length]? = some [.sl (ssD (a.ks.map PaT.name)) (.own M)]
 new : ∀ k ∈ a.ks, atN PaT.name vs k.name = none
 tw : ∀ k ∈ a.ks, TW k.type
 kl : a.ks.length ≤ a.i
 res : (blockS su fu res (l.drop a.i) (vs ++ a.ks)).map (a.ys ++ ·) = blockS su fu res l vs
theorem blockS_drop' (su : List SuT) (fu : List FuT) (res : List TyT) (l : List StT) (vs : List PaT) (i : Nat) (h : i < l.length) : blockS su fu res (l.drop i) vs = match stmtS su fu res l[i] vs with
 | some (s, vs) => (blockS su fu res (l.drop (i + 1)) vs).map fun l => s :: l
 | none => none := by
 rw [List.drop_eq_getElem_cons h]
 conv => lhs; unfold blockS
 rfl
set_option maxHeartbeats 16000000 in
theorem block_gt {su : List SuT} {fu : List FuT} {res : List TyT} {l : List StT} (hl : ∀ x ∈ l, StG su fu res x) (hty : ∀ x ∈ l, TW x.type) (hlen : l.length ≤ 60000) : BlG su fu res l := by
 intro vs n c s f w B T lo hi v hvs h
 obtain ⟨N, hn⟩ : ∃ N, B.length = N := ⟨_, rfl⟩
 obtain ⟨M, hM⟩ : ∃ M, T.length = M := ⟨_, rfl⟩
 have hnl := h.nl
 have hnb := h.nb
 have how := h.ow
 have hol := h.own.len Tryz.prog tySts rfl
 rw [opLen.eq_1, tySts] at hol
 refine b27.go 160 rfl fun hsm => ?_
 simp only [smw] at hsm
 simp only [W, seval, c27, hn, hol]
 refine ARun.tokenB N 0 _ [] (by rw [bx_loc0 hn]; rfl) (by rfl) 1 (by omega) rfl ?_
 rw [bx_set_loc0 hn]
 simp only [List.set_cons_zero, hM, List.length_nil]
 refine ARun.loopW (fun a : BgSt => (envS 33 [(0, .ptr c 0), (1, v), (5, .ptr N 0), (10, .d (.int .i64 (l.length : Int))), (11, .d (.int .i64 (a.i : Int)))], ⟨a.B, T ++ [(a.ks.length, 1)]⟩)) (POk su fu vs res n c s f w lo hi v l M B) (fun a => l.length - a.i) ⟨0, [], [], B ++ [[.sl [] (.own M)]]⟩ ⟨Nat.zero_le _, rfl, (EfS.refl _ _ _ _ _ _ B).app, by simp, by simpa using h.more, by rw [bx_loc0 rfl]; rfl, by simp, by simp, Nat.zero_le _, by simp⟩ ?_ rfl ?_
 ·skip
  refine Agree.env _ ?_
  simp only [agw, seval]
 rintro ⟨i, ys, ks, Bi⟩ ⟨h2, h3, h4, h5, h6, h7, h8, h9, h10, h11⟩ ih
 dsimp only at h2 h3 h4 h5 h6 h7 h8 h9 h10 h11 ih ⊢
 rw [hn] at h5 h7
 have hNN : N < N + 1 := by omega
 by_cases hlt : i < l.length
 case neg =>
  have e3 : decide ((i : Int) < (l.length : Int)) = false := decide_eq_false (by omega)
  obtain rfl : i = l.length := by omega
  rw [List.drop_eq_nil_of_le (Nat.le_refl _), blockS, Option.map_some, List.append_nil] at h11
  rw [List.drop_eq_nil_of_le (Nat.le_refl _), List.append_nil] at h6
  rw [← h11]
  have hwB := h6.k.w
  refine ARun.go 160 ?_
  simp only [W, seval, c27, e3, h5, hNN, h7, ssD_length, List.length_map]
  have hcB := h6.k.c
  unfold cBox at hcB
  obtain ⟨w1, _, _⟩ := h.wd
  have hcn : c < N + 1 := by omega
  have hset : Bi.set w (vaM (vs ++ ks)) = Bi := set_self _ _ _ hwB
  have hwl : w < Bi.length := by omega
  have hcb : ∀ Z, (Bi.set w Z)[c]? = some [V.mp s, .mp f, .mp w, .d (.sl (res.map tyD))] := fun Z => by rw [List.getElem?_set_ne (Ne.symm w1)]; exact hcB
  have hef : ∀ q, EfS w w lo hi B.length 0 B (Bi.set w (vaM q)) := fun q => h4.put (.inl rfl) fun v hv => .inl (fit_vaM q 0 v hv)
  refine ARun.loopW (fun k : Nat => (envS 33 [(0, .ptr c 0), (21, .sl (ssD (ks.map PaT.name)) (.own M)), (22, .d (.int .i64 (ks.length : Int))), (23, .d (.int .i64 (k : Int)))], ⟨Bi.set w (vaM (vs ++ ks.drop k)), T ++ [(ks.length, 1)]⟩)) (fun k => k ≤ ks.length) (fun k => ks.length - k) 0 (Nat.zero_le _) ?_ (by rw [List.drop_zero, hset]) ?_
  ·skip
   refine Agree.env _ ?_
   simp only [agw, seval]
  intro k hk ih2
  dsimp only at ih2 ⊢
  by_cases hkl : k < ks.length
  case neg =>
   have e4 : decide ((k : Int) < (ks.length : Int)) = false := decide_eq_false (by omega)
   rw [List.drop_eq_nil_of_le (by omega), List.append_nil]
   refine ARun.go 60 ?_
   simp only [W, seval, c27, e4]
   refine ARun.ret Tryz.func27 rfl (left_efs (hef vs) (Nat.zero_le _) rfl ?_)
   have hwh : w < lo ∨ hi ≤ w := how
   refine ⟨_, rfl, ⟨(hef vs).cut, by simp; omega, fun l' hl' => ?_⟩, rfl⟩
   obtain rfl := Option.some.inj hl'
   exact ⟨h6.own.frame fun i a b => by rw [take_at (by omega), List.getElem?_set_ne (by omega)], by rw [take_at (by omega), List.getElem?_set_self hwl]⟩
  have e4 : decide ((k : Int) < (ks.length : Int)) = true := decide_eq_true (by omega)
  have hwk := wrap_in ((k : Int) + 1) (by omega)
  have hgk : (ks.map PaT.name)[k]? = some ks[k].name := by simp [hkl]
  have hkI : (k : Int) < ((ks.map PaT.name).length : Int) := by rw [List.length_map]; omega
  have hdel : opMapDel Tryz.prog ⟨Bi.set w (vaM (vs ++ ks.drop k)), T ++ [(ks.length, 1)]⟩ 62 (.mp w) (.d (.str ks[k].name)) = some (.tup [], ⟨Bi.set w (vaM (vs ++ ks.drop (k + 1))), T ++ [(ks.length, 1)]⟩) := by
   unfold opMapDel
   have hg : (Bi.set w (vaM (vs ++ ks.drop k)))[w]? = some (vaM (vs ++ ks.drop k)) := List.getElem?_set_self hwl
   unfold vaM at hg
   simp only [mapTyp]
   show (match (Bi.set w (vaM (vs ++ ks.drop k)))[w]? with | some [.kvs ks' vs'] => _ | _ => none) = _
   unfold vaM
   rw [hg]
   dsimp only
   rw [List.set_set, List.drop_eq_getElem_cons hkl, vaM_del (h8 ks[k] (List.getElem_mem hkl))]
   rfl
  refine ARun.go 60 ?_
  simp only [W, seval, c27, e4, hgk, hkI, hkl, List.length_map, h5, hcn, hcb, hdel, hwk]
  refine ih2 (k + 1) (by omega) (by omega) _ _ ?_ rfl
  refine Agree.env _ ?_
  simp only [agw, seval]
 have e3 : decide ((i : Int) < (l.length : Int)) = true := decide_eq_true (by omega)
 have hwi := wrap_in ((i : Int) + 1) (by omega)
 obtain ⟨x, hx⟩ : ∃ x, l[i] = x := ⟨_, rfl⟩
 have hst := hl l[i] (List.getElem_mem hlt)
 have htw := hty l[i] (List.getElem_mem hlt)
 rw [hx] at hst htw
 rw [blockS_drop' _ _ _ _ _ _ hlt, hx] at h11
 have hki : (ys ++ l.drop i)[i]? = some x := by rw [mix_at _ _ h3, List.getElem?_eq_getElem hlt, hx]
 obtain ⟨j1, m, cap, rfl, hmk⟩ := h6.bx (by intro h0; rw [h0] at hki; simp at hki)
 have hmi : (i : Int) < (m : Int) := by have := (List.getElem?_eq_some_iff.1 hki).1; omega
 obtain ⟨L, q1, q2, q3, q4, q5, q6, q7, q8⟩ := h6.kid hki
 have hc := hst (vs ++ ks) n c s f w Bi (T ++ [(ks.length, 1)]) L N M (ks.map PaT.name) (fun p hp => (List.mem_append.1 hp).elim (hvs p) (h9 p)) q7 (by omega) h7 (by rw [List.getElem?_append_right (by omega), hM, Nat.sub_self]; simp) (by rw [List.length_map]; omega)
 rw [q1, q2] at hc
 refine ARun.go 160 ?_
 simp only [W, seval, c27, bxw, e3, hmi]
 refine callS_of hc ?_
 rintro u _ ⟨B1, T1, rfl, hl1, ht1, ht2, he, rfl, hr⟩
 have hcut := toks_cut (b := (ks.length, 1)) (by rw [hM]; exact ht2)
 have e4 : EfS w w lo hi B.length 0 B B1 := h4.trans (he.weak (by omega) (.inr (.inl (by omega))) (.inl rfl) (.inr (.inr (.inr (by omega)))) q5 q6)
 cases hs : stmtS su fu res x (vs ++ ks) with
 | none =>
  rw [hs] at h11
  rw [← h11]
  refine ARun.go 60 ?_
  simp only [W, seval, c27, Option.isSome_none, Bool.not_false]
  rw [hcut]
  refine ARun.ret Tryz.func27 rfl (left_efs e4 (Nat.zero_le _) rfl ?_)
  exact ⟨_, rfl, ⟨e4.cut, by have := e4.1; rw [List.length_take]; omega, fun l hl => by cases hl⟩, rfl⟩
 | some p =>
  obtain ⟨x', vs'⟩ := p
  rw [hs] at h11 hr
  obtain ⟨o1, o2, k1, rfl, o3, o4, o5⟩ := hr x' vs' rfl
  have hT1 : T1 = T ++ [((ks.map PaT.name ++ k1.map PaT.name).length, 1)] := toks_eq (b := (ks.length, 1)) ht1 (by rw [hM]; exact ht2) (by rw [hM]; exact o5)
  have hk1 : (∀ k ∈ k1, atN PaT.name (vs ++ ks) k.name = none ∧ TW k.type) ∧ k1.length ≤ 1 := by
   rcases stmtS_new hs with e | ⟨nn, e, hn'⟩
   ·have : k1 = [] := by simpa using e
    rw [this]; exact ⟨fun k hk => absurd hk List.not_mem_nil, Nat.zero_le _⟩
   ·have : k1 = [⟨nn, x.type⟩] := List.append_cancel_left e
    rw [this]
    exact ⟨fun k hk => by obtain rfl := List.mem_singleton.1 hk; exact ⟨hn', htw⟩, Nat.le_refl _⟩
  have hb9 := q8 B1 x' (vs ++ ks ++ k1) N (T ++ [(ks.length, 1)]).length (he.weak (n := n) (m := (T ++ [(ks.length, 1)]).length) (by omega) (.inl ⟨rfl, Nat.le_refl _⟩) (.inl rfl) (.inr (.inl rfl)) (Nat.le_refl _) (Nat.le_refl _)) (by omega) o1 (by rw [← q1]; exact o2) o3
  rw [mix_set _ _ h3 hlt] at hb9
  refine ARun.go 60 ?_
  simp only [W, seval, c27, Option.isSome_some, Bool.not_true, hwi]
  refine ih ⟨i + 1, ys ++ [x'], ks ++ k1, B1⟩ ⟨hlt, by simp [h3], e4, by rw [hn, ← h5]; exact hl1, by rw [← List.append_assoc]; exact hb9, by rw [hn, List.map_append]; exact o4, fun k hk => (List.mem_append.1 hk).elim (h8 k) fun hk => atN_app _ (hk1.1 k hk).1, fun k hk => (List.mem_append.1 hk).elim (h9 k) fun hk => (hk1.1 k hk).2, by have := hk1.2; rw [List.length_append]; dsimp only; omega, ?_⟩ (by dsimp only; omega) _ _ ?_ (by dsimp only; rw [hT1]; simp)
  ·dsimp only at h11 ⊢
   rw [← h11, ← List.append_assoc]
   cases blockS su fu res (l.drop (i + 1)) (vs ++ ks ++ k1) <;> simp
  ·skip
   refine Agree.env _ ?_
   simp only [agw, seval]
def vaR (r : Option (List ExT)) (v : V) : Prop :=
 match r with
 | some l => v = .tup [.d (.sl (l.map exD)), .d (.bool true)]
 | none => ∃ l : List ExT, v = .tup [.d (.sl (l.map exD)), .d (.bool false)]
theorem vaR.ne (r : Option (List ExT)) : ∃ v, vaR r v := by
 cases r
 ·exact ⟨_, [], rfl⟩
 ·exact ⟨_, rfl⟩
theorem vaR.of {r : Option (List ExT)} {v : V} (l : List ExT) (b : Bool) (hv : v = .tup [.d (.sl (l.map exD)), .d (.bool b)]) (h : r = if b = true then some l else none) : vaR r v := by
 subst h hv
 cases b
 ·exact ⟨l, rfl⟩
 ·rfl
section
variable {E : Tenv} {res : List TyT} {c : Nat} {B : List (List V)} {T : List (Nat × Nat)}
end
end Go.Proofs.YtnfnbjjnjjdjdaaGreatDoor
namespace Go.Proofs.YtnfnbjjnjjdjdaaGreatDoor
open Go.RowKit Go.Av
def Eqv {α : Type} (a b : α × Ps) : Prop := a.2 = b.2 ∧ (a.2.e = 0 → a.1 = b.1)
theorem Eqv.refl {α : Type} (a : α × Ps) : Eqv a a := ⟨rfl, fun _ => rfl⟩
def EqE {α : Type} (n : Nat) (E E' : Ps → α × Ps) : Prop := ∀ s, mu s < n → Eqv (E s) (E' s)
theorem EqE.at {α : Type} {n : Nat} {E E' : Ps → α × Ps} (h : EqE n E E') (s : Ps) (hn : mu s < n) : ∃ x x' s1, E s = (x, s1) ∧ E' s = (x', s1) ∧ (s1.e = 0 → x = x') := by
 obtain ⟨h1, h2⟩ := h s hn
 exact ⟨(E s).1, (E' s).1, (E s).2, rfl, by rw [h1], h2⟩
theorem Eqv.open {α : Type} {a b : α × Ps} (h : Eqv a b) : ∃ x x' s1, a = (x, s1) ∧ b = (x', s1) ∧ (s1.e = 0 → x = x') := ⟨a.1, b.1, a.2, rfl, by rw [h.1], h.2⟩
end Go.Proofs.YtnfnbjjnjjdjdaaGreatDoor
namespace Go.Proofs.YtnfnbjjnjjdjdaaGreatDoor
open Go.RowKit Go.Av Go.Ab
set_option linter.unusedSimpArgs false
set_option maxRecDepth 100000
set_option linter.defProp false
theorem rows2 (i : Int) (b : List StT) : [D.int .u64 i, .sl (b.map stD)] = caD (.mk i b) := (caD_eq (.mk i b)).symm
inductive ShS : StT → Prop
 | mk (s : StT) : s.lefts.length ≤ 60000 → s.exprs.length ≤ 60000 → s.cases.length ≤ 60000 → s.body.length ≤ 60000 → s.els.length ≤ 60000 → (∀ x ∈ s.lefts, ShE x) → (∀ x ∈ s.exprs, ShE x) → (∀ y ∈ s.body, ShS y) → (∀ y ∈ s.els, ShS y) → (∀ c ∈ s.cases, c.body.length ≤ 60000) → (∀ c ∈ s.cases, ∀ y ∈ c.body, ShS y) → ShS s
theorem ShS.cases {s : StT} (h : ShS s) : s.cases.length ≤ 60000 := by cases h; assumption
theorem endsL_last : ∀ (l : List StT) (h : 0 < l.length), endsL l = endsT (l[l.length - 1])
 | [], h => absurd h (Nat.not_lt_zero 0)
 | [s], _ => by unfold endsL; rfl
 | a :: b :: l, _ => by
  unfold endsL
  dsimp only
  rw [endsL_last (b :: l) (by simp)]
  congr 1
theorem OkE.kid {d : Int} {x : ExT} (h : OkE d x) : ∀ y ∈ x.kids, OkE (d + 1) y := by
 cases h with
 | nam _ t h1 h2 => exact fun y hy => absurd hy List.not_mem_nil
 | num _ i h1 h2 h3 => exact fun y hy => absurd hy List.not_mem_nil
 | tru _ i h1 h2 h3 => exact fun y hy => absurd hy List.not_mem_nil
 | sgn _ k y h1 h2 h3 => exact fun z hz => by obtain rfl := List.mem_singleton.1 hz; exact h3
 | bin _ t y z h1 h2 h3 h4 =>
  intro u hu
  rcases List.mem_cons.1 hu with rfl | hu
  ·exact h3
  ·obtain rfl := List.mem_singleton.1 hu; exact h4
 | cal _ t ks h1 h2 h3 => exact h3
 | con _ k y h1 h2 h3 h4 => exact fun z hz => by obtain rfl := List.mem_singleton.1 hz; exact h4
 | fld _ t y h1 h2 h3 => exact fun z hz => by obtain rfl := List.mem_singleton.1 hz; exact h3
 | idx _ y z h1 h2 h3 =>
  intro u hu
  rcases List.mem_cons.1 hu with rfl | hu
  ·exact h2
  ·obtain rfl := List.mem_singleton.1 hu; exact h3
 | cut _ y z v h1 h2 h3 h4 =>
  intro u hu
  rcases List.mem_cons.1 hu with rfl | hu
  ·exact h2
  rcases List.mem_cons.1 hu with rfl | hu
  ·exact h3
  ·obtain rfl := List.mem_singleton.1 hu; exact h4
 | len _ y h1 h2 => exact fun z hz => by obtain rfl := List.mem_singleton.1 hz; exact h2
 | app _ y z h1 h2 h3 =>
  intro u hu
  rcases List.mem_cons.1 hu with rfl | hu
  ·exact h2
  ·obtain rfl := List.mem_singleton.1 hu; exact h3
 | str _ n ns ks h1 h2 h3 h4 h5 => exact h5
 | lis _ t ks h1 h2 h3 => exact h3
theorem place_same {E : Tenv} {d : Int} {x : ExT} (h : OkE d x) : placeS x = true → ∀ w z t, typS E x w = some (z, t) → z = x := by
 induction h with
 | nam d t h1 h2 =>
  intro _ w z u hz
  rw [typS_nam] at hz
  obtain ⟨p, _, e⟩ := Option.map_eq_some_iff.1 hz
  exact (Prod.mk.inj e).1.symm
 | fld d t y h1 h2 h3 ih =>
  intro hp w z u hz
  rw [typS_fld] at hz
  have hp : placeS y = true := by unfold placeS at hp; simpa using hp
  split at hz
  ·rename_i a v ha
   obtain ⟨p, _, e⟩ := Option.map_eq_some_iff.1 hz
   rw [← (Prod.mk.inj e).1, ih hp _ _ _ ha]
  ·cases hz
 | sgn d k y h1 h2 h3 ih => exact fun hp => by rw [placeS_mk] at hp; rcases h2 with rfl | rfl <;> simp at hp
 | cal d t ks h1 h2 h3 ih => exact fun hp => by rw [placeS_mk] at hp; split at hp <;> simp at hp
 | str d n ns ks h1 h2 h3 h4 h5 ih => exact fun hp => by rw [placeS_mk] at hp; split at hp <;> simp at hp
 | lis d t ks h1 h2 h3 ih => exact fun hp => by rw [placeS_mk] at hp; split at hp <;> simp at hp
 | con d k y h1 h2 h3 h4 ih => exact fun hp => by rw [placeS_mk] at hp; simp at hp
 | _ => exact fun hp => by unfold placeS at hp; simp at hp
section
variable {su : List SuT} {fu : List FuT} {res : List TyT}
theorem exG_of (hT : EnvT su fu) {d : Int} {x : ExT} (h : OkE d x) (hs : ShE x) : ∀ vs : List PaT, (∀ p ∈ vs, TW p.type) → TypG ⟨su, fu, vs⟩ res x ∧ ∀ z ∈ x.kids, TypG ⟨su, fu, vs⟩ res z :=
 fun _ hv => ⟨typeG_ab ⟨hT, hv⟩ h hs, fun z hz => typeG_ab ⟨hT, hv⟩ (h.kid z hz) (hs.kid z hz)⟩
theorem stO_TW {d : Int} {s : StT} (h : OkS d s) : TW s.type := by
 cases h with
 | var _ n t h1 h2 h3 => exact TW.of_ok h3
 | _ => exact .leaf 0 _ _ (by decide)
theorem stmtG_ab (hT : EnvT su fu) {d : Int} {s : StT} (h : OkS d s) : ShS s → StG su fu res s := by
 induction h with
 | var d n t h1 h2 h3 => exact fun _ => svar_gt (TW.of_ok h3) rfl
 | set d ls es h1 h2 h3 h4 h5 h6 =>
  intro hs
  cases hs with
  | mk _ a1 a2 a3 a4 a5 a6 a7 a8 a9 a10 a11 =>
   exact sset_gt hT rfl (fun vs hv y hy => ⟨(exG_of hT (h5 y hy) (a6 y hy) vs hv).1, place_same (h5 y hy) (h4 y hy)⟩) (fun vs hv y hy => exG_of hT (h6 y hy) (a7 y hy) vs hv) (by omega) (by omega)
 | iff d x b e h1 h2 h3 h4 h5 ih4 ih5 =>
  intro hs
  cases hs with
  | mk _ a1 a2 a3 a4 a5 a6 a7 a8 a9 a10 a11 =>
   exact sif_gt (.inl rfl) rfl (fun vs hv => (exG_of hT h2 (a7 x List.mem_cons_self) vs hv).1) (block_gt (fun y hy => ih4 y hy (a8 y hy)) (fun y hy => stO_TW (h4 y hy)) (by omega)) (block_gt (fun y hy => ih5 y hy (a9 y hy)) (fun y hy => stO_TW (h5 y hy)) (by omega))
 | fro d x b h1 h2 h3 h4 ih4 =>
  intro hs
  cases hs with
  | mk _ a1 a2 a3 a4 a5 a6 a7 a8 a9 a10 a11 =>
   exact sif_gt (.inr rfl) rfl (fun vs hv => (exG_of hT h2 (a7 x List.mem_cons_self) vs hv).1) (block_gt (fun y hy => ih4 y hy (a8 y hy)) (fun y hy => stO_TW (h4 y hy)) (by omega)) (block_gt (fun y hy => absurd hy List.not_mem_nil) (fun y hy => absurd hy List.not_mem_nil) (by omega))
 | swi d x e cs h1 h2 h3 h4 h5 h6 ih4 ih6 =>
  intro hs
  cases hs with
  | mk _ a1 a2 a3 a4 a5 a6 a7 a8 a9 a10 a11 =>
   exact ssw_gt rfl rfl (fun vs hv => (exG_of hT h2 (a7 x List.mem_cons_self) vs hv).1) (fun c hc => block_gt (fun y hy => ih6 c hc y hy (a11 c hc y hy)) (fun y hy => stO_TW (h6 c hc y hy)) (by have := a10 c hc; omega)) (block_gt (fun y hy => ih4 y hy (a9 y hy)) (fun y hy => stO_TW (h4 y hy)) (by omega)) (by omega)
 | ret d es h1 h2 h3 =>
  intro hs
  cases hs with
  | mk _ a1 a2 a3 a4 a5 a6 a7 a8 a9 a10 a11 =>
   exact sret_gt hT rfl (fun vs hv y hy => exG_of hT (h3 y hy) (a7 y hy) vs hv) (by omega)
theorem blockG_ab (hT : EnvT su fu) {d : Int} {l : List StT} (h : ∀ s ∈ l, OkS d s) (hs : ∀ s ∈ l, ShS s) (hl : l.length ≤ 60000) : BlG su fu res l :=
 block_gt (fun s hm => stmtG_ab hT (h s hm) (hs s hm)) (fun s hm => stO_TW (h s hm)) hl
end
def c28 := by
 have c := KK_of Tryz.f28 (by conv => lhs; cbv)
 dsimp only [KK, KxP, doO, opO, List.map_cons, List.map_nil, List.toList_toArray] at c
 exact c
theorem b28 : FnIs Tryz.prog 28 Tryz.f28 38 := ⟨Tryz.func28, by kernel_rfl⟩
def c77 := by
 have c := KK_of Tryz.f77 (by conv => lhs; cbv)
 dsimp only [KK, KxP, doO, opO, List.map_cons, List.map_nil, List.toList_toArray] at c
 exact c
theorem b77 : FnIs Tryz.prog 77 Tryz.f77 7 := ⟨Tryz.func77, by kernel_rfl⟩
def c114 := by
 have c := KK_of Tryz.f114 (by conv => lhs; cbv)
 dsimp only [KK, KxP, doO, opO, List.map_cons, List.map_nil, List.toList_toArray] at c
 exact c
theorem b114 : FnIs Tryz.prog 114 Tryz.f114 19 := ⟨Tryz.func114, by kernel_rfl⟩
theorem mid_take {Y A r C : List V} {k m : Nat} (hY : Y = A ++ r ++ C) (hA : A.length = k) (hr : r.length = m) : (Y.drop k).take m = r ∧ k + m ≤ Y.length := by
 subst hY hA hr
 refine ⟨?_, by simp⟩
 rw [List.append_assoc, List.drop_append, List.drop_eq_nil_of_le (Nat.le_refl _), List.nil_append, Nat.sub_self, List.drop_zero, List.take_append_of_le_length (Nat.le_refl _), List.take_of_length_le (Nat.le_refl _)]
theorem OwnB.one {B : List (List V)} {l : List StT} {lo hi : Nat} {v : V} (h : OwnB B l lo hi v) {k : Nat} {x : StT} (hk : l[k]? = some x) :
 ∃ (j cap lo1 m1 m2 m3 m4 hi1 : Nat) (Y : List V) (v1 v2 v3 v4 v5 : V), v = .bx j l.length cap ∧ B[j]? = some Y ∧ (Y.drop (k * 10)).take 10 = stRow x v1 v2 v3 v4 v5 ∧ k * 10 + 10 ≤ Y.length ∧ hi1 ≤ hi ∧ Parts B x lo1 m1 m2 m3 m4 hi1 v1 v2 v3 v4 v5 := by
 have hlt := (List.getElem?_eq_some_iff.1 hk).1
 rcases h with ⟨h0, _⟩ | ⟨hn, j1, cap, Y, h1, h2, h3, h4, h5⟩
 ·omega
 rw [OwnSs_rows] at h5
 obtain ⟨A1, r, C1, lo1, hi1, e1, e2, e3, e4, e5, e6, e7, e8⟩ := h5.at k x hk
 obtain ⟨v1, v2, v3, v4, v5, m1, m2, m3, m4, rfl, hp⟩ := OwnS_iff.1 e7
 obtain ⟨f1, f2⟩ := mid_take (m := 10) e1 e2 rfl
 exact ⟨j1, cap, lo1, m1, m2, m3, m4, hi1, Y, v1, v2, v3, v4, v5, h1, h4, f1, f2, e6, hp⟩
theorem OwnCV.one {B : List (List V)} {l : List CaT} {lo hi : Nat} {v : V} (h : OwnCV B l lo hi v) {k : Nat} {x : CaT} (hk : l[k]? = some x) :
 ∃ (j cap lo1 hi1 : Nat) (Y : List V) (bv : V), v = .bx j l.length cap ∧ B[j]? = some Y ∧ (Y.drop (k * 2)).take 2 = [.d (.int .u64 x.int), bv] ∧ k * 2 + 2 ≤ Y.length ∧ hi1 ≤ hi ∧ OwnB B x.body lo1 hi1 bv := by
 have hlt := (List.getElem?_eq_some_iff.1 hk).1
 rcases h with ⟨h0, _⟩ | ⟨hn, j1, cap, Y, h1, h2, h3, h4, h5⟩
 ·omega
 rw [OwnCs_rows] at h5
 obtain ⟨A1, r, C1, lo1, hi1, e1, e2, e3, e4, e5, e6, e7, e8⟩ := h5.at k x hk
 obtain ⟨bv, rfl, hp⟩ := OwnC_iff.1 e7
 obtain ⟨f1, f2⟩ := mid_take (m := 2) e1 e2 rfl
 exact ⟨j1, cap, lo1, hi1, Y, bv, h1, h4, f1, f2, e6, hp⟩
def caRow (i : Int) (bv : V) : V := .agg [.d (.int .u64 i), bv]
set_option maxHeartbeats 2000000 in
theorem indexFunc_CaseB (g : FuncId) (f : CaT → Bool) (l : List CaT) (hl : l.length ≤ 60000) {B : List (List V)} (T : List (Nat × Nat)) {lo hi : Nat} {v : V} (h : OwnCV B l lo hi v) (hh : hi ≤ B.length) (hg : ∀ x ∈ l, ∀ lo1 hi1 bv, hi1 ≤ B.length → OwnB B x.body lo1 hi1 bv → AFn Tryz.prog TabI g [caRow x.int bv] ⟨B, T⟩ (Same (.d (.bool (f x))) ⟨B, T⟩)) :
 AFn Tryz.prog TabI 114 [v, .func g [] []] ⟨B, T⟩ (Same (.d (.int .i64 (walkF (fun x (s : Unit) => (f x, s)) l 0 ()).1)) ⟨B, T⟩) := by
 have hol := h.len Tryz.prog tyCas rfl
 rw [opLen.eq_1, tyCas] at hol
 refine b114.go 100 rfl fun hsm => ?_
 simp only [smw] at hsm
 simp only [W, seval, c114, hol]
 refine ARun.loopW (fun p : Nat => (envS 19 [(0, v), (1, .func g [] []), (6, v), (7, .d (.int .i64 l.length)), (8, .d (.int .i64 p))], ⟨B, T⟩)) (fun p => p ≤ l.length ∧ walkF (fun x (s : Unit) => (f x, s)) l 0 () = walkF (fun x (s : Unit) => (f x, s)) (l.drop p) p ()) (fun p => l.length - p) 0 ⟨by omega, rfl⟩ ?_ rfl ?_
 ·skip
  refine Agree.env _ ?_
  simp only [agw, seval]
 rintro i ⟨h1, h2⟩ ih
 dsimp only at h1 h2 ih ⊢
 by_cases hlt : i < l.length
 ·have hw := wrap_in ((i : Int) + 1) (by omega)
  have hge := List.getElem?_eq_getElem hlt
  rw [drop_get hlt] at h2
  obtain ⟨j, cap, lo1, hi1, Y, bv, rfl, k2, k3, k4, k5, k6⟩ := h.one hge
  have hlt' : decide ((i : Int) < (l.length : Int)) = true := decide_eq_true (by omega)
  have hltI : (i : Int) < (l.length : Int) := by omega
  have hgx := hg l[i] (List.getElem_mem hlt) lo1 hi1 bv (by omega) k6
  unfold caRow at hgx
  refine ARun.go 100 ?_
  simp only [W, seval, c114, bxw, hge, hlt', hw, hltI, k2, k3, k4]
  refine callS_of (first := []) (args := [_]) (caps := []) hgx ?_
  rintro _ _ ⟨rfl, rfl⟩
  refine ARun.go 100 ?_
  simp only [W, seval, c114, hw]
  refine condS_of (fun h => ?_) (fun h => ?_)
  ·simp only [W, seval, c114, h]
   refine ARun.ret Tryz.func114 rfl (Left.none ?_)
   have e : walkF (fun x (s : Unit) => (f x, s)) (l[i] :: l.drop (i + 1)) (i : Int) () = ((i : Int), ()) := by simp [walkF, h]
   rw [h2, e]
   exact ⟨rfl, rfl⟩
  ·simp only [W, seval, c114, h, hw]
   have e : walkF (fun x (s : Unit) => (f x, s)) (l[i] :: l.drop (i + 1)) (i : Int) () = walkF (fun x (s : Unit) => (f x, s)) (l.drop (i + 1)) ((i + 1 : Nat) : Int) () := by simp [walkF, h]
   refine ih (i + 1) ⟨hlt, h2.trans e⟩ (by omega) _ _ ?_ rfl
   refine Agree.env _ ?_
   simp only [agw, seval]
 ·have hlt' : decide ((i : Int) < (l.length : Int)) = false := decide_eq_false (by omega)
  refine ARun.go 100 ?_
  simp only [W, seval, c114, hlt']
  refine ARun.ret Tryz.func114 rfl (Left.none ?_)
  rw [h2, List.drop_eq_nil_of_le (by omega)]
  exact ⟨rfl, rfl⟩
theorem containsFunc_CaseB (g : FuncId) (f : CaT → Bool) (l : List CaT) (hl : l.length ≤ 60000) {B : List (List V)} (T : List (Nat × Nat)) {lo hi : Nat} {v : V} (h : OwnCV B l lo hi v) (hh : hi ≤ B.length) (hg : ∀ x ∈ l, ∀ lo1 hi1 bv, hi1 ≤ B.length → OwnB B x.body lo1 hi1 bv → AFn Tryz.prog TabI g [caRow x.int bv] ⟨B, T⟩ (Same (.d (.bool (f x))) ⟨B, T⟩)) :
 AFn Tryz.prog TabI 76 [v, .func g [] []] ⟨B, T⟩ (Same (.d (.bool (l.any f))) ⟨B, T⟩) := by
 obtain ⟨e1, e2⟩ := walkF_any (fun x (s : Unit) => (f x, s)) l 0 () (Int.le_refl 0)
 refine AFn.body Tryz.func76 rfl (by kernel_rfl) ?_
 refine ARun.go 100 ?_
 simp only [Tryz.f76, WO, seval]
 refine callS_fn (indexFunc_CaseB g f l hl T h hh hg) ?_
 rintro _ _ ⟨rfl, rfl⟩
 refine ARun.go 100 ?_
 simp only [WO, seval, e1]
 refine ARun.fits fun hf => ?_
 refine ARun.ret Tryz.func76 rfl (Left.fits hf rfl rfl ?_)
 have e3 : ∀ l : List CaT, (anyF (fun x (s : Unit) => (f x, s)) l ()).1 = l.any f := by
  intro l
  induction l with
  | nil => rfl
  | cons x l ih => simp only [anyF, List.any_cons]; cases f x <;> simp [ih]
 rw [e3]
 exact ⟨rfl, rfl⟩
def EnG (l : List StT) : Prop := ∀ (B : List (List V)) (T : List (Nat × Nat)) (lo hi : Nat) (v : V), OwnB B l lo hi v → hi ≤ B.length → AFn Tryz.prog TabI 28 [v] ⟨B, T⟩ (Same (.d (.bool (endsL l))) ⟨B, T⟩)
theorem any_ends (l : List CaT) : (!(l.any fun c => !(endsL c.body))) = endsC l := by
 induction l with
 | nil => unfold endsC; rfl
 | cons c l ih =>
  cases c
  conv => rhs; unfold endsC
  rw [← ih, List.any_cons]
  show (!(!endsL _ || _)) = _
  rw [Bool.not_or, Bool.not_not]
  rfl
theorem ends1_gt {b : List StT} (h : EnG b) (i : Int) {B : List (List V)} (T : List (Nat × Nat)) {lo hi : Nat} {v : V} (ho : OwnB B b lo hi v) (hh : hi ≤ B.length) : AFn Tryz.prog TabI 77 [caRow i v] ⟨B, T⟩ (Same (.d (.bool (!endsL b))) ⟨B, T⟩) := by
 obtain ⟨N, hn⟩ : ∃ N, B.length = N := ⟨_, rfl⟩
 unfold caRow
 refine b77.go 60 rfl fun hsm => ?_
 simp only [smw] at hsm
 simp only [W, seval, c77, hn]
 refine callS_fn (h _ _ lo hi v (ho.frame fun i _ hi => bx_old (by omega)) (by simp; omega)) ?_
 rintro _ _ ⟨rfl, rfl⟩
 refine ARun.go 60 ?_
 simp only [W, seval, c77]
 refine ARun.ret Tryz.func77 rfl (Left.box ?_)
 exact ⟨rfl, rfl⟩
set_option maxHeartbeats 4000000 in
theorem ends_gt (l : List StT) (h : ∀ s ∈ l, (EnG s.body ∧ EnG s.els ∧ ∀ c ∈ s.cases, EnG c.body) ∧ s.cases.length ≤ 60000 ∧ (s.kind = 3 → s.cases = [])) (hlen : l.length ≤ 60000) : EnG l := by
 intro B T lo hi v ho hhi
 obtain ⟨N, hn⟩ : ∃ N, B.length = N := ⟨_, rfl⟩
 have hol := ho.len Tryz.prog tySts rfl
 rw [opLen.eq_1, tySts] at hol
 by_cases hl : l.length = 0
 ·obtain rfl := List.eq_nil_of_length_eq_zero hl
  have hE : endsL [] = false := by unfold endsL; rfl
  rw [hE]
  refine b28.go 60 rfl fun hsm => ?_
  simp only [smw] at hsm
  simp only [W, seval, c28, hn, hol]
  refine ARun.ret Tryz.func28 rfl (Left.none ?_)
  exact ⟨rfl, rfl⟩
 have e0 : decide ((l.length : Int) = 0) = false := decide_eq_false (by omega)
 have hlt : l.length - 1 < l.length := by omega
 obtain ⟨⟨hb, he, hc⟩, hcl, h3c⟩ := h _ (List.getElem_mem hlt)
 rw [endsL_last l (by omega)]
 obtain ⟨j, cap, lo1, m1, m2, m3, m4, hi1, Y, v1, v2, v3, v4, v5, rfl, k2, k3, k4, k5, k6⟩ := ho.one (List.getElem?_eq_getElem hlt)
 obtain ⟨s, hs⟩ : ∃ s, l[l.length - 1] = s := ⟨_, rfl⟩
 rw [hs] at hb he hc hcl h3c k3 k6 ⊢
 have hS : endsT s = (decide (s.kind = 6) || (endsL s.els && (decide (s.kind = 5) || decide (s.kind = 3) && endsL s.body) && endsC s.cases)) := by
  cases s
  conv => lhs; unfold endsT
  rfl
 obtain ⟨m, hm⟩ : ∃ m : Nat, l.length = m + 1 := ⟨l.length - 1, by omega⟩
 have hm1 : l.length - 1 = m := by omega
 have hlI : (m : Int) < (l.length : Int) := by omega
 have hlN : m < l.length := by omega
 rw [hm1] at k3 k4
 have hwm : IntKind.i64.wrap ((l.length : Int) - 1) = (m : Int) := by
  rw [wrap_in _ (by omega)]
  omega
 clear hm1 hs
 unfold stRow at k3
 obtain ⟨p1, p2, p3, p4, p5⟩ := k6
 have hle := (show Parts B s lo1 m1 m2 m3 m4 hi1 v1 v2 v3 v4 v5 from ⟨p1, p2, p3, p4, p5⟩).le
 obtain ⟨X, hX⟩ : ∃ X : List (List V), X = [[.d (.int .i64 s.kind), .d (.sl (ssD s.names)), .d (.int .i64 s.type.kind), .d (.str s.type.name), .d (.sl (s.type.elem.map tyD)), v1, v2, v3, v4, v5]] := ⟨_, rfl⟩
 have hex : ∀ (b : List StT) (a z : Nat) (u : V), EnG b → OwnB B b a z u → z ≤ hi1 → AFn Tryz.prog TabI 28 [u] ⟨B ++ X, T⟩ (Same (.d (.bool (endsL b))) ⟨B ++ X, T⟩) := fun b a z u hb ho hz => hb _ _ a z u (ho.frame fun i _ hi => bx_old (by omega)) (by rw [List.length_append]; omega)
 have hex3 := hex _ _ _ _ hb p3 (by omega)
 have hex4 := hex _ _ _ _ he p4 (by omega)
 have hexc := containsFunc_CaseB 77 (fun c => !endsL c.body) s.cases hcl (B := B ++ X) T (p5.frame fun i _ hi => bx_old (by omega)) (by rw [List.length_append]; omega) fun c hm a z u hz ho => ends1_gt (hc c hm) c.int T ho hz
 clear hex hb he hc
 subst hX
 cases h6 : decide (s.kind = 6)
 case true =>
  rw [h6, Bool.true_or] at hS
  refine b28.go 60 rfl fun hsm => ?_
  simp only [smw] at hsm
  simp only [W, seval, c28, bxw, hn, e0, hol, hwm, hlI, hlN, k2, k3, k4, h6]
  refine ARun.ret Tryz.func28 rfl (Left.box ?_)
  rw [hS]
  exact ⟨rfl, rfl⟩
 rw [h6, Bool.false_or] at hS
 by_cases q3 : s.kind = 3
 ·have h3 : decide (s.kind = 3) = true := decide_eq_true q3
  have hcs : endsC s.cases = true := by rw [h3c q3]; unfold endsC; rfl
  have h5 : decide (s.kind = 5) = false := decide_eq_false (by omega)
  rw [h3, h5, hcs, Bool.false_or, Bool.true_and, Bool.and_true] at hS
  rw [hS]
  refine b28.go 60 rfl fun hsm => ?_
  simp only [smw] at hsm
  simp only [W, seval, c28, bxw, hn, e0, hol, hwm, hlI, hlN, k2, k3, k4, h6, h3]
  refine callS_fn hex3 ?_
  rintro _ _ ⟨rfl, rfl⟩
  cases hB : endsL s.body
  ·refine ARun.go 60 ?_
   simp only [W, seval, c28, hn]
   refine ARun.ret Tryz.func28 rfl (Left.box ?_)
   rw [Bool.and_false]
   exact ⟨rfl, rfl⟩
  ·refine ARun.go 60 ?_
   simp only [W, seval, c28, bxw, hn]
   refine callS_fn hex4 ?_
   rintro _ _ ⟨rfl, rfl⟩
   refine ARun.go 60 ?_
   simp only [W, seval, c28, hn]
   refine ARun.ret Tryz.func28 rfl (Left.box ?_)
   exact ⟨rfl, rfl⟩
 have h3 : decide (s.kind = 3) = false := decide_eq_false q3
 rw [h3, Bool.false_and, Bool.or_false] at hS
 cases h5 : decide (s.kind = 5)
 ·rw [h5, Bool.and_false, Bool.false_and] at hS
  rw [hS]
  refine b28.go 60 rfl fun hsm => ?_
  simp only [smw] at hsm
  simp only [W, seval, c28, bxw, hn, e0, hol, hwm, hlI, hlN, k2, k3, k4, h6, h3, h5]
  refine ARun.ret Tryz.func28 rfl (Left.box ?_)
  exact ⟨rfl, rfl⟩
 rw [h5, Bool.and_true, ← any_ends] at hS
 rw [hS]
 refine b28.go 60 rfl fun hsm => ?_
 simp only [smw] at hsm
 simp only [W, seval, c28, bxw, hn, e0, hol, hwm, hlI, hlN, k2, k3, k4, h6, h3, h5]
 refine callS_fn hex4 ?_
 rintro _ _ ⟨rfl, rfl⟩
 cases hB : endsL s.els
 ·refine ARun.go 60 ?_
  simp only [W, seval, c28, hn]
  refine ARun.ret Tryz.func28 rfl (Left.box ?_)
  rw [Bool.false_and]
  exact ⟨rfl, rfl⟩
 ·refine ARun.go 60 ?_
  simp only [W, seval, c28, bxw, hn]
  refine callS_fn hexc ?_
  rintro _ _ ⟨rfl, rfl⟩
  refine ARun.go 60 ?_
  simp only [W, seval, c28, hn]
  refine ARun.ret Tryz.func28 rfl (Left.box ?_)
  exact ⟨rfl, rfl⟩
inductive ShB : StT → Prop
 | mk (s : StT) : (s.kind = 3 → s.cases = []) → s.cases.length ≤ 60000 → s.body.length ≤ 60000 → s.els.length ≤ 60000 → (∀ c ∈ s.cases, c.body.length ≤ 60000) → (∀ y ∈ s.body, ShB y) → (∀ y ∈ s.els, ShB y) → (∀ c ∈ s.cases, ∀ y ∈ c.body, ShB y) → ShB s
theorem endsG_ab {s : StT} (h : ShB s) : EnG s.body ∧ EnG s.els ∧ ∀ c ∈ s.cases, EnG c.body := by
 induction h with
 | mk s h1 h2 h3 h4 h5 h6 h7 h8 i6 i7 i8 =>
  have key : ∀ l : List StT, (∀ y ∈ l, ShB y) → (∀ y ∈ l, EnG y.body ∧ EnG y.els ∧ ∀ c ∈ y.cases, EnG c.body) → l.length ≤ 60000 → EnG l := fun l a b c =>
   ends_gt l (fun y hy => ⟨b y hy, by cases a y hy; assumption, by cases a y hy; assumption⟩) c
  exact ⟨key _ h6 i6 h3, key _ h7 i7 h4, fun c hc => key _ (h8 c hc) (i8 c hc) (h5 c hc)⟩
theorem ends_all (l : List StT) (h : ∀ y ∈ l, ShB y) (hl : l.length ≤ 60000) : EnG l :=
 ends_gt l (fun y hy => ⟨endsG_ab (h y hy), by cases h y hy; assumption, by cases h y hy; assumption⟩) hl
theorem brSs_map : ∀ l : List StT, brSs l = l.map brS
 | [] => by unfold brSs; rfl
 | x :: l => by unfold brSs; rw [brSs_map l]; rfl
theorem brCs_map : ∀ l : List CaT, brCs l = l.map brC
 | [] => by unfold brCs; rfl
 | x :: l => by unfold brCs; rw [brCs_map l]; rfl
theorem map_mem {α β : Type} {f : α → β} {l m : List α} (h : l.map f = m.map f) {x : α} (hx : x ∈ l) : ∃ y ∈ m, f y = f x := by
 have : f x ∈ m.map f := by rw [← h]; exact List.mem_map_of_mem hx
 obtain ⟨y, hy, e⟩ := List.mem_map.1 this
 exact ⟨y, hy, e⟩
theorem ShB.same {s : StT} (h : ShB s) : ∀ s', brS s' = brS s → ShB s' := by
 induction h with
 | mk s h1 h2 h3 h4 h5 h6 h7 h8 i6 i7 i8 =>
  rintro ⟨k', ns', ty', ls', es', b', e', cs'⟩ he
  obtain ⟨k, ns, ty, ls, es, b, e, cs⟩ := s
  unfold brS at he
  obtain ⟨rfl, _, _, _, _, eb, ee, ec⟩ := StT.mk.inj he
  have lb := congrArg List.length eb
  have le := congrArg List.length ee
  have lc := congrArg List.length ec
  rw [brSs_len, brSs_len] at lb le
  rw [brCs_len, brCs_len] at lc
  rw [brSs_map, brSs_map] at eb ee
  rw [brCs_map, brCs_map] at ec
  dsimp only [StT.body, StT.els, StT.cases, StT.kind] at *
  have sub : ∀ c' ∈ cs', ∃ c ∈ cs, brSs c'.body = brSs c.body := fun c' hc => by
   obtain ⟨c, h1, h2⟩ := map_mem ec hc
   refine ⟨c, h1, ?_⟩
   cases c; cases c'
   unfold brC at h2
   exact (CaT.mk.inj h2).2.symm
  refine .mk _ (fun hk => ?_) (by dsimp only [StT.cases]; omega) (by dsimp only [StT.body]; omega) (by dsimp only [StT.els]; omega) (fun c' hc => ?_) (fun y hy => ?_) (fun y hy => ?_) fun c' hc y hy => ?_
  ·have := h1 hk; subst this; exact List.eq_nil_of_length_eq_zero (show cs'.length = 0 from lc)
  ·obtain ⟨c, h1, h2⟩ := sub c' hc
   have := congrArg List.length h2
   rw [brSs_len, brSs_len] at this
   rw [this]
   exact h5 c h1
  ·obtain ⟨x, hx, e⟩ := map_mem eb hy
   exact i6 x hx y e.symm
  ·obtain ⟨x, hx, e⟩ := map_mem ee hy
   exact i7 x hx y e.symm
  ·obtain ⟨c, h1, h2⟩ := sub c' hc
   rw [brSs_map, brSs_map] at h2
   obtain ⟨x, hx, e⟩ := map_mem h2 hy
   exact i8 c h1 x hx y e.symm
theorem ShB.all {l l' : List StT} (h : ∀ y ∈ l, ShB y) (he : brSs l' = brSs l) : ∀ y ∈ l', ShB y := fun y hy => by
 rw [brSs_map, brSs_map] at he
 obtain ⟨x, hx, e⟩ := map_mem he hy
 exact (h x hx).same y e.symm
theorem OkS.shb {d : Int} {s : StT} (h : OkS d s) : ShS s → ShB s := by
 induction h with
 | var d n t h1 h2 h3 =>
  intro _
  exact .mk _ (fun _ => rfl) (Nat.zero_le _) (Nat.zero_le _) (Nat.zero_le _) (by simp [StT.cases]) (by simp [StT.body]) (by simp [StT.els]) (by simp [StT.cases])
 | set d ls es h1 h2 h3 h4 h5 h6 =>
  intro _
  exact .mk _ (fun _ => rfl) (Nat.zero_le _) (Nat.zero_le _) (Nat.zero_le _) (by simp [StT.cases]) (by simp [StT.body]) (by simp [StT.els]) (by simp [StT.cases])
 | iff d x b e h1 h2 h3 h4 h5 ih4 ih5 =>
  intro hs
  cases hs with
  | mk _ a1 a2 a3 a4 a5 a6 a7 a8 a9 a10 a11 =>
   exact .mk _ (fun _ => rfl) (Nat.zero_le _) (by omega) (by omega) (by simp [StT.cases]) (fun y hy => ih4 y hy (a8 y hy)) (fun y hy => ih5 y hy (a9 y hy)) (by simp [StT.cases])
 | fro d x b h1 h2 h3 h4 ih4 =>
  intro hs
  cases hs with
  | mk _ a1 a2 a3 a4 a5 a6 a7 a8 a9 a10 a11 =>
   exact .mk _ (fun _ => rfl) (Nat.zero_le _) (by omega) (Nat.zero_le _) (by simp [StT.cases]) (fun y hy => ih4 y hy (a8 y hy)) (by simp [StT.els]) (by simp [StT.cases])
 | swi d x e cs h1 h2 h3 h4 h5 h6 ih4 ih6 =>
  intro hs
  cases hs with
  | mk _ a1 a2 a3 a4 a5 a6 a7 a8 a9 a10 a11 =>
   exact .mk _ (fun h => absurd (show (5 : Int) = 3 from h) (by decide)) (by omega) (Nat.zero_le _) (by omega) (fun c hc => by have := a10 c hc; omega) (by simp [StT.body]) (fun y hy => ih4 y hy (a9 y hy)) (fun c hc y hy => ih6 c hc y hy (a11 c hc y hy))
 | ret d es h1 h2 h3 =>
  intro _
  exact .mk _ (fun _ => rfl) (Nat.zero_le _) (Nat.zero_le _) (Nat.zero_le _) (by simp [StT.cases]) (by simp [StT.body]) (by simp [StT.els]) (by simp [StT.cases])
def vbox (vv : V) (k : Nat) : Prop := ∃ n cap, vv = .bx k n cap
def Gro (c : Nat) (vv : V) (n : Nat) (B B' : List (List V)) : Prop :=
 B.length ≤ B'.length ∧ ∀ k, k < B.length → k ≠ c → B'[k]? = B[k]? ∨ (vbox vv k ∧ ∃ X Y, B[k]? = some X ∧ B'[k]? = some Y ∧ Y.length = X.length ∧ Y.take (n * 4) = X.take (n * 4))
theorem Gro.refl (c : Nat) (vv : V) (n : Nat) (B : List (List V)) : Gro c vv n B B := ⟨Nat.le_refl _, fun _ _ _ => .inl rfl⟩
theorem Gro.more (c : Nat) (vv : V) (n : Nat) (B J : List (List V)) : Gro c vv n B (B ++ J) := ⟨by simp, fun k hk _ => .inl (bx_old hk)⟩
theorem Gro.same {c : Nat} {vv : V} {n : Nat} {B B' : List (List V)} (h : Gro c vv n B B') {k : Nat} (hk : k < B.length) (hc : k ≠ c) (hv : ¬ vbox vv k) : B'[k]? = B[k]? := by
 rcases h.2 k hk hc with e | ⟨e, _⟩
 ·exact e
 ·exact absurd e hv
theorem Gro.trans {c : Nat} {vv vv1 : V} {n n1 : Nat} {B B1 B2 : List (List V)} (h : Gro c vv n B B1) (h1 : Gro c vv1 n1 B1 B2) (hn : n ≤ n1) (hv : ∀ k, k < B.length → vbox vv1 k → vbox vv k) : Gro c vv n B B2 := by
 refine ⟨Nat.le_trans h.1 h1.1, fun k hk hc => ?_⟩
 have hk1 : k < B1.length := Nat.lt_of_lt_of_le hk h.1
 rcases h1.2 k hk1 hc with e1 | ⟨v1, X1, Y1, g1, g2, g3, g4⟩
 ·rcases h.2 k hk hc with e | ⟨v, X, Y, f1, f2, f3, f4⟩
  ·exact .inl (e1.trans e)
  ·exact .inr ⟨v, X, Y, f1, by rw [e1]; exact f2, f3, f4⟩
 ·have hvk := hv k hk v1
  have hle : n * 4 ≤ n1 * 4 := Nat.mul_le_mul_right 4 hn
  have g5 : Y1.take (n * 4) = X1.take (n * 4) := by
   have := congrArg (List.take (n * 4)) g4
   rwa [List.take_take, List.take_take, Nat.min_eq_left hle] at this
  rcases h.2 k hk hc with e | ⟨v, X, Y, f1, f2, f3, f4⟩
  ·exact .inr ⟨hvk, X1, Y1, by rw [← e]; exact g1, g2, g3, g5⟩
  ·rw [f2] at g1
   obtain rfl := Option.some.inj g1
   exact .inr ⟨hvk, X, Y1, f1, g2, g3.trans f3, g5.trans f4⟩
theorem Gro.less {c : Nat} {vv : V} {n : Nat} {B J B' : List (List V)} (h : Gro c vv n (B ++ J) B') : Gro c vv n B B' :=
 (Gro.more c vv n B J).trans h (Nat.le_refl _) fun _ _ h => h
theorem VarsIs.keep {c : Nat} {vv : V} {vs : List PaT} {B B' : List (List V)} (h : VarsIs B c vv vs) (hg : Gro c vv vs.length B B') : VarsIs B' c vv vs := by
 rcases h with h | ⟨i, cap, J, rfl, h2, h3, h4, h5, h6⟩
 ·exact .inl h
 ·have hlt := (List.getElem?_eq_some_iff.1 h3).1
  have hfl := flatPa_len vs
  rcases hg.2 i hlt h2 with e | ⟨_, X, Y, f1, f2, f3, f4⟩
  ·exact .inr ⟨i, cap, J, rfl, h2, by rw [e]; exact h3, h4, h5, h6⟩
  ·rw [h3] at f1
   obtain rfl := Option.some.inj f1
   refine .inr ⟨i, cap, Y.drop (vs.length * 4), rfl, h2, ?_, ?_, h5, h6⟩
   ·have hfm : ((vs.map paD).flatten.map V.d).length = vs.length * 4 := by rw [List.length_map, hfl]
    generalize (vs.map paD).flatten.map V.d = G at f3 f4 hfm
    have e : (G ++ J).take (vs.length * 4) = G := by rw [List.take_append_of_le_length (by omega), List.take_of_length_le (by omega)]
    rw [e] at f4
    rw [f2]
    conv => lhs; rw [← List.take_append_drop (vs.length * 4) Y, f4]
   ·have hl : ((vs.map paD).flatten.map V.d ++ J).length = vs.length * 4 + J.length := by rw [List.length_append, List.length_map, hfl]
    rw [List.length_drop, f3, hl, h4]; omega
theorem VarsIs.lt {c : Nat} {vv : V} {vs : List PaT} {B : List (List V)} (h : VarsIs B c vv vs) {k : Nat} (hk : vbox vv k) : k < B.length ∧ k ≠ c := by
 obtain ⟨n, cap, rfl⟩ := hk
 rcases h with ⟨_, h⟩ | ⟨i, cap', J, e, h2, h3, _⟩
 ·cases h
 ·obtain ⟨rfl, _, _⟩ := V.bx.inj e
  exact ⟨(List.getElem?_eq_some_iff.1 h3).1, h2⟩
structure VAt (B : List (List V)) (c : Nat) (su : List SuT) (fu : List FuT) (vv : V) (res : List TyT) (vs : List PaT) (m : Nat) : Prop where
 lt : c < B.length
 bx : B[c]? = some (eBox su fu vv res)
 var : VarsIs B c vv vs
 few : vs.length + m ≤ 100000000
 tw : ∀ p ∈ vs, TW p.type
theorem VAt.at {B : List (List V)} {c : Nat} {su : List SuT} {fu : List FuT} {vv : V} {res : List TyT} {vs : List PaT} {m : Nat} (h : VAt B c su fu vv res vs m) : EAt B c ⟨su, fu, vs⟩ res := ⟨h.lt, vv, h.bx, h.var⟩
theorem VAt.more {B J : List (List V)} {c : Nat} {su : List SuT} {fu : List FuT} {vv : V} {res : List TyT} {vs : List PaT} {m : Nat} (h : VAt B c su fu vv res vs m) : VAt (B ++ J) c su fu vv res vs m := ⟨by rw [List.length_append]; exact Nat.lt_of_lt_of_le h.lt (Nat.le_add_right _ _), by rw [bx_old h.lt]; exact h.bx, h.var.more, h.few, h.tw⟩
theorem AFn.bodyM {P : Program} {I : Inv} {fn : FuncId} {f : Func} {body : Code} {args : List V} {S : Mem} {R : V → Mem → Prop} (n : Nat) (hf : P.funcs[fn]? = some f) (hb : f.body = some body) (hname : (f.name == "runtime.NumGoroutine") = false) (hn : f.ntmps = n) (hl : args.length ≤ n)
 (h : ARun P I (S.boxes.length, S.toks.length) fn [.code body] (envS n (numbered 0 args)) S R) : AFn P I fn args S R :=
 AFn.enter hf hb hname (by rw [hn, envS_args n args hl]; exact h)
theorem VarsIs.can {B : List (List V)} {c : Nat} {vv : V} {vs : List PaT} (h : VarsIs B c vv vs) (hn : vs.length ≤ 1000000000) : CanM 4 B vv := by
 rcases h with ⟨rfl, rfl⟩ | ⟨i, cap, J, rfl, h2, h3, h4, h5, h6⟩
 ·trivial
 ·refine ⟨_, h3, ?_, hn⟩
  rw [List.length_append, List.length_map, flatPa_len, h4, ← Nat.add_mul]
  congr 1
  omega
theorem flatPa_snoc (vs : List PaT) (p : PaT) : ((vs ++ [p]).map paD).flatten.map V.d = (vs.map paD).flatten.map V.d ++ (paD p).map V.d := by simp
theorem AppM.vars {B : List (List V)} {T : List (Nat × Nat)} {c : Nat} {vv v : V} {vs : List PaT} {p : PaT} {S' : Mem} (h : VarsIs B c vv vs) (hc : c < B.length) (hn : vs.length ≤ 1000000000) (hA : AppM 4 B T vv (paD p) v S') :
 ∃ BB, S' = ⟨BB, T⟩ ∧ Gro c vv vs.length B BB ∧ BB[c]? = B[c]? ∧ VarsIs BB c v (vs ++ [p]) ∧ (∀ k, k < B.length → vbox v k → vbox vv k) ∧ cellsV v = some [v] := by
 have hlp : (paD p).length = 4 := rfl
 have hfl := flatPa_len vs
 rcases h with ⟨rfl, rfl⟩ | ⟨i, cap, J, rfl, h2, h3, h4, h5, h6⟩
 ·obtain ⟨cap', k1, k2, rfl, rfl⟩ := hA
  refine ⟨_, rfl, .more _ _ _ _ _, bx_old hc, .inr ⟨B.length, cap', List.replicate ((cap' - 1) * 4) .undef, rfl, by omega, ?_, by simp, by simpa using k1, by simp⟩, ?_, rfl⟩
  ·rw [List.getElem?_append_right (Nat.le_refl _), Nat.sub_self]
   simp
  ·rintro k hk ⟨n, cap, e⟩
   obtain ⟨e, _, _⟩ := V.bx.inj e
   omega
 ·obtain ⟨X, hX, hA⟩ := hA
  rw [h3] at hX
  obtain rfl := Option.some.inj hX
  have hlt := (List.getElem?_eq_some_iff.1 h3).1
  have hfm : ((vs.map paD).flatten.map V.d).length = vs.length * 4 := by rw [List.length_map, hfl]
  have hsn := flatPa_snoc vs p
  generalize hG : (vs.map paD).flatten.map V.d = G at h3 hfm hsn hA
  have htk : (G ++ J).take (vs.length * 4) = G := by rw [List.take_append_of_le_length (by omega), List.take_of_length_le (by omega)]
  have hdr : (G ++ J).drop (vs.length * 4 + 4) = J.drop 4 := by
   rw [List.drop_append, List.drop_of_length_le (by omega), List.nil_append]
   congr 1
   omega
  rw [htk] at hA
  rcases hA with ⟨hroom, rfl, rfl⟩ | ⟨cap', k1, k2, rfl, rfl⟩
  ·rw [hdr]
   have hJ4 : 4 ≤ J.length := by rw [h4]; omega
   refine ⟨_, rfl, ⟨by simp, fun k hk hkc => ?_⟩, by rw [List.getElem?_set_ne h2], .inr ⟨i, cap, J.drop 4, by rw [List.length_append]; rfl, h2, ?_, ?_, by rw [List.length_append]; exact hroom, by rw [List.length_append, List.length_singleton]; omega⟩, ?_, rfl⟩
   ·by_cases e : k = i
    ·subst e
     refine .inr ⟨⟨_, _, rfl⟩, _, _, h3, List.getElem?_set_self hk, ?_, ?_⟩
     ·simp only [List.length_append, List.length_map, hlp, List.length_drop]; omega
     ·rw [htk, List.append_assoc, List.take_append_of_le_length (by omega), List.take_of_length_le (by omega)]
    ·exact .inl (List.getElem?_set_ne fun h => e h.symm)
   ·rw [List.getElem?_set_self hlt, hsn]
   ·rw [List.length_drop, h4, List.length_append, List.length_singleton]
    omega
   ·rintro k hk ⟨n, cap2, e⟩
    obtain ⟨rfl, _, _⟩ := V.bx.inj e
    exact ⟨_, _, rfl⟩
  ·refine ⟨_, rfl, .more _ _ _ _ _, bx_old hc, .inr ⟨B.length, cap', List.replicate ((cap' - (vs.length + 1)) * 4) .undef, by rw [List.length_append]; rfl, by omega, ?_, ?_, by rw [List.length_append]; exact k1, by rw [List.length_append, List.length_singleton]; omega⟩, ?_, rfl⟩
   ·rw [List.getElem?_append_right (Nat.le_refl _), Nat.sub_self, hsn]
    rfl
   ·rw [List.length_replicate, List.length_append, List.length_singleton]
   ·rintro k hk ⟨n, cap2, e⟩
    obtain ⟨e, _, _⟩ := V.bx.inj e
    omega
theorem VAt.keep {B B' : List (List V)} {c : Nat} {su : List SuT} {fu : List FuT} {vv : V} {res : List TyT} {vs : List PaT} {m : Nat} (h : VAt B c su fu vv res vs m) (hg : Gro c vv vs.length B B') (hb : B'[c]? = some (eBox su fu vv res)) : VAt B' c su fu vv res vs m :=
 ⟨Nat.lt_of_lt_of_le h.lt hg.1, hb, h.var.keep hg, h.few, h.tw⟩
theorem VAt.less {B : List (List V)} {c : Nat} {su : List SuT} {fu : List FuT} {vv : V} {res : List TyT} {vs : List PaT} {m m' : Nat} (h : VAt B c su fu vv res vs m) (hm : m' ≤ m) : VAt B c su fu vv res vs m' := ⟨h.lt, h.bx, h.var, by have := h.few; omega, h.tw⟩
theorem VAt.nb {B : List (List V)} {c : Nat} {su : List SuT} {fu : List FuT} {vv : V} {res : List TyT} {vs : List PaT} {m : Nat} (h : VAt B c su fu vv res vs m) {k : Nat} (hk : B.length ≤ k) : ¬ vbox vv k := fun e => by have := (h.var.lt e).1; omega
section
variable {su : List SuT} {fu : List FuT} {res : List TyT}
end
def flds (su : List SuT) (m : List UInt8) : List PaT := match atN SuT.name su m with
 | some s => s.fields
 | none => []
section
variable {c : Nat} {B : List (List V)} {T : List (Nat × Nat)} {su : List SuT} {fu : List FuT} {vv : V} {res : List TyT}
end
def diffN : List (List UInt8) → List (List UInt8) → Bool
 | _, [] => true
 | b, x :: l => !b.contains x && !(x == [95]) && diffN (b ++ [x]) l
theorem diffN_nil (b : List (List UInt8)) : diffN b [] = true := rfl
theorem diffN_cons (b : List (List UInt8)) (x : List UInt8) (l : List (List UInt8)) : diffN b (x :: l) = (!b.contains x && !(x == [95]) && diffN (b ++ [x]) l) := rfl
def headF (su : List SuT) (fu : List FuT) (f : FuT) : Bool := f.params.all (fun p => standS su p.type && freeS su fu p.name) && f.results.all (standS su)
section
variable {c : Nat} {B : List (List V)} {T : List (Nat × Nat)} {su : List SuT} {fu : List FuT} {vv : V} {res : List TyT}
end
end Go.Proofs.YtnfnbjjnjjdjdaaGreatDoor
namespace Go.Ab
open Go.RowKit Go.Av
set_option linter.unusedSimpArgs false
theorem OpR.app0 {P : Program} {I : Inv} {env : List V} {o : Oper} {S : Mem} {so xo : Operand} {ts us e : TypeId} {ti te ui : TyI} {x : V} (ho : o.op = .call ⟨.builtin .append, #[so, xo], #[ts, us]⟩)
 (hti : tyOf P ts = some ti) (he : ti.d = .slice e) (hte : tyOf P e = some te) (hui : tyOf P us = some ui) (hue : ∃ k, ui.d = .slice k) (hes : evalV I env so = .sl [] .full) (hex : evalV I env xo = x) (hd : toD x = some (.sl [])) :
 OpR P I o env S fun v S' => v = .sl [] .full ∧ S' = S := by
 intro c w ev h1 h2 h3
 have hop : ∀ y, y = so ∨ y = xo → y ∈ o.op.operands := by
  intro y hy
  rw [ho]
  simp only [Op.operands, Call.operands]
  rcases hy with rfl | rfl <;> simp
 have hA := h3 so (hop so (.inl rfl))
 have hX := h3 xo (hop xo (.inr rfl))
 rw [hes] at hA
 rw [hex] at hX
 obtain ⟨fi, d, z, a1, a2, a3, a4, a5, a6, _⟩ := tyOf_info hti
 obtain ⟨gi, d2, z2, g1, g2, g3, g4, g5, g6, g7, g8, g9, g10⟩ := tyOf_info hte
 obtain ⟨ui1, d3, z3, u1, u2, u3, u4, u5, u6, _⟩ := tyOf_info hui
 rw [he] at a6
 obtain rfl := tdOf_slice a6
 obtain ⟨ke, hke⟩ := hue
 rw [hke] at u6
 obtain rfl := tdOf_slice u6
 have Ty : SlTy P ts e te.size te.bytes := ⟨a2, gi, z2, g1, g3, g4, g5, g8⟩
 have hD := VR_toD hX hd
 have hsl : ∃ a n cap, ev xo = .slice a n cap := by
  generalize ev xo = X at hD
  cases hD; exact ⟨_, _, _, rfl⟩
 obtain ⟨a, n, cap, hxo⟩ := hsl
 rw [hxo] at hD
 obtain ⟨hn, _, _, F, hF, _⟩ := hD.flat te.size (by simp)
 have hn : n = 0 := hn
 subst hn
 have hfirst := fun W hW => run_first (P := P) (sz := te.size) (cap := cap) (a := a) (rows := []) (n := 0) rfl hF W hW
 generalize hev : ev so = A at hA
 have hA' := hA
 cases hA with
 | full _ a' hdr ha =>
  have hrun := run_app_zero (P := P) (w := w) (ty := o.type) Ty ⟨_, u2, by simp⟩ a' 0 0 (Nat.le_refl _) (.slice a 0 cap) (fun W => by simp [Builtin.lenOf]) (fun W hW => by simpa using hfirst W hW)
  refine ⟨.slice a' 0 0, w, c, .sl [] .full, S, ?_, ⟨rfl, rfl⟩, h1, .refl _ _, hA'⟩
  simp only [List.length_nil] at hev
  simp [execOp, ho, resolve, invoke, builtin, hev, hxo, hrun]
end Go.Ab
namespace Go.Ab
open Go.RowKit Go.Av
set_option linter.unusedSimpArgs false
theorem run_equalIn_nil {P : Program} {w : World} (d : Nat) (t e : TypeId) (h : P.underlying t = some (.slice e)) (a : Option Addr) (n cap : Nat) : (Op.equalIn (d + 1) t (.slice a n cap) (.slice none 0 0)).run P w = .ok a.isNone w := by
 cases a <;> simp [Op.equalIn, run_underlying h]
theorem ARun.eqNil {P : Program} {I : Inv} {ops : Array Oper} {z : Nat × Nat} {fn : FuncId} {k : List Item} {R : V → Mem → Prop} {i : Nat} {rest : List Nat} {o : Oper} {env : List V} {S : Mem} {so : Operand} {t e rt : TypeId} {ti : TyI} {x : V} {rows : List (List D)} {sz : Nat} (hoi : ops[i]? = some o) (hw : Wants env ops o) (ho : o.op = .binOp .eql t so (.const (.slice none 0 0)) rt)
 (hti : tyOf P t = some ti) (he : ti.d = .slice e) (hex : evalV I env so = x) (hd : toD x = some (.sl rows)) (hr : ∀ r ∈ rows, r.length = sz)
 (hk : ∀ b, (rows ≠ [] → b = false) → ARun P I z fn (.inRegion ops rest :: k) (setV env o.dst (.d (.bool b))) S R) : ARun P I z fn (.inRegion ops (i :: rest) :: k) env S R := by
 intro b a c w c0 w0 h1 h2 h3 h4 h5 h6 hI
 have hX := EnvR.eval h5 h4 so
 rw [hI.1, hex] at hX
 obtain ⟨fi, d, zz, a1, a2, a3, a4, a5, a6, _⟩ := tyOf_info hti
 rw [he] at a6
 obtain rfl := tdOf_slice a6
 have hD := VR_toD hX hd
 have hsl : ∃ a' n cap, a.eval so = .slice a' n cap := by
  generalize a.eval so = X at hD
  cases hD; exact ⟨_, _, _, rfl⟩
 obtain ⟨a', n, cap, hxo⟩ := hsl
 rw [hxo] at hD
 obtain ⟨hn, _, _, F, hF, _⟩ := hD.flat sz hr
 have hrun : (execOp a.eval o).run P w = .ok (.value (.bool a'.isNone)) w := by
  rw [execOp, ho]
  show (do let r ← (do eqGuard .eql t so (.const (.slice none 0 0)) (a.eval so) (a.eval (.const (.slice none 0 0))); binOp .eql t (a.eval so) (a.eval (.const (.slice none 0 0)))); pure (Next.value r) : Sem Next).run P w = _
  have hc : a.eval (.const (.slice none 0 0)) = .slice none 0 0 := rfl
  rw [hxo, hc]
  have hg : (eqGuard .eql t so (.const (.slice none 0 0)) (.slice a' n cap) (.slice none 0 0)).run P w = .ok () w := rfl
  have hq : (Op.equal t (.slice a' n cap) (.slice none 0 0)).run P w = .ok a'.isNone w := run_equalIn_nil 9999 t e a2 a' n cap
  have hb : (binOp .eql t (.slice a' n cap) (.slice none 0 0)) = (do pure (.bool (← Op.equal t (.slice a' n cap) (.slice none 0 0)))) := rfl
  simp only [Sem.run_bind, hg, hb, hq, Result.andThen_ok, Sem.run_pure]
 have hk' := hk a'.isNone fun hne => by
  obtain ⟨_, g, off, rfl, _⟩ := hF hne
  rfl
 have hg := fun cs => stepG_op (P := P) (b := b) (k := k) (cs := cs) (w := w) (rest := rest) hoi (wants_ok h4 hw)
 have hs : ∀ cs, Go.step P (lone (b.at a (.inRegion ops (i :: rest) :: k)) cs w) = .next (lone (b.at (a.put o.dst (.bool a'.isNone)) (.inRegion ops rest :: k)) cs w) := by
  intro cs
  refine step_lone_go ?_
  have hfin : (b.at a (.inRegion ops (i :: rest) :: k)).finish (.bool a'.isNone) = b.at (a.put o.dst (.bool a'.isNone)) (.inRegion ops rest :: k) := by rw [Frame.finish_at, hoi]; rfl
  rw [hg cs, ← hfin]
  simp [stepG.apply, hrun]
 refine Goes.step hs (hk' b (a.put o.dst (.bool a'.isNone)) c w c0 w0 h1 h2 ?_ ?_ h5 h6 hI)
 ·cases o.dst <;> simpa [Act.put] using h3
 ·exact h4.put o.dst (.d _ _ (.bool _))
def flatF : V → V
 | .sl rows .full => .d (.sl rows)
 | v => v
theorem AFn.flat {P : Program} {I : Inv} {f : FuncId} {args : List V} {S : Mem} {R : V → Mem → Prop} (h : AFn P I f args S fun v S' => R (flatF v) S') : AFn P I f args S R := by
 refine ⟨h.1, fun c w xs h1 h2 h3 hI cs => ?_⟩
 obtain ⟨e, w', fr, ⟨v, x, S', c', a1, a2, a3, a4, a5⟩, h⟩ := h.2 c w xs h1 h2 h3 hI cs
 refine ⟨e, w', fr, ⟨flatF v, x, S', c', a1, a2, a3, a4, ?_⟩, h⟩
 unfold flatF
 split
 ·exact .d _ _ (VR_toD a5 rfl)
 ·exact a5
theorem AppN.flat {sz : Nat} {B : List (List V)} {T : List (Nat × Nat)} {rows : List (List D)} {v : V} {S' : Mem} (h : AppN sz B T rows v S') : AppN sz B T rows (flatF v) S' := by
 obtain ⟨cap, h1, h2, rfl, h3⟩ := h
 exact ⟨cap, h1, h2, rfl, h3⟩
end Go.Ab
namespace Go.Proofs.YtnfnbjjnjjdjdaaGreatDoor
open Go.RowKit Go.Av Go.Ab
set_option linter.unusedSimpArgs false
set_option maxRecDepth 100000
set_option linter.defProp false
def c108 := by
 have c := KK_of Tryz.f108 (by conv => lhs; cbv)
 dsimp only [KK, KxP, doO, opO, List.map_cons, List.map_nil, List.toList_toArray] at c
 exact c
def c72 := by
 have c := KK_of Tryz.f72 (by conv => lhs; cbv)
 dsimp only [KK, KxP, doO, opO, List.map_cons, List.map_nil, List.toList_toArray] at c
 exact c
def c74 := by
 have c := KK_of Tryz.f74 (by conv => lhs; cbv)
 dsimp only [KK, KxP, doO, opO, List.map_cons, List.map_nil, List.toList_toArray] at c
 exact c
def c24 := by
 have c := KK_of Tryz.f24 (by conv => lhs; cbv)
 dsimp only [KK, KxP, doO, opO, List.map_cons, List.map_nil, List.toList_toArray] at c
 exact c
def c25 := by
 have c := KK_of Tryz.f25 (by conv => lhs; cbv)
 dsimp only [KK, KxP, doO, opO, List.map_cons, List.map_nil, List.toList_toArray] at c
 exact c
theorem tySz {P : Program} {e : TypeId} {n : Nat} (h : (match tyOf P e with
 | some te => Nat.beq te.size n && Nat.ble te.bytes 100000
 | none => false) = true) : ∃ te, tyOf P e = some te ∧ te.size = n ∧ te.bytes ≤ 100000 := by
 split at h
 ·rename_i te ht
  obtain ⟨h1, h2⟩ := Bool.and_eq_true_iff.1 h
  exact ⟨te, ht, Nat.eq_of_beq_eq_true h1, Nat.le_of_ble_eq_true h2⟩
 ·cases h
def CloneQ (sz : Nat) (rows : List (List D)) (B : List (List V)) (T : List (Nat × Nat)) (v : V) (S' : Mem) : Prop :=
 (rows = [] ∧ v = .d (.sl []) ∧ S' = ⟨B, T⟩) ∨ (rows ≠ [] ∧ AppN sz B T rows v S')
theorem clone_Expr (rows : List (List D)) (hr : ∀ r ∈ rows, r.length = 8) (hl : rows.length ≤ 1000000000) (B : List (List V)) (T : List (Nat × Nat)) : AFn Tryz.prog TabI 108 [.d (.sl rows)] ⟨B, T⟩ (CloneQ 8 rows B T) := by
 obtain ⟨te, t1, t2, t3⟩ := tySz (P := Tryz.prog) (e := 50) (n := 8) (by kernel_rfl)
 have hs : tyOf Tryz.prog 48 = some ⟨.slice 50, 1, 24, false, [.sl [] .full]⟩ := by kernel_rfl
 refine AFn.flat (AFn.bodyM (body := (kF Tryz.f108 0)) 8 Tryz.func108 (by kernel_rfl) (by kernel_rfl) (by kernel_rfl) (Nat.le_of_ble_eq_true rfl) ?_)
 refine ARun.go 8 ?_
 simp only [W, seval, c108]
 refine ARun.eqNil (ops := opsOf (kF Tryz.f108 4)) (i := 1) (o := opAt (opsOf (kF Tryz.f108 4)) 1) (by kernel_rfl) (.inl (by kernel_rfl)) (so := .tmp 3) (rt := 48) (by kernel_rfl) hs rfl (by rfl) rfl hr ?_
 intro b hb
 have hd4 : (opAt (opsOf (kF Tryz.f108 4)) 1).dst = some 4 := by kernel_rfl
 rw [hd4]
 cases b
 case true =>
  have hne : rows = [] := by
   rcases rows with _ | ⟨r, l⟩
   ·rfl
   ·exact absurd (hb (by simp)) (by simp)
  refine ARun.go 30 ?_
  simp only [W, seval, c108]
  refine ARun.ret Tryz.func108 rfl (.inl ⟨hne, rfl, rfl⟩)
 clear hb
 refine ARun.go 7 ?_
 simp only [W, seval, c108]
 have hd7 : (opAt (opsOf (kF Tryz.f108 11)) 2).dst = some 7 := by kernel_rfl
 by_cases hne : rows = []
 ·subst hne
  refine OpR.step (ops := opsOf (kF Tryz.f108 11)) (i := 2) (o := opAt (opsOf (kF Tryz.f108 11)) 2) (by kernel_rfl) (.inl (by kernel_rfl)) (OpR.app0 (so := .tmp 5) (xo := .tmp 6) (by kernel_rfl) hs rfl t1 hs ⟨_, rfl⟩ (by rfl) (by rfl) rfl) ?_
  rintro _ _ ⟨rfl, rfl⟩
  rw [hd7]
  refine ARun.go 20 ?_
  simp only [W, seval, c108]
  refine ARun.ret Tryz.func108 rfl (.inl ⟨rfl, rfl, rfl⟩)
 refine OpR.step (ops := opsOf (kF Tryz.f108 11)) (i := 2) (o := opAt (opsOf (kF Tryz.f108 11)) 2) (by kernel_rfl) (.inl (by kernel_rfl)) (OpR.appN (so := .tmp 5) (xo := .tmp 6) (by kernel_rfl) hs rfl t1 hs ⟨_, rfl⟩ (by rw [t2]; decide) (by rfl) (by rfl) hne rfl (by rw [t2]; exact hr) t3 hl) ?_
 intro v S' hv
 rw [t2] at hv
 rw [hd7]
 refine ARun.go 20 ?_
 simp only [W, seval, c108]
 refine ARun.ret Tryz.func108 rfl (.inr ⟨hne, hv.flat⟩)
theorem clone_Stmt (rows : List (List D)) (hr : ∀ r ∈ rows, r.length = 10) (hl : rows.length ≤ 1000000000) (B : List (List V)) (T : List (Nat × Nat)) : AFn Tryz.prog TabI 72 [.d (.sl rows)] ⟨B, T⟩ (CloneQ 10 rows B T) := by
 obtain ⟨te, t1, t2, t3⟩ := tySz (P := Tryz.prog) (e := 53) (n := 10) (by kernel_rfl)
 have hs : tyOf Tryz.prog 39 = some ⟨.slice 53, 1, 24, false, [.sl [] .full]⟩ := by kernel_rfl
 refine AFn.flat (AFn.bodyM (body := (kF Tryz.f72 0)) 8 Tryz.func72 (by kernel_rfl) (by kernel_rfl) (by kernel_rfl) (Nat.le_of_ble_eq_true rfl) ?_)
 refine ARun.go 8 ?_
 simp only [W, seval, c72]
 refine ARun.eqNil (ops := opsOf (kF Tryz.f72 4)) (i := 1) (o := opAt (opsOf (kF Tryz.f72 4)) 1) (by kernel_rfl) (.inl (by kernel_rfl)) (so := .tmp 3) (rt := 39) (by kernel_rfl) hs rfl (by rfl) rfl hr ?_
 intro b hb
 have hd4 : (opAt (opsOf (kF Tryz.f72 4)) 1).dst = some 4 := by kernel_rfl
 rw [hd4]
 cases b
 case true =>
  have hne : rows = [] := by
   rcases rows with _ | ⟨r, l⟩
   ·rfl
   ·exact absurd (hb (by simp)) (by simp)
  refine ARun.go 30 ?_
  simp only [W, seval, c72]
  refine ARun.ret Tryz.func72 rfl (.inl ⟨hne, rfl, rfl⟩)
 clear hb
 refine ARun.go 7 ?_
 simp only [W, seval, c72]
 have hd7 : (opAt (opsOf (kF Tryz.f72 11)) 2).dst = some 7 := by kernel_rfl
 by_cases hne : rows = []
 ·subst hne
  refine OpR.step (ops := opsOf (kF Tryz.f72 11)) (i := 2) (o := opAt (opsOf (kF Tryz.f72 11)) 2) (by kernel_rfl) (.inl (by kernel_rfl)) (OpR.app0 (so := .tmp 5) (xo := .tmp 6) (by kernel_rfl) hs rfl t1 hs ⟨_, rfl⟩ (by rfl) (by rfl) rfl) ?_
  rintro _ _ ⟨rfl, rfl⟩
  rw [hd7]
  refine ARun.go 20 ?_
  simp only [W, seval, c72]
  refine ARun.ret Tryz.func72 rfl (.inl ⟨rfl, rfl, rfl⟩)
 refine OpR.step (ops := opsOf (kF Tryz.f72 11)) (i := 2) (o := opAt (opsOf (kF Tryz.f72 11)) 2) (by kernel_rfl) (.inl (by kernel_rfl)) (OpR.appN (so := .tmp 5) (xo := .tmp 6) (by kernel_rfl) hs rfl t1 hs ⟨_, rfl⟩ (by rw [t2]; decide) (by rfl) (by rfl) hne rfl (by rw [t2]; exact hr) t3 hl) ?_
 intro v S' hv
 rw [t2] at hv
 rw [hd7]
 refine ARun.go 20 ?_
 simp only [W, seval, c72]
 refine ARun.ret Tryz.func72 rfl (.inr ⟨hne, hv.flat⟩)
theorem clone_Case (rows : List (List D)) (hr : ∀ r ∈ rows, r.length = 2) (hl : rows.length ≤ 1000000000) (B : List (List V)) (T : List (Nat × Nat)) : AFn Tryz.prog TabI 74 [.d (.sl rows)] ⟨B, T⟩ (CloneQ 2 rows B T) := by
 obtain ⟨te, t1, t2, t3⟩ := tySz (P := Tryz.prog) (e := 96) (n := 2) (by kernel_rfl)
 have hs : tyOf Tryz.prog 51 = some ⟨.slice 96, 1, 24, false, [.sl [] .full]⟩ := by kernel_rfl
 refine AFn.flat (AFn.bodyM (body := (kF Tryz.f74 0)) 8 Tryz.func74 (by kernel_rfl) (by kernel_rfl) (by kernel_rfl) (Nat.le_of_ble_eq_true rfl) ?_)
 refine ARun.go 8 ?_
 simp only [W, seval, c74]
 refine ARun.eqNil (ops := opsOf (kF Tryz.f74 4)) (i := 1) (o := opAt (opsOf (kF Tryz.f74 4)) 1) (by kernel_rfl) (.inl (by kernel_rfl)) (so := .tmp 3) (rt := 51) (by kernel_rfl) hs rfl (by rfl) rfl hr ?_
 intro b hb
 have hd4 : (opAt (opsOf (kF Tryz.f74 4)) 1).dst = some 4 := by kernel_rfl
 rw [hd4]
 cases b
 case true =>
  have hne : rows = [] := by
   rcases rows with _ | ⟨r, l⟩
   ·rfl
   ·exact absurd (hb (by simp)) (by simp)
  refine ARun.go 30 ?_
  simp only [W, seval, c74]
  refine ARun.ret Tryz.func74 rfl (.inl ⟨hne, rfl, rfl⟩)
 clear hb
 refine ARun.go 7 ?_
 simp only [W, seval, c74]
 have hd7 : (opAt (opsOf (kF Tryz.f74 11)) 2).dst = some 7 := by kernel_rfl
 by_cases hne : rows = []
 ·subst hne
  refine OpR.step (ops := opsOf (kF Tryz.f74 11)) (i := 2) (o := opAt (opsOf (kF Tryz.f74 11)) 2) (by kernel_rfl) (.inl (by kernel_rfl)) (OpR.app0 (so := .tmp 5) (xo := .tmp 6) (by kernel_rfl) hs rfl t1 hs ⟨_, rfl⟩ (by rfl) (by rfl) rfl) ?_
  rintro _ _ ⟨rfl, rfl⟩
  rw [hd7]
  refine ARun.go 20 ?_
  simp only [W, seval, c74]
  refine ARun.ret Tryz.func74 rfl (.inl ⟨rfl, rfl, rfl⟩)
 refine OpR.step (ops := opsOf (kF Tryz.f74 11)) (i := 2) (o := opAt (opsOf (kF Tryz.f74 11)) 2) (by kernel_rfl) (.inl (by kernel_rfl)) (OpR.appN (so := .tmp 5) (xo := .tmp 6) (by kernel_rfl) hs rfl t1 hs ⟨_, rfl⟩ (by rw [t2]; decide) (by rfl) (by rfl) hne rfl (by rw [t2]; exact hr) t3 hl) ?_
 intro v S' hv
 rw [t2] at hv
 rw [hd7]
 refine ARun.go 20 ?_
 simp only [W, seval, c74]
 refine ARun.ret Tryz.func74 rfl (.inr ⟨hne, hv.flat⟩)
theorem clone_Struct (rows : List (List D)) (hr : ∀ r ∈ rows, r.length = 2) (hl : rows.length ≤ 1000000000) (B : List (List V)) (T : List (Nat × Nat)) : AFn Tryz.prog TabI 24 [.d (.sl rows)] ⟨B, T⟩ (CloneQ 2 rows B T) := by
 obtain ⟨te, t1, t2, t3⟩ := tySz (P := Tryz.prog) (e := 67) (n := 2) (by kernel_rfl)
 have hs : tyOf Tryz.prog 22 = some ⟨.slice 67, 1, 24, false, [.sl [] .full]⟩ := by kernel_rfl
 refine AFn.flat (AFn.bodyM (body := (kF Tryz.f24 0)) 8 Tryz.func24 (by kernel_rfl) (by kernel_rfl) (by kernel_rfl) (Nat.le_of_ble_eq_true rfl) ?_)
 refine ARun.go 8 ?_
 simp only [W, seval, c24]
 refine ARun.eqNil (ops := opsOf (kF Tryz.f24 4)) (i := 1) (o := opAt (opsOf (kF Tryz.f24 4)) 1) (by kernel_rfl) (.inl (by kernel_rfl)) (so := .tmp 3) (rt := 22) (by kernel_rfl) hs rfl (by rfl) rfl hr ?_
 intro b hb
 have hd4 : (opAt (opsOf (kF Tryz.f24 4)) 1).dst = some 4 := by kernel_rfl
 rw [hd4]
 cases b
 case true =>
  have hne : rows = [] := by
   rcases rows with _ | ⟨r, l⟩
   ·rfl
   ·exact absurd (hb (by simp)) (by simp)
  refine ARun.go 30 ?_
  simp only [W, seval, c24]
  refine ARun.ret Tryz.func24 rfl (.inl ⟨hne, rfl, rfl⟩)
 clear hb
 refine ARun.go 7 ?_
 simp only [W, seval, c24]
 have hd7 : (opAt (opsOf (kF Tryz.f24 11)) 2).dst = some 7 := by kernel_rfl
 by_cases hne : rows = []
 ·subst hne
  refine OpR.step (ops := opsOf (kF Tryz.f24 11)) (i := 2) (o := opAt (opsOf (kF Tryz.f24 11)) 2) (by kernel_rfl) (.inl (by kernel_rfl)) (OpR.app0 (so := .tmp 5) (xo := .tmp 6) (by kernel_rfl) hs rfl t1 hs ⟨_, rfl⟩ (by rfl) (by rfl) rfl) ?_
  rintro _ _ ⟨rfl, rfl⟩
  rw [hd7]
  refine ARun.go 20 ?_
  simp only [W, seval, c24]
  refine ARun.ret Tryz.func24 rfl (.inl ⟨rfl, rfl, rfl⟩)
 refine OpR.step (ops := opsOf (kF Tryz.f24 11)) (i := 2) (o := opAt (opsOf (kF Tryz.f24 11)) 2) (by kernel_rfl) (.inl (by kernel_rfl)) (OpR.appN (so := .tmp 5) (xo := .tmp 6) (by kernel_rfl) hs rfl t1 hs ⟨_, rfl⟩ (by rw [t2]; decide) (by rfl) (by rfl) hne rfl (by rw [t2]; exact hr) t3 hl) ?_
 intro v S' hv
 rw [t2] at hv
 rw [hd7]
 refine ARun.go 20 ?_
 simp only [W, seval, c24]
 refine ARun.ret Tryz.func24 rfl (.inr ⟨hne, hv.flat⟩)
theorem clone_Func (rows : List (List D)) (hr : ∀ r ∈ rows, r.length = 4) (hl : rows.length ≤ 1000000000) (B : List (List V)) (T : List (Nat × Nat)) : AFn Tryz.prog TabI 25 [.d (.sl rows)] ⟨B, T⟩ (CloneQ 4 rows B T) := by
 obtain ⟨te, t1, t2, t3⟩ := tySz (P := Tryz.prog) (e := 41) (n := 4) (by kernel_rfl)
 have hs : tyOf Tryz.prog 23 = some ⟨.slice 41, 1, 24, false, [.sl [] .full]⟩ := by kernel_rfl
 refine AFn.flat (AFn.bodyM (body := (kF Tryz.f25 0)) 8 Tryz.func25 (by kernel_rfl) (by kernel_rfl) (by kernel_rfl) (Nat.le_of_ble_eq_true rfl) ?_)
 refine ARun.go 8 ?_
 simp only [W, seval, c25]
 refine ARun.eqNil (ops := opsOf (kF Tryz.f25 4)) (i := 1) (o := opAt (opsOf (kF Tryz.f25 4)) 1) (by kernel_rfl) (.inl (by kernel_rfl)) (so := .tmp 3) (rt := 23) (by kernel_rfl) hs rfl (by rfl) rfl hr ?_
 intro b hb
 have hd4 : (opAt (opsOf (kF Tryz.f25 4)) 1).dst = some 4 := by kernel_rfl
 rw [hd4]
 cases b
 case true =>
  have hne : rows = [] := by
   rcases rows with _ | ⟨r, l⟩
   ·rfl
   ·exact absurd (hb (by simp)) (by simp)
  refine ARun.go 30 ?_
  simp only [W, seval, c25]
  refine ARun.ret Tryz.func25 rfl (.inl ⟨hne, rfl, rfl⟩)
 clear hb
 refine ARun.go 7 ?_
 simp only [W, seval, c25]
 have hd7 : (opAt (opsOf (kF Tryz.f25 11)) 2).dst = some 7 := by kernel_rfl
 by_cases hne : rows = []
 ·subst hne
  refine OpR.step (ops := opsOf (kF Tryz.f25 11)) (i := 2) (o := opAt (opsOf (kF Tryz.f25 11)) 2) (by kernel_rfl) (.inl (by kernel_rfl)) (OpR.app0 (so := .tmp 5) (xo := .tmp 6) (by kernel_rfl) hs rfl t1 hs ⟨_, rfl⟩ (by rfl) (by rfl) rfl) ?_
  rintro _ _ ⟨rfl, rfl⟩
  rw [hd7]
  refine ARun.go 20 ?_
  simp only [W, seval, c25]
  refine ARun.ret Tryz.func25 rfl (.inl ⟨rfl, rfl, rfl⟩)
 refine OpR.step (ops := opsOf (kF Tryz.f25 11)) (i := 2) (o := opAt (opsOf (kF Tryz.f25 11)) 2) (by kernel_rfl) (.inl (by kernel_rfl)) (OpR.appN (so := .tmp 5) (xo := .tmp 6) (by kernel_rfl) hs rfl t1 hs ⟨_, rfl⟩ (by rw [t2]; decide) (by rfl) (by rfl) hne rfl (by rw [t2]; exact hr) t3 hl) ?_
 intro v S' hv
 rw [t2] at hv
 rw [hd7]
 refine ARun.go 20 ?_
 simp only [W, seval, c25]
 refine ARun.ret Tryz.func25 rfl (.inr ⟨hne, hv.flat⟩)
end Go.Proofs.YtnfnbjjnjjdjdaaGreatDoor
namespace Go.Proofs.YtnfnbjjnjjdjdaaGreatDoor
open Go.RowKit Go.Av Go.Ab
set_option linter.unusedSimpArgs false
set_option maxRecDepth 100000
set_option linter.defProp false
def c73 := by
 have c := KK_of Tryz.f73 (by conv => lhs; cbv)
 dsimp only [KK, KxP, doO, opO, List.map_cons, List.map_nil, List.toList_toArray] at c
 exact c
theorem rowsV.tail {α : Type} {sz : Nat} {f : α → Nat → Nat → List V → Prop} (C : List V) : ∀ {l : List α} {lo hi : Nat} {X : List V}, rowsV sz f l lo hi X → rowsV sz f l lo hi (X ++ C)
 | [], _, _, _, h => h
 | x :: l, lo, hi, X, ⟨r, X', m, h1, h2, h3, h4, h5, h6⟩ => ⟨r, X' ++ C, m, by rw [h1, List.append_assoc], h2, h3, h4, h5, h6.tail C⟩
theorem rowsV.snoc {α : Type} {sz : Nat} {f : α → Nat → Nat → List V → Prop} {x : α} {r : List V} {m hi : Nat} (hr : r.length = sz) (hm : m ≤ hi) (hf : ∀ a, a ≤ m → f x a hi r) : ∀ {l : List α} {lo : Nat} {X : List V}, rowsV sz f l lo m X → X.length = l.length * sz → rowsV sz f (l ++ [x]) lo hi (X ++ r)
 | [], lo, X, h, hX => by
  obtain rfl : X = [] := List.eq_nil_of_length_eq_zero (by simpa using hX)
  have h : lo ≤ m := h
  exact ⟨r, [], hi, by simp, hr, by omega, Nat.le_refl _, hf _ h, Nat.le_refl _⟩
 | y :: l, lo, X, ⟨r0, X', m0, h1, h2, h3, h4, h5, h6⟩, hX => ⟨r0, X' ++ r, m0, by rw [h1, List.append_assoc], h2, h3, by omega, h5, rowsV.snoc hr hm hf h6 (by rw [h1, List.length_append, List.length_cons, Nat.add_mul] at hX; omega)⟩
theorem slV.low {f : Nat → Nat → List V → Prop} {n : Nat} {B : List (List V)} {lo lo' hi : Nat} {v : V} (h : slV f n B lo hi v) (hl : lo' ≤ lo) : slV f n B lo' hi v := by
 rcases h with ⟨h1, h2, h3⟩ | ⟨hn, j, cap, Y, h0, h1, h2, h3, h4⟩
 ·exact .inl ⟨h1, h2, by omega⟩
 ·exact .inr ⟨hn, j, cap, Y, h0, by omega, h2, h3, h4⟩
theorem slV.cells {f : Nat → Nat → List V → Prop} {n : Nat} {B : List (List V)} {lo hi : Nat} {v : V} (h : slV f n B lo hi v) : cellsV v = some [v] := by
 rcases h with ⟨_, rfl, _⟩ | ⟨_, j, cap, Y, rfl, _⟩ <;> rfl
theorem row_kv {X A C : List V} {x : ExT} {kv v : V} {a : Nat} (hX : X = A ++ exRow x kv ++ C) (ha : A.length = a) : X.take (a + 7) ++ (v :: X.drop (a + 7 + 1)) = A ++ exRow x v ++ C := by
 have e : X = A ++ (exRow x kv ++ C) := by rw [hX, List.append_assoc]
 rw [e, List.take_append, List.drop_append, List.drop_of_length_le (by omega), List.take_of_length_le (by omega), List.nil_append, List.append_assoc, List.append_assoc]
 rw [show a + 7 - A.length = 7 by omega, show a + 7 + 1 - A.length = 8 by omega]
 rfl
theorem exD_row (x : ExT) : (exD x).map V.d = exRow x (.d (.sl (x.kids.map exD))) := by rw [exD_eq]; rfl
def NewQ (own : List (List V) → Nat → Nat → V → Prop) (B : List (List V)) (T : List (Nat × Nat)) (v : V) (S' : Mem) : Prop := ∃ J, S' = ⟨B ++ J, T⟩ ∧ own (B ++ J) B.length (B ++ J).length v
def EXs (l : List ExT) : Prop := ∀ (B : List (List V)) (T : List (Nat × Nat)), AFn Tryz.prog TabI 73 [.d (.sl (l.map exD))] ⟨B, T⟩ (NewQ (fun B lo hi v => OwnV B l lo hi v) B T)
structure XsSt where
 i : Nat
 Y : List V
 B : List (List V)
structure XsOk (l : List ExT) (B : List (List V)) (Junk : List V) (a : XsSt) : Prop where
 le : a.i ≤ l.length
 yl : a.Y.length = a.i * 8
 bl : B.length < a.B.length
 old : ∀ k, k < B.length → a.B[k]? = B[k]?
 row : a.B[B.length]? = some (a.Y ++ (((l.drop a.i).map exD).flatten.map V.d ++ Junk))
 own : rowsV 8 (OwnE a.B) (l.take a.i) (B.length + 1) a.B.length a.Y
set_option maxHeartbeats 2000000 in
theorem exprs_gt (l : List ExT) (hl : ∀ x ∈ l, EXs x.kids) (hlen : l.length ≤ 60000) : EXs l := by
 intro B T
 obtain ⟨N, hn⟩ : ∃ N, B.length = N := ⟨_, rfl⟩
 have hcl := clone_Expr (l.map exD) (by intro r hr; obtain ⟨x, _, rfl⟩ := List.mem_map.1 hr; rw [exD_eq]; rfl) (by rw [List.length_map]; omega) B T
 refine AFn.flat (AFn.bodyM (body := (kF Tryz.f73 0)) 23 Tryz.func73 (by kernel_rfl) (by kernel_rfl) (by kernel_rfl) (Nat.le_of_ble_eq_true rfl) ?_)
 refine ARun.go 160 ?_
 simp only [W, seval, c73]
 refine callS_fn hcl ?_
 rintro v S' (⟨h0, rfl, rfl⟩ | ⟨hne, cap, h1, h2, rfl, rfl⟩)
 ·obtain rfl : l = [] := by simpa using h0
  refine ARun.go 160 ?_
  simp only [W, seval, c73]
  refine ARun.loopW (fun _ : Unit => (envS 23 [(8, .d (.int .i64 0)), (7, .d (.int .i64 0)), (0, .d (.sl []))], ⟨B, T⟩)) (fun _ => True) (fun _ => 0) () trivial ?_ rfl ?_
  ·skip
   refine Agree.env _ ?_
   simp only [agw, seval]
  intro _ _ _
  refine ARun.go 60 ?_
  simp only [W, seval, c73, decide_eq_false (show ¬ ((0 : Int) < 0) by decide)]
  refine ARun.ret Tryz.func73 rfl ?_
  exact ⟨[], by rw [List.append_nil], .inl ⟨rfl, rfl, by simp⟩⟩
 obtain ⟨Junk, hJ⟩ : ∃ J, J = List.replicate ((cap - (l.map exD).length) * 8) V.undef := ⟨_, rfl⟩
 rw [← hJ]
 rw [List.length_map] at h1 ⊢
 clear hJ hcl
 have hl0 : l ≠ [] := by rintro rfl; exact hne rfl
 refine ARun.go 160 ?_
 simp only [W, seval, c73, bxw]
 refine ARun.loopW (fun a : XsSt => (envS 23 [(8, .d (.int .i64 (a.i : Int))), (7, .d (.int .i64 (l.length : Int))), (0, .bx B.length l.length cap)], ⟨a.B, T⟩)) (XsOk l B Junk) (fun a => l.length - a.i) ⟨0, [], B ++ [(l.map exD).flatten.map V.d ++ Junk]⟩ ⟨Nat.zero_le _, rfl, by simp, fun k hk => bx_old hk, by rw [bx_loc0 rfl]; rfl, by simp [rowsV]⟩ ?_ rfl ?_
 ·skip
  refine Agree.env _ ?_
  simp only [agw, seval]
 rintro ⟨i, Y, Bi⟩ ⟨h3, h4, h5, h6, h7, h8⟩ ih
 dsimp only at h3 h4 h5 h6 h7 h8 ih ⊢
 by_cases hlt : i < l.length
 case neg =>
  have e2 : decide ((i : Int) < (l.length : Int)) = false := decide_eq_false (by omega)
  obtain rfl : i = l.length := by omega
  refine ARun.go 60 ?_
  simp only [W, seval, c73, e2]
  refine ARun.ret Tryz.func73 rfl ?_
  rw [List.take_length] at h8
  have hB : Bi = B ++ Bi.drop B.length := by
   conv => lhs; rw [← List.take_append_drop B.length Bi]
   congr 1
   refine List.ext_getElem? fun k => ?_
   rw [List.getElem?_take]
   split
   ·rename_i hk; exact h6 k hk
   ·rename_i hk; rw [List.getElem?_eq_none (by omega)]
  refine ⟨Bi.drop B.length, by rw [← hB], .inr ⟨fun e => hl0 (List.eq_nil_of_length_eq_zero e), B.length, cap, _, rfl, Nat.le_refl _, by rw [← hB]; exact h5, by rw [← hB]; exact h7, ?_⟩⟩
  rw [← hB, OwnL_rows]
  exact h8.tail _
 have e2 : decide ((i : Int) < (l.length : Int)) = true := decide_eq_true (by omega)
 have hwi := wrap_in ((i : Int) + 1) (by omega)
 have hltI : (i : Int) < (l.length : Int) := by omega
 obtain ⟨x, hx⟩ : ∃ x, l[i] = x := ⟨_, rfl⟩
 have hxs := hl l[i] (List.getElem_mem hlt) Bi T
 rw [hx] at hxs
 rw [List.drop_eq_getElem_cons hlt, hx, List.map_cons, List.flatten_cons, List.map_append, exD_row, List.append_assoc, ← List.append_assoc] at h7
 obtain ⟨C, hC⟩ : ∃ C, C = ((l.drop (i + 1)).map exD).flatten.map V.d ++ Junk := ⟨_, rfl⟩
 rw [← hC] at h7
 obtain ⟨Z, hZ⟩ : ∃ Z, Z = Y ++ exRow x (.d (.sl (x.kids.map exD))) ++ C := ⟨_, rfl⟩
 rw [← hZ] at h7
 obtain ⟨x0, x1, x2, x3, x7, x8, x9, _⟩ := row_at hZ h4
 refine ARun.go 160 ?_
 simp only [W, seval, c73, bxw, e2, hltI, h7, x7, x8]
 refine callS_fn hxs ?_
 rintro v _ ⟨J, rfl, hv⟩
 have hc1 : cellsV v = some [v] := slV.cells hv
 have h7' : (Bi ++ J)[B.length]? = some Z := by rw [bx_old h5]; exact h7
 refine ARun.go 60 ?_
 simp only [W, seval, c73, bxw, hltI, h7', hc1, x8, hwi]
 rw [row_kv hZ h4]
 have hB3 : ∀ k, k < Bi.length → k ≠ B.length → ((Bi ++ J).set B.length (Y ++ exRow x v ++ C))[k]? = Bi[k]? := fun k hk hq => by rw [List.getElem?_set_ne (Ne.symm hq), bx_old hk]
 refine ih ⟨i + 1, Y ++ exRow x v, (Bi ++ J).set B.length (Y ++ exRow x v ++ C)⟩ ⟨hlt, ?_, ?_, ?_, ?_, ?_⟩ (by dsimp only; omega) _ _ ?_ rfl
 ·show (Y ++ exRow x v).length = (i + 1) * 8
  rw [List.length_append, h4]
  show i * 8 + 8 = _
  omega
 ·show B.length < ((Bi ++ J).set B.length _).length
  rw [List.length_set, List.length_append]
  omega
 ·exact fun k hk => (hB3 k (by omega) (by omega)).trans (h6 k hk)
 ·show ((Bi ++ J).set B.length _)[B.length]? = _
  rw [List.getElem?_set_self (by rw [List.length_append]; omega), ← hC]
 ·show rowsV 8 (OwnE ((Bi ++ J).set B.length _)) (l.take (i + 1)) (B.length + 1) ((Bi ++ J).set B.length _).length (Y ++ exRow x v)
  rw [List.take_succ_eq_append_getElem hlt, hx, List.length_set]
  refine rowsV.snoc (sz := 8) (m := Bi.length) (hi := (Bi ++ J).length) (f := OwnE ((Bi ++ J).set B.length (Y ++ exRow x v ++ C))) rfl (by rw [List.length_append]; omega) (fun a ha => ?_) (h8.congr fun y _ a b r ha hb hf => OwnE.frame y hf fun k h1 h2 => hB3 k (by omega) (by omega)) (by rw [h4, List.length_take, Nat.min_eq_left h3])
  refine OwnE_iff.2 ⟨v, rfl, slV.low ?_ ha⟩
  exact hv.frame fun k h1 h2 => List.getElem?_set_ne (by omega)
 ·skip
  refine Agree.env _ ?_
  simp only [agw, seval]
theorem exprs_kids {x : ExT} (h : ShE x) : EXs x.kids := by
 induction h with
 | mk x h1 h2 ih => exact exprs_gt _ ih (by omega)
theorem exprs_all {l : List ExT} (h : ∀ x ∈ l, ShE x) (hl : l.length ≤ 60000) : EXs l := exprs_gt l (fun x hx => exprs_kids (h x hx)) hl
def c26 := by
 have c := KK_of Tryz.f26 (by conv => lhs; cbv)
 dsimp only [KK, KxP, doO, opO, List.map_cons, List.map_nil, List.toList_toArray] at c
 exact c
def MkQ (own : List (List V) → Nat → Nat → V → Prop) : Prop := ∀ B : List (List V), ∃ J v, own (B ++ J) B.length (B ++ J).length v
theorem MkQ.new {own : List (List V) → Nat → Nat → V → Prop} (h : MkQ own) (B : List (List V)) (T : List (Nat × Nat)) : ∃ v S', NewQ own B T v S' := by
 obtain ⟨J, v, h⟩ := h B
 exact ⟨v, _, J, rfl, h⟩
theorem NewQ.split {own : List (List V) → Nat → Nat → V → Prop} {B : List (List V)} {T : List (Nat × Nat)} {v : V} {S' : Mem} (h : NewQ own B T v S') : ∃ M, S' = ⟨M, T⟩ ∧ B.length ≤ M.length ∧ (∀ k, k < B.length → M[k]? = B[k]?) ∧ own M B.length M.length v := by
 obtain ⟨J, rfl, h⟩ := h
 exact ⟨B ++ J, rfl, by simp, fun k hk => bx_old hk, h⟩
theorem CloneQ.ne (sz : Nat) (rows : List (List D)) (B : List (List V)) (T : List (Nat × Nat)) (hl : rows.length ≤ 9223372036854775807) : ∃ v S', CloneQ sz rows B T v S' := by
 by_cases h : rows = []
 ·exact ⟨_, _, .inl ⟨h, rfl, rfl⟩⟩
 ·exact ⟨_, _, .inr ⟨h, rows.length, Nat.le_refl _, hl, rfl, rfl⟩⟩
theorem CloneQ.split {sz : Nat} {rows : List (List D)} {B : List (List V)} {T : List (Nat × Nat)} {v : V} {S' : Mem} (h : CloneQ sz rows B T v S') : ∃ M, S' = ⟨M, T⟩ ∧ B.length ≤ M.length ∧ (∀ k, k < B.length → M[k]? = B[k]?) ∧ cellsV v = some [v] ∧ ((rows = [] ∧ v = .d (.sl []) ∧ M = B) ∨ (rows ≠ [] ∧ ∃ cap J, v = .bx B.length rows.length cap ∧ M = B ++ [rows.flatten.map .d ++ J])) := by
 rcases h with ⟨h0, rfl, rfl⟩ | ⟨h0, cap, h1, h2, rfl, rfl⟩
 ·exact ⟨_, rfl, Nat.le_refl _, fun _ _ => rfl, rfl, .inl ⟨h0, rfl, rfl⟩⟩
 ·exact ⟨_, rfl, by simp, fun k hk => bx_old hk, rfl, .inr ⟨h0, cap, _, rfl, rfl⟩⟩
theorem srow_put {X A C : List V} {x : StT} {v1 v2 v3 v4 v5 : V} {a : Nat} (hX : X = A ++ stRow x v1 v2 v3 v4 v5 ++ C) (ha : A.length = a) (u : V) :
 X.take (a + 5) ++ u :: X.drop (a + 5 + 1) = A ++ stRow x u v2 v3 v4 v5 ++ C ∧ X.take (a + 6) ++ u :: X.drop (a + 6 + 1) = A ++ stRow x v1 u v3 v4 v5 ++ C ∧ X.take (a + 7) ++ u :: X.drop (a + 7 + 1) = A ++ stRow x v1 v2 u v4 v5 ++ C ∧
  X.take (a + 8) ++ u :: X.drop (a + 8 + 1) = A ++ stRow x v1 v2 v3 u v5 ++ C ∧ X.take (a + 9) ++ u :: X.drop (a + 9 + 1) = A ++ stRow x v1 v2 v3 v4 u ++ C := by
 have e : X = A ++ (stRow x v1 v2 v3 v4 v5 ++ C) := by rw [hX, List.append_assoc]
 have t : ∀ q, X.take (a + q) = A ++ (stRow x v1 v2 v3 v4 v5 ++ C).take q := fun q => by rw [e, List.take_append, List.take_of_length_le (by omega)]; congr 2; omega
 have d : ∀ q, X.drop (a + q) = (stRow x v1 v2 v3 v4 v5 ++ C).drop q := fun q => by rw [e, List.drop_append, List.drop_of_length_le (by omega), List.nil_append]; congr 1; omega
 refine ⟨?_, ?_, ?_, ?_, ?_⟩ <;> rw [t, Nat.add_assoc, d, List.append_assoc, List.append_assoc] <;> rfl
theorem crow_at {X A C : List V} {i : Int} {v : V} {a : Nat} (hX : X = A ++ [.d (.int .u64 i), v] ++ C) (ha : A.length = a) : X[a + 1]? = some v ∧ a + 2 ≤ X.length ∧ ∀ u, X.take (a + 1) ++ u :: X.drop (a + 1 + 1) = A ++ [.d (.int .u64 i), u] ++ C := by
 have e : X = A ++ ([.d (.int .u64 i), v] ++ C) := by rw [hX, List.append_assoc]
 refine ⟨?_, ?_, fun u => ?_⟩
 ·rw [e, List.getElem?_append_right (by omega), show a + 1 - A.length = 1 by omega]; rfl
 ·rw [e]; simp; omega
 ·rw [e, List.take_append, List.take_of_length_le (by omega), List.drop_append, List.drop_of_length_le (by omega), List.nil_append, show a + 1 - A.length = 1 by omega, show a + 1 + 1 - A.length = 2 by omega, List.append_assoc, List.append_assoc]; rfl
theorem rows_make {α : Type} {sz : Nat} {f : List (List V) → α → Nat → Nat → List V → Prop} (fr : ∀ x B B' lo hi r, f B x lo hi r → (∀ i, lo ≤ i → i < hi → B'[i]? = B[i]?) → f B' x lo hi r) :
 ∀ (l : List α), (∀ x ∈ l, ∀ B : List (List V), ∃ J r, r.length = sz ∧ f (B ++ J) x B.length (B ++ J).length r) → ∀ B : List (List V), ∃ J X, rowsV sz (f (B ++ J)) l B.length (B ++ J).length X
 | [], _, B => ⟨[], [], by simp [rowsV]⟩
 | x :: l, h, B => by
  obtain ⟨J1, r, h1, h2⟩ := h x List.mem_cons_self B
  obtain ⟨J2, X, h3⟩ := rows_make fr l (fun y hy => h y (List.mem_cons_of_mem _ hy)) (B ++ J1)
  rw [List.append_assoc] at h3
  exact ⟨J1 ++ J2, r ++ X, r, X, (B ++ J1).length, rfl, h1, by simp, by simp, fr _ _ _ _ _ _ h2 fun i _ hi => by rw [← List.append_assoc]; exact bx_old hi, h3⟩
theorem slice_make {α : Type} {sz : Nat} {f : List (List V) → α → Nat → Nat → List V → Prop} (fr : ∀ x B B' lo hi r, f B x lo hi r → (∀ i, lo ≤ i → i < hi → B'[i]? = B[i]?) → f B' x lo hi r)
 (l : List α) (h : ∀ x ∈ l, ∀ B : List (List V), ∃ J r, r.length = sz ∧ f (B ++ J) x B.length (B ++ J).length r) : MkQ fun B lo hi v => slV (rowsV sz (f B) l) l.length B lo hi v := by
 intro B
 by_cases hl : l.length = 0
 ·exact ⟨[], .d (.sl []), .inl ⟨hl, rfl, by simp⟩⟩
 obtain ⟨J, X, hX⟩ := rows_make fr l h (B ++ [[]])
 have e : ∀ k, B.length + 1 ≤ k → (B ++ X :: J)[k]? = (B ++ [[]] ++ J)[k]? := fun k hk => by
  rw [List.getElem?_append_right (by omega), List.append_assoc, List.getElem?_append_right (by omega)]
  obtain ⟨q, hq⟩ : ∃ q, k - B.length = q + 1 := ⟨k - B.length - 1, by omega⟩
  rw [hq]
  rfl
 refine ⟨X :: J, .bx B.length l.length l.length, .inr ⟨hl, _, _, X, rfl, Nat.le_refl _, by simp, by rw [List.getElem?_append_right (Nat.le_refl _), Nat.sub_self]; rfl, ?_⟩⟩
 have e2 : (B ++ X :: J).length = (B ++ [[]] ++ J).length := by simp
 rw [e2, show B.length + 1 = (B ++ [([] : List V)]).length by simp]
 exact hX.congr fun x _ a b r ha _ hf => fr _ _ _ _ _ _ hf fun i hi _ => e i (by simp at ha; omega)
theorem OwnL_eq (B : List (List V)) (l : List ExT) : OwnL B l = rowsV 8 (OwnE B) l := funext fun a => funext fun b => funext fun X => OwnL_rows B l a b X
theorem OwnSs_eq (B : List (List V)) (l : List StT) : OwnSs B l = rowsV 10 (OwnS B) l := funext fun a => funext fun b => funext fun X => OwnSs_rows B l a b X
theorem OwnCs_eq (B : List (List V)) (l : List CaT) : OwnCs B l = rowsV 2 (OwnC B) l := funext fun a => funext fun b => funext fun X => OwnCs_rows B l a b X
theorem mkV {l : List ExT} (h : ∀ x ∈ l, MkQ fun B lo hi v => OwnV B x.kids lo hi v) : MkQ fun B lo hi v => OwnV B l lo hi v := by
 have := slice_make (sz := 8) (f := OwnE) (fun x B B' lo hi r hf he => OwnE.frame x hf he) l fun y hy B => by
  obtain ⟨J, v, hv⟩ := h y hy B
  exact ⟨J, exRow y v, rfl, OwnE_iff.2 ⟨v, rfl, hv⟩⟩
 intro B
 obtain ⟨J, v, hv⟩ := this B
 refine ⟨J, v, ?_⟩
 show slV (OwnL (B ++ J) l) l.length (B ++ J) B.length (B ++ J).length v
 rw [OwnL_eq]
 exact hv
theorem mkE {x : ExT} (h : ShE x) : MkQ fun B lo hi v => OwnV B x.kids lo hi v := by
 induction h with
 | mk x h1 h2 ih => exact mkV ih
theorem mkEs {l : List ExT} (h : ∀ x ∈ l, ShE x) : MkQ fun B lo hi v => OwnV B l lo hi v := mkV fun x hx => mkE (h x hx)
def MkS (s : StT) : Prop := (MkQ fun B lo hi v => OwnV B s.lefts lo hi v) ∧ (MkQ fun B lo hi v => OwnV B s.exprs lo hi v) ∧ (MkQ fun B lo hi v => OwnB B s.body lo hi v) ∧ (MkQ fun B lo hi v => OwnB B s.els lo hi v) ∧ ∀ c ∈ s.cases, MkQ fun B lo hi v => OwnB B c.body lo hi v
theorem mkCs {l : List CaT} (h : ∀ c ∈ l, MkQ fun B lo hi v => OwnB B c.body lo hi v) : MkQ fun B lo hi v => OwnCV B l lo hi v := by
 have := slice_make (sz := 2) (f := OwnC) (fun x B B' lo hi r hf he => OwnC.frame x hf he) l fun y hy B => by
  obtain ⟨J, v, hv⟩ := h y hy B
  exact ⟨J, _, rfl, OwnC_iff.2 ⟨v, rfl, hv⟩⟩
 intro B
 obtain ⟨J, v, hv⟩ := this B
 refine ⟨J, v, ?_⟩
 show slV (OwnCs (B ++ J) l) l.length (B ++ J) B.length (B ++ J).length v
 rw [OwnCs_eq]
 exact hv
theorem mkBs {l : List StT} (h : ∀ s ∈ l, MkS s) : MkQ fun B lo hi v => OwnB B l lo hi v := by
 have := slice_make (sz := 10) (f := OwnS) (fun x B B' lo hi r hf he => OwnS.frame x hf he) l fun s hs B => by
  obtain ⟨h1, h2, h3, h4, h5⟩ := h s hs
  obtain ⟨J1, v1, e1⟩ := h1 B
  obtain ⟨J2, v2, e2⟩ := h2 (B ++ J1)
  obtain ⟨J3, v3, e3⟩ := h3 (B ++ J1 ++ J2)
  obtain ⟨J4, v4, e4⟩ := h4 (B ++ J1 ++ J2 ++ J3)
  obtain ⟨J5, v5, e5⟩ := mkCs h5 (B ++ J1 ++ J2 ++ J3 ++ J4)
  refine ⟨J1 ++ J2 ++ J3 ++ J4 ++ J5, stRow s v1 v2 v3 v4 v5, rfl, OwnS_iff.2 ⟨v1, v2, v3, v4, v5, _, _, _, _, rfl, e1.frame fun i _ hi => ?_, e2.frame fun i _ hi => ?_, e3.frame fun i _ hi => ?_, e4.frame fun i _ hi => ?_, ?_⟩⟩
  ·simp only [← List.append_assoc]
   rw [bx_old (by simp at hi ⊢; omega), bx_old (by simp at hi ⊢; omega), bx_old (by simp at hi ⊢; omega), bx_old hi]
  ·simp only [← List.append_assoc]
   rw [bx_old (by simp at hi ⊢; omega), bx_old (by simp at hi ⊢; omega), bx_old hi]
  ·simp only [← List.append_assoc]
   rw [bx_old (by simp at hi ⊢; omega), bx_old hi]
  ·simp only [← List.append_assoc]
   rw [bx_old hi]
  ·simpa only [← List.append_assoc] using e5
 intro B
 obtain ⟨J, v, hv⟩ := this B
 refine ⟨J, v, ?_⟩
 show slV (OwnSs (B ++ J) l) l.length (B ++ J) B.length (B ++ J).length v
 rw [OwnSs_eq]
 exact hv
theorem mkS {s : StT} (h : ShS s) : MkS s := by
 induction h with
 | mk s a1 a2 a3 a4 a5 a6 a7 a8 a9 a10 a11 i8 i9 i11 => exact ⟨mkEs a6, mkEs a7, mkBs i8, mkBs i9, fun c hc => mkBs (i11 c hc)⟩
theorem stD_row (s : StT) : (stD s).map V.d = stRow s (.d (.sl (s.lefts.map exD))) (.d (.sl (s.exprs.map exD))) (.d (.sl (s.body.map stD))) (.d (.sl (s.els.map stD))) (.d (.sl (s.cases.map caD))) := by rw [stD_eq]; rfl
theorem caD_row (c : CaT) : (caD c).map V.d = [.d (.int .u64 c.int), .d (.sl (c.body.map stD))] := by rw [caD_eq]; rfl
def STs (l : List StT) : Prop := ∀ (B : List (List V)) (T : List (Nat × Nat)), AFn Tryz.prog TabI 26 [.d (.sl (l.map stD))] ⟨B, T⟩ (NewQ (fun B lo hi v => OwnB B l lo hi v) B T)
structure YsOk (l : List StT) (B : List (List V)) (Junk : List V) (a : XsSt) : Prop where
 le : a.i ≤ l.length
 yl : a.Y.length = a.i * 10
 bl : B.length < a.B.length
 old : ∀ k, k < B.length → a.B[k]? = B[k]?
 row : a.B[B.length]? = some (a.Y ++ (((l.drop a.i).map stD).flatten.map V.d ++ Junk))
 own : rowsV 10 (OwnS a.B) (l.take a.i) (B.length + 1) a.B.length a.Y
structure CsOk (l : List CaT) (M : List (List V)) (Junk : List V) (a : XsSt) : Prop where
 le : a.i ≤ l.length
 yl : a.Y.length = a.i * 2
 bl : M.length < a.B.length
 old : ∀ k, k < M.length → a.B[k]? = M[k]?
 row : a.B[M.length]? = some (a.Y ++ (((l.drop a.i).map caD).flatten.map V.d ++ Junk))
 own : rowsV 2 (OwnC a.B) (l.take a.i) (M.length + 1) a.B.length a.Y
theorem new_all {B Bi : List (List V)} (h6 : ∀ k, k < B.length → Bi[k]? = B[k]?) : Bi = B ++ Bi.drop B.length := by
 conv => lhs; rw [← List.take_append_drop B.length Bi]
 congr 1
 refine List.ext_getElem? fun k => ?_
 rw [List.getElem?_take]
 split
 ·rename_i hk; exact h6 k hk
 ·rename_i hk; rw [List.getElem?_eq_none (by omega)]
set_option maxHeartbeats 4000000 in
theorem stmts_gt (l : List StT) (hl : ∀ s ∈ l, MkS s ∧ EXs s.lefts ∧ EXs s.exprs ∧ STs s.body ∧ STs s.els ∧ (∀ c ∈ s.cases, STs c.body) ∧ s.cases.length ≤ 60000) (hlen : l.length ≤ 60000) : STs l := by
 intro B T
 have hcl := clone_Stmt (l.map stD) (by intro r hr; obtain ⟨x, _, rfl⟩ := List.mem_map.1 hr; rw [stD_eq]; rfl) (by rw [List.length_map]; omega) B T
 refine AFn.flat (AFn.bodyM (body := (kF Tryz.f26 0)) 83 Tryz.func26 (by kernel_rfl) (by kernel_rfl) (by kernel_rfl) (Nat.le_of_ble_eq_true rfl) ?_)
 refine ARun.go 160 ?_
 simp only [W, seval, c26]
 refine callS_fn hcl ?_
 rintro v S' (⟨h0, rfl, rfl⟩ | ⟨hne, cap, h1, h2, rfl, rfl⟩)
 ·obtain rfl : l = [] := by simpa using h0
  refine ARun.go 160 ?_
  simp only [W, seval, c26]
  refine ARun.loopW (fun _ : Unit => (envS 83 [(10, .d (.int .i64 0)), (9, .d (.int .i64 0)), (0, .d (.sl []))], ⟨B, T⟩)) (fun _ => True) (fun _ => 0) () trivial ?_ rfl ?_
  ·skip
   refine Agree.env _ ?_
   simp only [agw, seval]
  intro _ _ _
  refine ARun.go 60 ?_
  simp only [W, seval, c26, decide_eq_false (show ¬ ((0 : Int) < 0) by decide)]
  refine ARun.ret Tryz.func26 rfl ?_
  exact ⟨[], by rw [List.append_nil], .inl ⟨rfl, rfl, by simp⟩⟩
 obtain ⟨Junk, hJ⟩ : ∃ J, J = List.replicate ((cap - (l.map stD).length) * 10) V.undef := ⟨_, rfl⟩
 rw [← hJ]
 rw [List.length_map] at h1 ⊢
 clear hJ hcl
 have hl0 : l ≠ [] := by rintro rfl; exact hne rfl
 refine ARun.go 160 ?_
 simp only [W, seval, c26, bxw]
 refine ARun.loopW (fun a : XsSt => (envS 83 [(10, .d (.int .i64 (a.i : Int))), (9, .d (.int .i64 (l.length : Int))), (0, .bx B.length l.length cap)], ⟨a.B, T⟩)) (YsOk l B Junk) (fun a => l.length - a.i) ⟨0, [], B ++ [(l.map stD).flatten.map V.d ++ Junk]⟩ ⟨Nat.zero_le _, rfl, by simp, fun k hk => bx_old hk, by rw [bx_loc0 rfl]; rfl, by simp [rowsV]⟩ ?_ rfl ?_
 ·skip
  refine Agree.env _ ?_
  simp only [agw, seval]
 rintro ⟨i, Y, Bi⟩ ⟨h3, h4, h5, h6, h7, h8⟩ ih
 dsimp only at h3 h4 h5 h6 h7 h8 ih ⊢
 by_cases hlt : i < l.length
 case neg =>
  have e2 : decide ((i : Int) < (l.length : Int)) = false := decide_eq_false (by omega)
  obtain rfl : i = l.length := by omega
  refine ARun.go 60 ?_
  simp only [W, seval, c26, e2]
  refine ARun.ret Tryz.func26 rfl ?_
  rw [List.take_length] at h8
  have hB := new_all h6
  refine ⟨Bi.drop B.length, by rw [← hB], .inr ⟨fun e => hl0 (List.eq_nil_of_length_eq_zero e), B.length, cap, _, rfl, Nat.le_refl _, by rw [← hB]; exact h5, by rw [← hB]; exact h7, ?_⟩⟩
  rw [← hB, OwnSs_rows]
  exact h8.tail _
 have e2 : decide ((i : Int) < (l.length : Int)) = true := decide_eq_true (by omega)
 have hwi := wrap_in ((i : Int) + 1) (by omega)
 have hltI : (i : Int) < (l.length : Int) := by omega
 obtain ⟨s, hs⟩ : ∃ s, l[i] = s := ⟨_, rfl⟩
 obtain ⟨⟨m1, m2, m3, m4, m5⟩, q1, q2, q3, q4, q5, q6⟩ := hl l[i] (List.getElem_mem hlt)
 rw [hs] at m1 m2 m3 m4 m5 q1 q2 q3 q4 q5 q6
 rw [List.drop_eq_getElem_cons hlt, hs, List.map_cons, List.flatten_cons, List.map_append, stD_row, List.append_assoc, ← List.append_assoc] at h7
 obtain ⟨C, hC⟩ : ∃ C, C = ((l.drop (i + 1)).map stD).flatten.map V.d ++ Junk := ⟨_, rfl⟩
 rw [← hC] at h7
 obtain ⟨Z, hZ⟩ : ∃ Z, Z = Y ++ stRow s (.d (.sl (s.lefts.map exD))) (.d (.sl (s.exprs.map exD))) (.d (.sl (s.body.map stD))) (.d (.sl (s.els.map stD))) (.d (.sl (s.cases.map caD))) ++ C := ⟨_, rfl⟩
 rw [← hZ] at h7
 obtain ⟨_, _, x5, x6, x7, x8, x9, _, _, x10, _⟩ := srow_at hZ h4
 refine ARun.go 160 ?_
 simp only [W, seval, c26, bxw, e2, hltI]
 refine ARun.drawX 30 [] [B.length] (by kernel_rfl) (by kernel_rfl) (by kernel_rfl) (by kernel_rfl) (by kernel_rfl) (by kernel_rfl) (by kernel_rfl) ?_
 simp (maxSteps := 4000000) only [W, seval, c26, xw, bxw, h7, x5, x6, x7, x8, x9, x10]
 have hcc := fun M => clone_Case (s.cases.map caD) (by intro r hr; obtain ⟨x, _, rfl⟩ := List.mem_map.1 hr; rw [caD_eq]; rfl) (by rw [List.length_map]; omega) M T
 refine callX_0 (m1.new Bi T) (q1 Bi T) ?_
 intro v1 S1 n1
 obtain ⟨M1, rfl, l1, p1, o1⟩ := n1.split
 have b1 : B.length < M1.length := by omega
 have r1 : M1[B.length]? = some Z := (p1 _ h5).trans h7
 refine ⟨⟨r1.trans h7.symm, trivial⟩, ?_⟩
 simp (maxSteps := 4000000) only [W, seval, c26, xw, bxw, r1, x5, x6, x7, x8, x9, x10]
 refine callX_0 (m2.new M1 T) (q2 M1 T) ?_
 intro v2 S2 n2
 obtain ⟨M2, rfl, l2, p2, o2⟩ := n2.split
 have b2 : B.length < M2.length := by omega
 have r2 : M2[B.length]? = some Z := (p2 _ b1).trans r1
 refine ⟨⟨r2.trans h7.symm, trivial⟩, ?_⟩
 simp (maxSteps := 4000000) only [W, seval, c26, xw, bxw, r2, x5, x6, x7, x8, x9, x10]
 refine callX_0 (m3.new M2 T) (q3 M2 T) ?_
 intro v3 S3 n3
 obtain ⟨M3, rfl, l3, p3, o3⟩ := n3.split
 have b3 : B.length < M3.length := by omega
 have r3 : M3[B.length]? = some Z := (p3 _ b2).trans r2
 refine ⟨⟨r3.trans h7.symm, trivial⟩, ?_⟩
 simp (maxSteps := 4000000) only [W, seval, c26, xw, bxw, r3, x5, x6, x7, x8, x9, x10]
 refine callX_0 (m4.new M3 T) (q4 M3 T) ?_
 intro v4 S4 n4
 obtain ⟨M4, rfl, l4, p4, o4⟩ := n4.split
 have b4 : B.length < M4.length := by omega
 have r4 : M4[B.length]? = some Z := (p4 _ b3).trans r3
 refine ⟨⟨r4.trans h7.symm, trivial⟩, ?_⟩
 simp (maxSteps := 4000000) only [W, seval, c26, xw, bxw, r4, x5, x6, x7, x8, x9, x10]
 refine callX_0 (CloneQ.ne _ _ _ _ (by rw [List.length_map]; omega)) (hcc M4) ?_
 intro v5 S5 n5
 obtain ⟨M5, rfl, l5, p5, c5, d5⟩ := n5.split
 have b5 : B.length < M5.length := by omega
 have r5 : M5[B.length]? = some Z := (p5 _ b4).trans r4
 refine ⟨⟨r5.trans h7.symm, trivial⟩, ?_⟩
 obtain ⟨Z1, hZ1⟩ : ∃ X, X = Y ++ stRow s v1 (.d (.sl (s.exprs.map exD))) (.d (.sl (s.body.map stD))) (.d (.sl (s.els.map stD))) (.d (.sl (s.cases.map caD))) ++ C := ⟨_, rfl⟩
 obtain ⟨Z2, hZ2⟩ : ∃ X, X = Y ++ stRow s v1 v2 (.d (.sl (s.body.map stD))) (.d (.sl (s.els.map stD))) (.d (.sl (s.cases.map caD))) ++ C := ⟨_, rfl⟩
 obtain ⟨Z3, hZ3⟩ : ∃ X, X = Y ++ stRow s v1 v2 v3 (.d (.sl (s.els.map stD))) (.d (.sl (s.cases.map caD))) ++ C := ⟨_, rfl⟩
 obtain ⟨Z4, hZ4⟩ : ∃ X, X = Y ++ stRow s v1 v2 v3 v4 (.d (.sl (s.cases.map caD))) ++ C := ⟨_, rfl⟩
 obtain ⟨Z5, hZ5⟩ : ∃ X, X = Y ++ stRow s v1 v2 v3 v4 v5 ++ C := ⟨_, rfl⟩
 have e1 := (srow_put hZ h4 v1).1.trans hZ1.symm
 have e2 := (srow_put hZ1 h4 v2).2.1.trans hZ2.symm
 have e3 := (srow_put hZ2 h4 v3).2.2.1.trans hZ3.symm
 have e4 := (srow_put hZ3 h4 v4).2.2.2.1.trans hZ4.symm
 have e5 := (srow_put hZ4 h4 v5).2.2.2.2.trans hZ5.symm
 have y6 : i * 10 + 6 ≤ Z.length := by omega
 have y7 : i * 10 + 7 ≤ Z1.length := by have := (srow_at hZ1 h4).2.2.2.2.2.2.2.2.2.1; omega
 have y8 : i * 10 + 8 ≤ Z2.length := by have := (srow_at hZ2 h4).2.2.2.2.2.2.2.2.2.1; omega
 have y9 : i * 10 + 9 ≤ Z3.length := by have := (srow_at hZ3 h4).2.2.2.2.2.2.2.2.2.1; omega
 have y10 : i * 10 + 10 ≤ Z4.length := by have := (srow_at hZ4 h4).2.2.2.2.2.2.2.2.2.1; omega
 have cv1 := slV.cells o1
 have cv2 := slV.cells o2
 have cv3 := slV.cells o3
 have cv4 := slV.cells o4
 have s1 : ∀ X, (M5.set B.length X)[B.length]? = some X := fun X => List.getElem?_set_self b5
 simp (maxSteps := 4000000) only [W, seval, c26, xw, bxw, r5, h7, cv1, cv2, cv3, cv4, c5, e1, e2, e3, e4, e5, y6, y7, y8, y9, y10, s1]
 clear e1 e2 e3 e4 e5 y6 y7 y8 y9 y10 hZ1 hZ2 hZ3 hZ4 Z1 Z2 Z3 Z4 cv1 cv2 cv3 cv4 c5 x5 x6 x7 x8 x9 x10 hcc r5 r4 r3 r2 r1
 have z9 : Z5[i * 10 + 9]? = some v5 := (srow_at hZ5 h4).2.2.2.2.2.2.1
 have sub : ∀ k, k < M4.length → k ≠ B.length → (M4.set B.length Z5)[k]? = M4[k]? := fun k _ hk => List.getElem?_set_ne (Ne.symm hk)
 have fin : ∀ B' : List (List V), M4.length ≤ B'.length → (∀ k, k < M4.length → B'[k]? = (M4.set B.length Z5)[k]?) → OwnCV B' s.cases M4.length B'.length v5 → YsOk l B Junk ⟨i + 1, Y ++ stRow s v1 v2 v3 v4 v5, B'⟩ := by
  intro B' f1 f2 f3
  have hq : ∀ k, k < M4.length → k ≠ B.length → B'[k]? = M4[k]? := fun k a b => (f2 k a).trans (sub k a b)
  refine ⟨hlt, ?_, ?_, ?_, ?_, ?_⟩
  ·show (Y ++ stRow s v1 v2 v3 v4 v5).length = (i + 1) * 10
   rw [List.length_append, h4]
   show i * 10 + 10 = _
   omega
  ·show B.length < B'.length
   omega
  ·intro k hk
   show B'[k]? = B[k]?
   rw [hq k (by omega) (by omega), p4 k (by omega), p3 k (by omega), p2 k (by omega), p1 k (by omega), h6 k hk]
  ·show B'[B.length]? = _
   rw [f2 _ b4, List.getElem?_set_self b4, hZ5, List.append_assoc, ← hC]
   simp only [List.append_assoc]
  ·show rowsV 10 (OwnS B') (l.take (i + 1)) (B.length + 1) B'.length (Y ++ stRow s v1 v2 v3 v4 v5)
   rw [List.take_succ_eq_append_getElem hlt, hs]
   refine rowsV.snoc (sz := 10) (m := Bi.length) (f := OwnS B') rfl (by omega) (fun a ha => ?_) (h8.congr fun y _ a b r ha hb hf => OwnS.frame y hf fun k h1 h2 => by rw [hq k (by omega) (by omega), p4 k (by omega), p3 k (by omega), p2 k (by omega), p1 k (by omega)]) (by rw [h4, List.length_take, Nat.min_eq_left h3])
   refine OwnS_iff.2 ⟨v1, v2, v3, v4, v5, _, _, _, _, rfl, slV.low (o1.frame fun k h1 h2 => ?_) ha, o2.frame fun k h1 h2 => ?_, o3.frame fun k h1 h2 => ?_, o4.frame fun k h1 h2 => ?_, f3⟩
   ·rw [hq k (by omega) (by omega), p4 k (by omega), p3 k (by omega), p2 k (by omega)]
   ·rw [hq k (by omega) (by omega), p4 k (by omega), p3 k (by omega)]
   ·rw [hq k (by omega) (by omega), p4 k (by omega)]
   ·rw [hq k (by omega) (by omega)]
 rcases d5 with ⟨h50, rfl, rfl⟩ | ⟨h50, cap5, J5, rfl, rfl⟩
 ·have hcs : s.cases = [] := by simpa using h50
  refine ARun.go 160 ?_
  simp only [W, seval, c26, bxw, s1, z9]
  refine ARun.loopW (fun _ : Unit => (envS 83 [(61, .d (.int .i64 0)), (60, .d (.int .i64 0)), (10, .d (.int .i64 (i : Int))), (9, .d (.int .i64 (l.length : Int))), (0, .bx B.length l.length cap)], ⟨M5.set B.length Z5, T⟩)) (fun _ => True) (fun _ => 0) () trivial ?_ rfl ?_
  ·skip
   refine Agree.env _ ?_
   simp only [agw, seval]
  intro _ _ _
  refine ARun.go 60 ?_
  simp only [W, seval, c26, decide_eq_false (show ¬ ((0 : Int) < 0) by decide), hwi]
  refine ih _ (fin _ (by rw [List.length_set]; exact Nat.le_refl _) (fun _ _ => rfl) (.inl ⟨by rw [hcs]; rfl, rfl, by rw [List.length_set]; exact Nat.le_refl _⟩)) (by dsimp only; omega) _ _ ?_ rfl
  ·skip
   refine Agree.env _ ?_
   simp only [agw, seval]
 have hcs : s.cases ≠ [] := fun e => h50 (by rw [e]; rfl)
 rw [List.length_map] at fin z9 hZ5 ⊢
 have hm : (M4 ++ [((s.cases.map caD).flatten.map V.d) ++ J5]).set B.length Z5 = M4.set B.length Z5 ++ [((s.cases.map caD).flatten.map V.d) ++ J5] := List.set_append_left _ _ b4
 have z1 := s1 Z5
 clear s1
 rw [hm] at z1 ⊢
 clear hm
 obtain ⟨M, hM⟩ : ∃ M, M = M4.set B.length Z5 := ⟨_, rfl⟩
 have hML : M.length = M4.length := by rw [hM, List.length_set]
 rw [← hM] at fin z1 ⊢
 rw [← hML] at fin z9 ⊢
 have bM : B.length < M.length := by omega
 have zM : M[B.length]? = some Z5 := by rw [bx_old bM] at z1; exact z1
 clear sub o1 o2 o3 o4 p1 p2 p3 p4 p5 h8 hM
 refine ARun.go 160 ?_
 simp only [W, seval, c26, bxw, z1, z9]
 refine ARun.loopW (fun a : XsSt => (envS 83 [(61, .d (.int .i64 (a.i : Int))), (60, .d (.int .i64 (s.cases.length : Int))), (4, .ptr B.length (i * 10)), (10, .d (.int .i64 (i : Int))), (9, .d (.int .i64 (l.length : Int))), (0, .bx B.length l.length cap)], ⟨a.B, T⟩)) (CsOk s.cases M J5) (fun a => s.cases.length - a.i) ⟨0, [], M ++ [(s.cases.map caD).flatten.map V.d ++ J5]⟩ ⟨Nat.zero_le _, rfl, by simp, fun k hk => bx_old hk, by rw [bx_loc0 rfl]; rfl, by simp [rowsV]⟩ ?_ rfl ?_
 ·skip
  refine Agree.env _ ?_
  simp only [agw, seval]
 rintro ⟨j, Yc, Bj⟩ ⟨g3, g4, g5, g6, g7, g8⟩ ih2
 dsimp only at g3 g4 g5 g6 g7 g8 ih2 ⊢
 by_cases hjt : j < s.cases.length
 case neg =>
  have e3 : decide ((j : Int) < (s.cases.length : Int)) = false := decide_eq_false (by omega)
  obtain rfl : j = s.cases.length := by omega
  refine ARun.go 60 ?_
  simp only [W, seval, c26, e3, hwi]
  rw [List.take_length] at g8
  refine ih _ (fin Bj (by omega) (fun k hk => g6 k hk) (.inr ⟨fun e => hcs (List.eq_nil_of_length_eq_zero e), M.length, cap5, _, rfl, Nat.le_refl _, g5, g7, ?_⟩)) (by dsimp only; omega) _ _ ?_ rfl
  ·rw [OwnCs_rows]
   exact g8.tail _
  ·skip
   refine Agree.env _ ?_
   simp only [agw, seval]
 have e3 : decide ((j : Int) < (s.cases.length : Int)) = true := decide_eq_true (by omega)
 have hwj := wrap_in ((j : Int) + 1) (by omega)
 have hjI : (j : Int) < (s.cases.length : Int) := by omega
 obtain ⟨c, hc⟩ : ∃ c, s.cases[j] = c := ⟨_, rfl⟩
 have hcm : c ∈ s.cases := hc ▸ List.getElem_mem hjt
 rw [List.drop_eq_getElem_cons hjt, hc, List.map_cons, List.flatten_cons, List.map_append, caD_row, List.append_assoc, ← List.append_assoc] at g7
 obtain ⟨C2, hC2⟩ : ∃ C, C = ((s.cases.drop (j + 1)).map caD).flatten.map V.d ++ J5 := ⟨_, rfl⟩
 rw [← hC2] at g7
 obtain ⟨Zc, hZc⟩ : ∃ Z, Z = Yc ++ [.d (.int .u64 c.int), .d (.sl (c.body.map stD))] ++ C2 := ⟨_, rfl⟩
 rw [← hZc] at g7
 obtain ⟨w1, w2, w3⟩ := crow_at hZc g4
 have gB : Bj[B.length]? = some Z5 := (g6 _ bM).trans zM
 refine ARun.go 160 ?_
 simp only [W, seval, c26, bxw, e3, hjI]
 refine ARun.drawX 14 [] [B.length, M.length] (by kernel_rfl) (by kernel_rfl) (by kernel_rfl) (by kernel_rfl) (by kernel_rfl) (by kernel_rfl) (by kernel_rfl) ?_
 simp (maxSteps := 4000000) only [W, seval, c26, xw, bxw, gB, z9, g7, w1, w2, hjI]
 refine callX_0 ((m5 c hcm).new Bj T) (q5 c hcm Bj T) ?_
 intro v6 S6 n6
 obtain ⟨M6, rfl, l6, p6, o6⟩ := n6.split
 have k1 : M6[B.length]? = some Z5 := (p6 _ (by omega)).trans gB
 have k2 : M6[M.length]? = some Zc := (p6 _ g5).trans g7
 refine ⟨⟨k1.trans gB.symm, k2.trans g7.symm, trivial⟩, ?_⟩
 have cv6 := slV.cells o6
 simp (maxSteps := 4000000) only [W, seval, c26, xw, bxw, k1, k2, z9, w1, w2, w3, hjI, cv6, hwj]
 refine ⟨⟨gB.symm, g7.symm⟩, ?_⟩
 refine ARun.go 60 ?_
 simp only [W, seval, c26, hwj]
 obtain ⟨Q, hQ⟩ : ∃ Q, Q = Yc ++ V.d (.int .u64 c.int) :: v6 :: C2 := ⟨_, rfl⟩
 rw [← hQ]
 have hlM : M.length < M6.length := by omega
 have hq6 : ∀ k, k < Bj.length → k ≠ M.length → (M6.set M.length Q)[k]? = Bj[k]? := fun k a b => by rw [List.getElem?_set_ne (Ne.symm b), p6 k a]
 refine ih2 ⟨j + 1, Yc ++ [.d (.int .u64 c.int), v6], M6.set M.length Q⟩ ⟨hjt, ?_, ?_, ?_, ?_, ?_⟩ (by dsimp only; omega) _ _ ?_ rfl
 ·show (Yc ++ [V.d (.int .u64 c.int), v6]).length = (j + 1) * 2
  rw [List.length_append, g4]
  show j * 2 + 2 = _
  omega
 ·show M.length < (M6.set M.length Q).length
  rw [List.length_set]
  exact hlM
 ·exact fun k hk => (hq6 k (by omega) (by omega)).trans (g6 k hk)
 ·show (M6.set M.length Q)[M.length]? = _
  rw [List.getElem?_set_self hlM, hQ, ← hC2, List.append_assoc]
  rfl
 ·show rowsV 2 (OwnC (M6.set M.length Q)) (s.cases.take (j + 1)) (M.length + 1) (M6.set M.length Q).length (Yc ++ [V.d (.int .u64 c.int), v6])
  rw [List.take_succ_eq_append_getElem hjt, hc, List.length_set]
  refine rowsV.snoc (sz := 2) (m := Bj.length) (f := OwnC (M6.set M.length Q)) rfl (by omega) (fun a ha => ?_) (g8.congr fun y _ a b r ha hb hf => OwnC.frame y hf fun k h1 h2 => hq6 k (by omega) (by omega)) (by rw [g4, List.length_take, Nat.min_eq_left g3])
  refine OwnC_iff.2 ⟨v6, rfl, slV.low (o6.frame fun k h1 h2 => ?_) ha⟩
  exact List.getElem?_set_ne (by omega)
 ·skip
  refine Agree.env _ ?_
  simp only [agw, seval]
theorem stmts_kids {s : StT} (h : ShS s) : STs s.body ∧ STs s.els ∧ ∀ c ∈ s.cases, STs c.body := by
 induction h with
 | mk s a1 a2 a3 a4 a5 a6 a7 a8 a9 a10 a11 i8 i9 i11 =>
  have key : ∀ l : List StT, (∀ y ∈ l, ShS y) → (∀ y ∈ l, STs y.body ∧ STs y.els ∧ ∀ c ∈ y.cases, STs c.body) → l.length ≤ 60000 → STs l := fun l a b c =>
   stmts_gt l (fun y hy => by
    obtain ⟨k1, k2, k3⟩ := b y hy
    refine ⟨mkS (a y hy), ?_, ?_, k1, k2, k3, by have := (a y hy).cases; omega⟩ <;> (cases a y hy with | mk _ e1 e2 e3 e4 e5 e6 e7 e8 e9 e10 e11 => exact exprs_all (by assumption) (by omega))) c
  exact ⟨key _ a8 i8 (by omega), key _ a9 i9 (by omega), fun c hc => key _ (a11 c hc) (i11 c hc) (by have := a10 c hc; omega)⟩
theorem stmts_all {l : List StT} (h : ∀ s ∈ l, ShS s) (hl : l.length ≤ 60000) : STs l :=
 stmts_gt l (fun y hy => by
  obtain ⟨k1, k2, k3⟩ := stmts_kids (h y hy)
  refine ⟨mkS (h y hy), ?_, ?_, k1, k2, k3, by have := (h y hy).cases; omega⟩ <;> (cases h y hy with | mk _ e1 e2 e3 e4 e5 e6 e7 e8 e9 e10 e11 => exact exprs_all (by assumption) (by omega))) hl
structure HAt (B : List (List V)) (c s f : Nat) (xx yy : V) (E : Tenv) : Prop where
 c : B[c]? = some [.mp s, .mp f, xx, yy]
 s : B[s]? = some (suM E.su)
 f : B[f]? = some (fuM E.fu)
section
variable {E : Tenv} {c s f : Nat} {xx yy : V} {B B' : List (List V)} {T : List (Nat × Nat)}
theorem HAt.lt (h : HAt B c s f xx yy E) : c < B.length ∧ s < B.length ∧ f < B.length :=
 ⟨(List.getElem?_eq_some_iff.1 h.c).1, (List.getElem?_eq_some_iff.1 h.s).1, (List.getElem?_eq_some_iff.1 h.f).1⟩
theorem HAt.keep (h : HAt B c s f xx yy E) (hc : B'[c]? = B[c]?) (hs : B'[s]? = B[s]?) (hf : B'[f]? = B[f]?) : HAt B' c s f xx yy E :=
 ⟨by rw [hc]; exact h.c, by rw [hs]; exact h.s, by rw [hf]; exact h.f⟩
theorem HAt.more (h : HAt B c s f xx yy E) (J : List (List V)) : HAt (B ++ J) c s f xx yy E :=
 h.keep (bx_old h.lt.1) (bx_old h.lt.2.1) (bx_old h.lt.2.2)
theorem HAt.lookS (h : HAt B c s f xx yy E) (n : List UInt8) (ok : Bool) (J : List (List V)) (T : List (Nat × Nat)) : opLookup Tryz.prog ⟨B ++ J, T⟩ 60 (.mp s) (.d (.str n)) ok = some (lookV suZ ((atN SuT.name E.su n).map suV) ok) := look_at mapSu (h.more J).s n ok
theorem HAt.lookF (h : HAt B c s f xx yy E) (n : List UInt8) (ok : Bool) (J : List (List V)) (T : List (Nat × Nat)) : opLookup Tryz.prog ⟨B ++ J, T⟩ 61 (.mp f) (.d (.str n)) ok = some (lookV fuZ ((atN FuT.name E.fu n).map fuV) ok) := look_at mapFu (h.more J).f n ok
set_option maxHeartbeats 4000000 in
theorem free_ht (n : List UInt8) (h : HAt B c s f xx yy E) : AFn Tryz.prog TabI 64 [.ptr c 0, .d (.str n)] ⟨B, T⟩ (Same (.d (.bool (freeS E.su E.fu n))) ⟨B, T⟩) := by
 obtain ⟨N, hn⟩ : ∃ N, B.length = N := ⟨_, rfl⟩
 have hi : c < N := by rw [← hn]; exact h.lt.1
 have hb := h.c
 have hs := h.lookS n true [] T
 rw [List.append_nil] at hs
 have hf := h.lookF n true
 have hfr : freeS E.su E.fu n = ((atN SuT.name E.su n).isNone && (atN FuT.name E.fu n).isNone && !(decide (n = [95]))) := by
  unfold freeS
  congr 2
  rw [Bool.eq_iff_iff]; simp
 rw [hfr]
 cases h1 : atN SuT.name E.su n <;> cases h2 : atN FuT.name E.fu n <;> rw [h1] at hs <;> rw [h2] at hf <;> simp only [Go.Ab.lookV, Option.map_some, Option.map_none, if_true, suZ, fuZ, suV, fuV] at hs hf
 all_goals
  refine b64.go 160 rfl fun _ => ?_
  simp only [W, seval, c64, mpw, hn, hi, hb, hs, hf, Bool.not_true, Bool.not_false, Bool.true_eq_false, Bool.false_eq_true]
  refine ARun.ret Tryz.func64 rfl (Left.box ?_)
  exact ⟨rfl, rfl⟩
set_option maxHeartbeats 4000000 in
theorem stands_ht {t : TyT} (ht : TW t) (h : HAt B c s f xx yy E) : AFn Tryz.prog TabI 68 [.ptr c 0, tyV t] ⟨B, T⟩ (Same (.d (.bool (standS E.su t))) ⟨B, T⟩) := by
 obtain ⟨N, hn⟩ : ∃ N, B.length = N := ⟨_, rfl⟩
 have hi : c < N := by rw [← hn]; exact h.lt.1
 have hsl : s < N := by rw [← hn]; exact h.lt.2.1
 have hsb := h.s
 have hb := h.c
 unfold tyV
 refine b68.go 160 rfl fun hsm => ?_
 simp only [smw] at hsm
 simp only [W, seval, c68, hn]
 refine ARun.loopW (fun a : TyT => (envS 30 [(0, .ptr c 0), (3, .ptr N 0)], ⟨B ++ [tyL a], T⟩)) (fun a => TW a ∧ standS E.su a = standS E.su t) (fun a => SizeOf.sizeOf a) t ⟨ht, rfl⟩ ?_ rfl ?_
 ·skip
  refine Agree.env _ ?_
  simp only [agw, seval]
 rintro a ⟨ha, h2⟩ ih
 cases ha with
 | sl n u hu =>
  rw [standS_sl] at h2
  refine ARun.go 160 ?_
  simp only [W, seval, c68, hn, tyL, TyT.kind, TyT.name, TyT.elem, decide_true, mapD_cons, mapD_nil, tyD_eq]
  refine ih u ⟨hu, h2⟩ (by simp; omega) _ _ ?_ rfl
  refine Agree.env _ ?_
  simp only [agw, seval]
 | leaf k n es hk =>
  have e8 := decide_eq_false hk
  rw [standS_leaf _ _ _ _ hk] at h2
  rw [← h2]
  have hs := h.lookS n true
  clear ih h2
  cases h1 : atN SuT.name E.su n <;> rw [h1] at hs <;> simp only [Go.Ab.lookV, Option.map_some, Option.map_none, if_true, suZ, suV] at hs
  all_goals
   refine ARun.go 160 ?_
   simp only [W, seval, c68, hn, tyL, TyT.kind, TyT.name, TyT.elem, e8]
   refine ARun.drawX 11 [] [c, s, N] (by kernel_rfl) (by kernel_rfl) (by kernel_rfl) (by kernel_rfl) (by kernel_rfl) (by kernel_rfl) (by kernel_rfl) ?_
   simp (maxSteps := 4000000) only [W, seval, c68, xw, mpw, hn, hi, hb, hs, hsl, hsb]
   by_cases h7 : k = 7
   ·have e7 := decide_eq_true h7
    refine ARun.go 160 ?_
    simp only [W, seval, c68, mpw, hn, e7, Bool.not_true]
    refine ARun.ret Tryz.func68 rfl (Left.box ?_)
    simp only [h7]
    exact ⟨rfl, rfl⟩
   ·have e7 := decide_eq_false h7
    refine ARun.go 160 ?_
    simp only [W, seval, c68, mpw, hn, e7, Bool.not_false]
    refine ARun.ret Tryz.func68 rfl (Left.box ?_)
    try rw [show decide (k ≠ 7) = true from decide_eq_true h7]
    exact ⟨rfl, rfl⟩
end
def c65 := by
 have c := KK_of Tryz.f65 (by conv => lhs; cbv)
 dsimp only [KK, KxP, doO, opO, List.map_cons, List.map_nil, List.toList_toArray] at c
 exact c
theorem b65 : FnIs Tryz.prog 65 Tryz.f65 43 := ⟨Tryz.func65, by kernel_rfl⟩
theorem fty67 : fieldTy Tryz.prog 67 1 = some (37, 1) := by kernel_rfl
def meM (met : List (List UInt8)) : List V := [.kvs met (met.map fun _ => .d (.bool true))]
theorem mapB : mapTy Tryz.prog 120 = some (.d (.bool false)) := by kernel_rfl
theorem kidx_has (n : List UInt8) : ∀ l : List (List UInt8), (match kidx l n with
 | some j => l.contains n = true ∧ j < l.length
 | none => l.contains n = false)
 | [] => rfl
 | x :: l => by
  have ih := kidx_has n l
  rw [kidx]
  by_cases h : x = n
  ·rw [if_pos h]
   exact ⟨by simp [h], by simp⟩
  ·rw [if_neg h]
   have hc : (x :: l).contains n = l.contains n := by simp [Ne.symm h]
   cases hk : kidx l n with
   | none => rw [hk] at ih; exact hc.trans ih
   | some j => rw [hk] at ih; exact ⟨hc.trans ih.1, by have := ih.2; simp; omega⟩
theorem lookM {met : List (List UInt8)} {B : List (List V)} {T : List (Nat × Nat)} {i : Nat} (hb : B[i]? = some (meM met)) (n : List UInt8) : opLookup Tryz.prog ⟨B, T⟩ 120 (.mp i) (.d (.str n)) false = some (.d (.bool (met.contains n))) := by
 have := kidx_has n met
 unfold opLookup
 unfold meM at hb
 simp only [mapB, hb, kget]
 cases hk : kidx met n with
 | none => rw [hk] at this; rw [this]; rfl
 | some j =>
  rw [hk] at this
  rw [this.1]
  have : (met.map fun _ => V.d (.bool true))[j]? = some (.d (.bool true)) := by rw [List.getElem?_map, List.getElem?_eq_getElem this.2]; rfl
  dsimp only
  rw [this]
  rfl
theorem putM {met : List (List UInt8)} {B : List (List V)} {T : List (Nat × Nat)} {i : Nat} (hb : B[i]? = some (meM met)) {n : List UInt8} (hn : met.contains n = false) : opMapSet Tryz.prog ⟨B, T⟩ 120 (.mp i) (.d (.str n)) (.d (.bool true)) = some (.undef, ⟨B.set i (meM (met ++ [n])), T⟩) := by
 have := kidx_has n met
 unfold opMapSet
 unfold meM at hb
 simp only [mapB, hb, kset]
 cases hk : kidx met n with
 | some j => rw [hk] at this; rw [this.1] at hn; cases hn
 | none =>
  unfold meM
  simp
def rchF (f : List (List UInt8) → List UInt8 → List (List UInt8)) (met : List (List UInt8)) (p : PaT) : List (List UInt8) := if decide (p.type.kind = 7) && !met.contains p.type.name then f (met ++ [p.type.name]) p.type.name else met
def rchN (su : List SuT) : Nat → List (List UInt8) → List UInt8 → List (List UInt8)
 | 0, met, _ => met
 | k + 1, met, n => (flds su n).foldl (rchF (rchN su k)) met
def cands (su : List SuT) : List (List UInt8) := su.flatMap fun s => s.fields.map fun p => p.type.name
def missC (su : List SuT) (met : List (List UInt8)) : Nat := (cands su).countP fun x => !met.contains x
theorem miss_lt {su : List SuT} {met : List (List UInt8)} {n : List UInt8} (hn : n ∈ cands su) (hm : met.contains n = false) : missC su (met ++ [n]) < missC su met := by
 unfold missC
 generalize cands su = l at hn
 induction l with
 | nil => cases hn
 | cons x l ih =>
  have hle : ∀ l : List (List UInt8), l.countP (fun x => !(met ++ [n]).contains x) ≤ l.countP fun x => !met.contains x := fun l => List.countP_mono_left fun y _ hy => by simp at hy ⊢; exact hy.1
  rw [List.countP_cons, List.countP_cons]
  by_cases hx : x = n
  ·subst hx
   have := hle l
   rw [hm]
   simp at this ⊢
   omega
  ·have := ih (by simpa [Ne.symm hx] using hn)
   have e : (met ++ [n]).contains x = met.contains x := by simp [hx]
   rw [e]
   omega
theorem flds_mem {su : List SuT} {n : List UInt8} {p : PaT} (h : p ∈ flds su n) : p.type.name ∈ cands su := by
 unfold flds at h
 split at h
 ·rename_i s hs
  have : s ∈ su := by
   clear h
   induction su with
   | nil => cases hs
   | cons x l ih =>
    rw [atN] at hs
    split at hs
    ·obtain rfl := Option.some.inj hs; exact List.mem_cons_self
    ·exact List.mem_cons_of_mem _ (ih hs)
  exact List.mem_flatMap.2 ⟨s, this, List.mem_map.2 ⟨p, h, rfl⟩⟩
 ·cases h
theorem rchN_more (su : List SuT) : ∀ (k : Nat) (met : List (List UInt8)) (n : List UInt8), ∃ J, rchN su k met n = met ++ J
 | 0, met, _ => ⟨[], by simp [rchN]⟩
 | k + 1, met, n => by
  rw [rchN]
  generalize flds su n = l
  induction l generalizing met with
  | nil => exact ⟨[], by simp⟩
  | cons p l ih =>
   rw [List.foldl_cons]
   obtain ⟨J, hJ⟩ := ih (rchF (rchN su k) met p)
   rw [hJ]
   unfold rchF
   split
   ·obtain ⟨J2, h2⟩ := rchN_more su k (met ++ [p.type.name]) p.type.name
    rw [h2]
    exact ⟨[p.type.name] ++ J2 ++ J, by simp⟩
   ·exact ⟨J, rfl⟩
theorem miss_app (su : List SuT) (met J : List (List UInt8)) : missC su (met ++ J) ≤ missC su met := List.countP_mono_left fun y _ hy => by simp at hy ⊢; exact hy.1
structure RcSt where
 i : Nat
 met : List (List UInt8)
 J : List (List V)
theorem fit_meM (met : List (List UInt8)) (n m : Nat) : (meM met).all (fit n m) = true := by
 unfold meM
 simp only [List.all_cons, List.all_nil, Bool.and_true]
 show fitL n m _ = true
 rw [fitL_iff]
 intro j hj
 simp [fit]
section
variable {E : Tenv} {c s f : Nat} {xx yy : V}
set_option maxHeartbeats 4000000 in
theorem reaches_gt (hT : EnvT E.su E.fu) : ∀ (k : Nat) (met : List (List UInt8)) (n : List UInt8) (B : List (List V)) (T : List (Nat × Nat)) (m : Nat), missC E.su met ≤ k → HAt B c s f xx yy E → B[m]? = some (meM met) → c ≠ m ∧ s ≠ m ∧ f ≠ m →
 AFn Tryz.prog TabI 65 [.ptr c 0, .d (.str n), .mp m] ⟨B, T⟩ fun _ S' => S' = ⟨B.set m (meM (rchN E.su (k + 1) met n)), T⟩ := by
 intro k
 induction k using Nat.strongRecOn with
 | _ k ihk =>
 intro met n B T m hmk hK hm hne
 obtain ⟨N, hn⟩ : ∃ N, B.length = N := ⟨_, rfl⟩
 have hi : c < N := by rw [← hn]; exact hK.lt.1
 have hml : m < N := by rw [← hn]; exact (List.getElem?_eq_some_iff.1 hm).1
 have hb := hK.c
 have hs := hK.lookS n false [] T
 rw [List.append_nil] at hs
 have hset : B.set m (meM met) = B := set_self _ _ _ hm
 generalize hfin : rchN E.su (k + 1) met n = fin
 rw [rchN] at hfin
 cases h1 : atN SuT.name E.su n with
 | none =>
  rw [h1] at hs
  simp only [Go.Ab.lookV, Option.map_none, suZ, Bool.false_eq_true, if_false] at hs
  have hf : flds E.su n = [] := by unfold flds; rw [h1]
  rw [hf] at hfin
  have hfin : met = fin := hfin
  refine b65.go 160 rfl fun hsm => ?_
  simp only [smw] at hsm
  simp only [W, seval, c65, mpw, hn, hi, hb, hs, opFieldV, fty67]
  refine ARun.loopW (fun _ : Unit => (envS 43 [(16, .d (.int .i64 0)), (15, .d (.int .i64 0))], ⟨B, T⟩)) (fun _ => True) (fun _ => 0) () trivial ?_ rfl ?_
  ·skip
   refine Agree.env _ ?_
   simp only [agw, seval]
  intro _ _ _
  refine ARun.go 60 ?_
  simp only [W, seval, c65, decide_eq_false (show ¬ ((0 : Int) < 0) by decide)]
  refine ARun.fin Tryz.func65 rfl (Left.none ?_)
  rw [← hfin, hset]
 | some st =>
  rw [h1] at hs
  simp only [Go.Ab.lookV, Option.map_some, suV, Bool.false_eq_true, if_false] at hs
  have hf : flds E.su n = st.fields := by unfold flds; rw [h1]
  have hmem : ∀ p ∈ st.fields, p.type.name ∈ cands E.su := fun p hp => flds_mem (n := n) (by rw [hf]; exact hp)
  have hlen : st.fields.length ≤ 60000 := (hT.fl st (atN_mem _ h1)).1
  rw [hf] at hfin
  refine b65.go 160 rfl fun hsm => ?_
  simp only [smw] at hsm
  simp only [W, seval, c65, mpw, hn, hi, hb, hs, opFieldV, fty67]
  refine ARun.loopW (fun a : RcSt => (envS 43 [(0, .ptr c 0), (2, .mp m), (14, .d (.sl (st.fields.map paD))), (15, .d (.int .i64 (st.fields.length : Int))), (16, .d (.int .i64 (a.i : Int)))], ⟨B.set m (meM a.met) ++ a.J, T⟩)) (fun a => a.i ≤ st.fields.length ∧ (st.fields.drop a.i).foldl (rchF (rchN E.su k)) a.met = fin ∧ missC E.su a.met ≤ k) (fun a => st.fields.length - a.i) ⟨0, met, []⟩ ⟨Nat.zero_le _, hfin, hmk⟩ ?_ (by rw [List.append_nil, hset]) ?_
  ·skip
   refine Agree.env _ ?_
   simp only [agw, seval]
  rintro ⟨i, mt, J⟩ ⟨h2, h3, h4⟩ ih
  dsimp only at h2 h3 h4 ih ⊢
  by_cases hlt : i < st.fields.length
  case neg =>
   have e2 : decide ((i : Int) < (st.fields.length : Int)) = false := decide_eq_false (by omega)
   rw [List.drop_eq_nil_of_le (by omega)] at h3
   have h3 : mt = fin := h3
   refine ARun.go 60 ?_
   simp only [W, seval, c65, e2]
   refine ARun.fin Tryz.func65 rfl (Left.set (fit_meM _ _ _) ?_)
   rw [h3]
  have e2 : decide ((i : Int) < (st.fields.length : Int)) = true := decide_eq_true (by omega)
  have hwi := wrap_in ((i : Int) + 1) (by omega)
  have hltI : (i : Int) < (st.fields.length : Int) := by omega
  obtain ⟨p, hp⟩ : ∃ p, st.fields[i] = p := ⟨_, rfl⟩
  have hg : (st.fields.map paD)[i]? = some (paD p) := by rw [List.getElem?_map, List.getElem?_eq_getElem hlt, hp]; rfl
  rw [paD_eq] at hg
  rw [List.drop_eq_getElem_cons hlt, hp, List.foldl_cons] at h3
  obtain ⟨BJ, hBJ⟩ : ∃ BJ, BJ = B.set m (meM mt) ++ J := ⟨_, rfl⟩
  obtain ⟨L, hL⟩ : ∃ L, BJ.length = L := ⟨_, rfl⟩
  rw [← hBJ]
  have hmB : BJ[m]? = some (meM mt) := by rw [hBJ, List.getElem?_append_left (by rw [List.length_set]; omega), List.getElem?_set_self (by omega)]
  have hmL : m < L := by rw [← hL]; exact (List.getElem?_eq_some_iff.1 hmB).1
  obtain ⟨row, hrow⟩ : ∃ row, row = [V.d (.str p.name), .d (.int .i64 p.type.kind), .d (.str p.type.name), .d (.sl (p.type.elem.map tyD))] := ⟨_, rfl⟩
  cases h7 : decide (p.type.kind = 7)
  case false =>
   have hF : rchF (rchN E.su k) mt p = mt := by unfold rchF; rw [h7, Bool.false_and]; rfl
   rw [hF] at h3
   refine ARun.go 160 ?_
   simp only [W, seval, c65, mpw, e2, hg, hltI, hlt, hL, h7, hwi]
   refine ih ⟨i + 1, mt, J ++ [row]⟩ ⟨hlt, h3, h4⟩ (by dsimp only; omega) _ _ ?_ (by rw [hBJ, List.append_assoc, ← hrow])
   refine Agree.env _ ?_
   simp only [agw, seval]
  have hlk : ∀ (J2 : List (List V)), opLookup Tryz.prog ⟨BJ ++ J2, T⟩ 120 (.mp m) (.d (.str p.type.name)) false = some (.d (.bool (mt.contains p.type.name))) := fun J2 => lookM (by rw [bx_old (by omega)]; exact hmB) _
  cases hc : mt.contains p.type.name
  case true =>
   have hF : rchF (rchN E.su k) mt p = mt := by unfold rchF; rw [hc]; simp
   rw [hF] at h3
   rw [hc] at hlk
   refine ARun.go 160 ?_
   simp only [W, seval, c65, mpw, e2, hg, hltI, hlt, hL, h7, hwi, hlk]
   refine ih ⟨i + 1, mt, J ++ [row]⟩ ⟨hlt, h3, h4⟩ (by dsimp only; omega) _ _ ?_ (by rw [hBJ, List.append_assoc, ← hrow])
   refine Agree.env _ ?_
   simp only [agw, seval]
  have hpm := hmem p (hp ▸ List.getElem_mem hlt)
  have hms := miss_lt hpm hc
  have hF : rchF (rchN E.su k) mt p = rchN E.su k (mt ++ [p.type.name]) p.type.name := by unfold rchF; rw [hc, h7]; rfl
  rw [hF] at h3
  rw [hc] at hlk
  have hst : ∀ (X : List V) (J2 : List (List V)), (BJ ++ J2).set m X = B.set m X ++ (J ++ J2) := fun X J2 => by
   rw [hBJ, List.append_assoc, List.set_append_left _ _ (by rw [List.length_set]; omega), List.set_set]
  obtain ⟨BM, hBM⟩ : ∃ BM, BM = B.set m (meM (mt ++ [p.type.name])) ++ J := ⟨_, rfl⟩
  have hBL : BM.length = L := by rw [hBM, ← hL, hBJ]; simp
  have hpt : ∀ (J2 : List (List V)), opMapSet Tryz.prog ⟨BJ ++ J2, T⟩ 120 (.mp m) (.d (.str p.type.name)) (.d (.bool true)) = some (.undef, ⟨BM ++ J2, T⟩) := fun J2 => by
   rw [putM (by rw [bx_old (by omega)]; exact hmB) hc, hst, hBM, List.append_assoc]
  obtain ⟨k', rfl⟩ : ∃ k', k = k' + 1 := ⟨k - 1, by omega⟩
  have hold : ∀ q, q ≠ m → q < N → (BM ++ [row])[q]? = B[q]? := fun q h1 h2 => by
   have := hK.lt
   rw [bx_old (by rw [hBM, List.length_append, List.length_set]; omega), hBM, List.getElem?_append_left (by rw [List.length_set]; omega), List.getElem?_set_ne (Ne.symm h1)]
  have hlt4 := hK.lt
  obtain ⟨d1, d2, d3⟩ := hne
  have hcall := ihk k' (by omega) (mt ++ [p.type.name]) p.type.name (BM ++ [row]) T m (by omega) (hK.keep (hold _ d1 (by omega)) (hold _ d2 (by omega)) (hold _ d3 (by omega))) (by
   rw [bx_old (by omega), hBM, List.getElem?_append_left (by rw [List.length_set]; omega), List.getElem?_set_self (by omega)]) ⟨d1, d2, d3⟩
  have hrm : missC E.su (rchN E.su (k' + 1) (mt ++ [p.type.name]) p.type.name) ≤ k' + 1 := by
   obtain ⟨J2, e⟩ := rchN_more E.su (k' + 1) (mt ++ [p.type.name]) p.type.name
   rw [e]
   have := miss_app E.su (mt ++ [p.type.name]) J2
   omega
  rw [hrow] at hcall
  refine ARun.go 160 ?_
  simp only [W, seval, c65, mpw, e2, hg, hltI, hlt, hL, hBL, h7, hlk, hpt]
  refine callS_fn hcall ?_
  rintro v _ rfl
  refine ARun.go 60 ?_
  simp only [W, seval, c65, hwi]
  refine ih ⟨i + 1, rchN E.su (k' + 1) (mt ++ [p.type.name]) p.type.name, J ++ [row]⟩ ⟨hlt, h3, hrm⟩ (by dsimp only; omega) _ _ ?_ ?_
  ·skip
   refine Agree.env _ ?_
   simp only [agw, seval]
  ·rw [← hrow, hBM, List.append_assoc, List.set_append_left _ _ (by rw [List.length_set]; omega), List.set_set]
end
def c23 := by
 have c := KK_of Tryz.f23 (by conv => lhs; cbv)
 dsimp only [KK, KxP, doO, opO, List.map_cons, List.map_nil, List.toList_toArray] at c
 exact c
theorem b23 : FnIs Tryz.prog 23 Tryz.f23 96 := ⟨Tryz.func23, by kernel_rfl⟩
def c67 := by
 have c := KK_of Tryz.f67 (by conv => lhs; cbv)
 dsimp only [KK, KxP, doO, opO, List.map_cons, List.map_nil, List.toList_toArray] at c
 exact c
theorem b67 : FnIs Tryz.prog 67 Tryz.f67 9 := ⟨Tryz.func67, by kernel_rfl⟩
def c69 := by
 have c := KK_of Tryz.f69 (by conv => lhs; cbv)
 dsimp only [KK, KxP, doO, opO, List.map_cons, List.map_nil, List.toList_toArray] at c
 exact c
theorem b69 : FnIs Tryz.prog 69 Tryz.f69 16 := ⟨Tryz.func69, by kernel_rfl⟩
def c71 := by
 have c := KK_of Tryz.f71 (by conv => lhs; cbv)
 dsimp only [KK, KxP, doO, opO, List.map_cons, List.map_nil, List.toList_toArray] at c
 exact c
theorem b71 : FnIs Tryz.prog 71 Tryz.f71 8 := ⟨Tryz.func71, by kernel_rfl⟩
section
variable {E : Tenv} {c s f : Nat} {xx yy : V} {B : List (List V)} {T : List (Nat × Nat)}
theorem heads1_gt (h : HAt B c s f xx yy E) {N : Nat} (hN : B[N]? = some [.ptr c 0]) {p : PaT} (hp : TW p.type) : AFn Tryz.prog TabI 67 [paV p, .ptr N 0] ⟨B, T⟩ (Same (.d (.bool (!standS E.su p.type))) ⟨B, T⟩) := by
 obtain ⟨L, hn⟩ : ∃ L, B.length = L := ⟨_, rfl⟩
 have hNl : N < L := by rw [← hn]; exact (List.getElem?_eq_some_iff.1 hN).1
 have hst := fun J => stands_ht (T := T) hp (h.more J)
 unfold tyV at hst
 unfold paV
 refine b67.go 60 rfl fun _ => ?_
 simp only [W, seval, c67, hn, hN, hNl]
 refine callS_fn (hst _) ?_
 rintro _ _ ⟨rfl, rfl⟩
 refine ARun.go 60 ?_
 simp only [W, seval, c67]
 refine ARun.ret Tryz.func67 rfl (Left.box ?_)
 exact ⟨rfl, rfl⟩
theorem heads3_gt (h : HAt B c s f xx yy E) {N : Nat} (hN : B[N]? = some [.ptr c 0]) {t : TyT} (hp : TW t) : AFn Tryz.prog TabI 71 [tyV t, .ptr N 0] ⟨B, T⟩ (Same (.d (.bool (!standS E.su t))) ⟨B, T⟩) := by
 obtain ⟨L, hn⟩ : ∃ L, B.length = L := ⟨_, rfl⟩
 have hNl : N < L := by rw [← hn]; exact (List.getElem?_eq_some_iff.1 hN).1
 have hst := fun J => stands_ht (T := T) hp (h.more J)
 unfold tyV at hst ⊢
 refine b71.go 60 rfl fun _ => ?_
 simp only [W, seval, c71, hn, hN, hNl]
 refine callS_fn (hst _) ?_
 rintro _ _ ⟨rfl, rfl⟩
 refine ARun.go 60 ?_
 simp only [W, seval, c71]
 refine ARun.ret Tryz.func71 rfl (Left.box ?_)
 exact ⟨rfl, rfl⟩
theorem heads2_gt (h : HAt B c s f xx yy E) {N : Nat} (hN : B[N]? = some [.ptr c 0]) {p : PaT} (hp : TW p.type) : AFn Tryz.prog TabI 69 [paV p, .ptr N 0] ⟨B, T⟩ (Same (.d (.bool (!(standS E.su p.type && freeS E.su E.fu p.name)))) ⟨B, T⟩) := by
 obtain ⟨L, hn⟩ : ∃ L, B.length = L := ⟨_, rfl⟩
 have hNl : N < L := by rw [← hn]; exact (List.getElem?_eq_some_iff.1 hN).1
 have hst := fun J => stands_ht (T := T) hp (h.more J)
 have hfr := fun J => free_ht (T := T) p.name (h.more J)
 unfold tyV at hst
 unfold paV
 refine b69.go 60 rfl fun _ => ?_
 simp only [W, seval, c69, hn, hN, hNl]
 refine callS_fn (hst _) ?_
 rintro _ _ ⟨rfl, rfl⟩
 cases hs : standS E.su p.type
 ·refine ARun.go 60 ?_
  simp only [W, seval, c69, hn, hN, hNl, Bool.not_false]
  refine ARun.ret Tryz.func69 rfl (Left.box ?_)
  exact ⟨rfl, rfl⟩
 ·refine ARun.go 60 ?_
  simp only [W, seval, c69, hn, hN, hNl, Bool.not_true]
  refine callS_fn (hfr _) ?_
  rintro _ _ ⟨rfl, rfl⟩
  refine ARun.go 60 ?_
  simp only [W, seval, c69]
  refine ARun.ret Tryz.func69 rfl (Left.box ?_)
  exact ⟨rfl, rfl⟩
theorem suM_snoc {l : List SuT} {x : SuT} (h : atN SuT.name l x.name = none) : kset (l.map SuT.name) (l.map suV) x.name (suV x) = suM (l ++ [x]) := by
 unfold kset suM
 rw [kidx_none _ _ _ h]
 simp
theorem fuM_snoc {l : List FuT} {x : FuT} (h : atN FuT.name l x.name = none) : kset (l.map FuT.name) (l.map fuV) x.name (fuV x) = fuM (l ++ [x]) := by
 unfold kset fuM
 rw [kidx_none _ _ _ h]
 simp
theorem atN_has {α : Type} (nm : α → List UInt8) (n : List UInt8) : ∀ l : List α, (atN nm l n).isNone = !(l.map nm).contains n
 | [] => rfl
 | x :: l => by
  rw [atN]
  by_cases h : nm x = n
  ·rw [if_pos h]; simp [h]
  ·rw [if_neg h, atN_has nm n l]
   simp [Ne.symm h]
theorem free_diff (su : List SuT) (fu : List FuT) (n : List UInt8) : freeS su fu n = (!(su.map SuT.name ++ fu.map FuT.name).contains n && !(n == [95])) := by
 unfold freeS
 rw [atN_has, atN_has]
 congr 1
 simp
def lpN (su : List SuT) (n : List UInt8) : Bool := (rchN su ((cands su).length + 1) [] n).contains n
def headT (su : List SuT) (s : SuT) : Bool := !lpN su s.name && s.fields.all fun p => standS su p.type
def headsG (su : List SuT) (fu : List FuT) : Bool := diffN [] (su.map SuT.name ++ fu.map FuT.name) && (su.all (headT su) && fu.all (headF su fu))
structure HdSt where
 i : Nat
 J : List (List V)
def heG (r : Bool) (su : List SuT) (fu : List FuT) (s f : Nat) (B : List (List V)) (T : List (Nat × Nat)) (v : V) (S' : Mem) : Prop :=
 v = .d (.bool r) ∧ ∃ su' fu', S' = ⟨(B.set s (suM su')).set f (fuM fu'), T⟩ ∧ (r = true → su' = su ∧ fu' = fu)
theorem fit_suM (l : List SuT) (n m : Nat) : (suM l).all (fit n m) = true := by
 unfold suM
 simp only [List.all_cons, List.all_nil, Bool.and_true]
 show fitL n m _ = true
 rw [fitL_iff]
 intro j hj
 simp [suV, fit, fitL]
theorem fit_fuM (l : List FuT) (n m : Nat) : (fuM l).all (fit n m) = true := by
 unfold fuM
 simp only [List.all_cons, List.all_nil, Bool.and_true]
 show fitL n m _ = true
 rw [fitL_iff]
 intro j hj
 simp [fuV, fit, fitL]
set_option maxHeartbeats 8000000 in
theorem heads_gt {su : List SuT} {fu : List FuT} (hT : EnvT su fu) (h : HAt B c s f xx yy ⟨[], [], []⟩) (hne : c ≠ s ∧ c ≠ f ∧ s ≠ f) : AFn Tryz.prog TabI 23 [.ptr c 0, prV ⟨su, fu⟩] ⟨B, T⟩ (heG (headsG su fu) su fu s f B T) := by
 obtain ⟨N, hn⟩ : ∃ N, B.length = N := ⟨_, rfl⟩
 obtain ⟨n1, n2, n3⟩ := h.lt
 obtain ⟨d1, d2, d4⟩ := hne
 have hsl := hT.su
 have hfl := hT.fu
 unfold prV
 generalize hres : headsG su fu = r
 unfold headsG at hres
 have hleft : ∀ (J : List (List V)) (v : V) (su' : List SuT) (fu' : List FuT), wk B.length T.length v = v → v = .d (.bool r) → (r = true → su' = su ∧ fu' = fu) → Go.Ab.Left ⟨B, T⟩ (heG r su fu s f B T) v ⟨(B.set s (suM su')).set f (fuM fu') ++ J, T⟩ := fun J v su' fu' hw hv hr => by
  have := Left.of (B := B) (J := J) (T := T) (K := []) (L := (B.set s (suM su')).set f (fuM fu')) (R := heG r su fu s f B T) (v := v) (by simp) rfl (((FitL.refl _ _ _).set s (fit_suM _ _ _)).set f (fit_fuM _ _ _)) (by rw [hw]; exact ⟨hv, su', fu', rfl, hr⟩)
  rwa [List.append_nil] at this
 have hm0 : (B.set s (suM [])).set f (fuM []) = B := by
  rw [set_self _ _ _ h.s, set_self _ _ _ h.f]
 have hK : ∀ (su' : List SuT) (fu' : List FuT) (J : List (List V)), HAt ((B.set s (suM su')).set f (fuM fu') ++ J) c s f xx yy ⟨su', fu', []⟩ := fun su' fu' J => by
  refine HAt.more ⟨?_, ?_, ?_⟩ J
  ·rw [List.getElem?_set_ne (Ne.symm d2), List.getElem?_set_ne (Ne.symm d1)]; exact h.c
  ·rw [List.getElem?_set_ne (Ne.symm d4), List.getElem?_set_self n2]
  ·rw [List.getElem?_set_self (by rw [List.length_set]; exact n3)]
 refine b23.go 160 rfl fun hsm => ?_
 simp only [smw] at hsm
 simp only [W, seval, c23, hn]
 obtain ⟨prow, hprow⟩ : ∃ prow, prow = [V.d (.sl (su.map suD)), V.d (.sl (fu.map fuD))] := ⟨_, rfl⟩
 obtain ⟨dn, hdn⟩ : ∃ dn, diffN [] (su.map SuT.name ++ fu.map FuT.name) = dn := ⟨_, rfl⟩
 rw [hdn] at hres
 have hmem : ∀ (su' : List SuT) (fu' : List FuT) (J : List (List V)), ((B.set s (suM su')).set f (fuM fu') ++ ([.ptr c 0] :: prow :: J))[N]? = some [.ptr c 0] ∧ ((B.set s (suM su')).set f (fuM fu') ++ ([.ptr c 0] :: prow :: J))[N + 1]? = some prow := fun su' fu' J => by
  constructor
  ·rw [List.getElem?_append_right (by simp; omega)]; simp [hn]
  ·rw [List.getElem?_append_right (by simp; omega)]; simp [hn]
 refine ARun.loopW (fun a : HdSt => (envS 96 [(17, .d (.int .i64 (a.i : Int))), (16, .d (.int .i64 (su.length : Int))), (15, .d (.sl (su.map suD))), (3, .ptr (N + 1) 0), (2, .ptr N 0)], ⟨(B.set s (suM (su.take a.i))).set f (fuM []) ++ ([.ptr c 0] :: prow :: a.J), T⟩)) (fun a => a.i ≤ su.length ∧ diffN ((su.take a.i).map SuT.name) ((su.drop a.i).map SuT.name ++ fu.map FuT.name) = dn) (fun a => su.length - a.i) ⟨0, []⟩ ⟨Nat.zero_le _, hdn⟩ ?_ (by rw [hprow]; simp only [List.take_zero, hm0]) ?_
 ·skip
  refine Agree.env _ ?_
  simp only [agw, seval]
 rintro ⟨i, J⟩ ⟨h2, h3⟩ ih
 dsimp only at h2 h3 ih ⊢
 by_cases hlt : i < su.length
 case pos =>
  have e2 : decide ((i : Int) < (su.length : Int)) = true := decide_eq_true (by omega)
  have hwi := wrap_in ((i : Int) + 1) (by omega)
  have hltI : (i : Int) < (su.length : Int) := by omega
  obtain ⟨x, hx⟩ : ∃ x, su[i] = x := ⟨_, rfl⟩
  have hg : (su.map suD)[i]? = some [.str x.name, .sl (x.fields.map paD)] := by rw [List.getElem?_map, List.getElem?_eq_getElem hlt, hx]; rfl
  obtain ⟨row, hrow⟩ : ∃ row, row = [V.d (.str x.name), V.d (.sl (x.fields.map paD))] := ⟨_, rfl⟩
  obtain ⟨h4, h5⟩ := hmem (su.take i) [] J
  have hk := hK (su.take i) [] ([.ptr c 0] :: prow :: J)
  have hput : ∀ y, (((B.set s (suM (su.take i))).set f (fuM []) ++ ([.ptr c 0] :: prow :: J)) ++ [row]).set s (suM y) = (B.set s (suM y)).set f (fuM []) ++ ([.ptr c 0] :: prow :: (J ++ [row])) := fun y => by
   rw [List.append_assoc, List.set_append_left _ _ (by simp; omega), List.set_comm _ _ (Ne.symm d4), List.set_set]
   rfl
  obtain ⟨BJ, hBJ⟩ : ∃ BJ, BJ = (B.set s (suM (su.take i))).set f (fuM []) ++ ([.ptr c 0] :: prow :: J) := ⟨_, rfl⟩
  rw [← hBJ] at h4 h5 hk hput ⊢
  obtain ⟨L, hL⟩ : ∃ L, BJ.length = L := ⟨_, rfl⟩
  have hNL : N < L := by rw [← hL]; exact (List.getElem?_eq_some_iff.1 h4).1
  have hfr := free_ht (T := T) x.name (hk.more [row])
  rw [List.drop_eq_getElem_cons hlt, hx, List.map_cons, List.cons_append, diffN_cons] at h3
  have hfd := free_diff (su.take i) [] x.name
  rw [List.map_nil, List.append_nil] at hfd
  rw [← hfd] at h3
  dsimp only at hfr
  rw [hrow] at hfr
  refine ARun.go 160 ?_
  simp only [W, seval, c23, e2, hg, hltI, hlt, hL, h4, hNL]
  refine callS_fn hfr ?_
  rintro _ _ ⟨rfl, rfl⟩
  cases hfv : freeS (su.take i) [] x.name
  ·rw [hfv, Bool.false_and] at h3
   rw [← h3, Bool.false_and] at hres
   subst hres
   refine ARun.go 60 ?_
   simp only [W, seval, c23]
   rw [hBJ, List.append_assoc]
   refine ARun.ret Tryz.func23 rfl (hleft _ _ _ _ rfl rfl (fun h => by cases h))
  ·rw [hfv, Bool.true_and] at h3
   have hat : atN SuT.name (su.take i) x.name = none := by
    unfold freeS at hfv
    simp only [Bool.and_eq_true] at hfv
    simpa using hfv.1.1
   have hcb := hk.c
   have hcL : c < L := by rw [← hL]; exact hk.lt.1
   have hsb := (hk.more [row]).s
   have hset : opMapSet Tryz.prog ⟨BJ ++ [row], T⟩ 60 (.mp s) (.d (.str x.name)) (.agg [V.d (.str x.name), V.d (.sl (x.fields.map paD))]) = some (.undef, ⟨(B.set s (suM (su.take (i + 1)))).set f (fuM []) ++ ([.ptr c 0] :: prow :: (J ++ [row])), T⟩) := by
    unfold opMapSet
    unfold suM at hsb
    simp only [mapSu, hsb]
    rw [List.take_succ_eq_append_getElem hlt, hx, ← hput, ← suM_snoc (l := su.take i) (x := x) hat]
    rfl
   rw [hrow] at hset
   refine ARun.go 60 ?_
   simp only [W, seval, c23]
   refine ARun.drawX 7 [] [N, c, L] (by kernel_rfl) (by kernel_rfl) (by kernel_rfl) (by kernel_rfl) (by kernel_rfl) (by kernel_rfl) (by kernel_rfl) ?_
   simp (maxSteps := 4000000) only [W, seval, c23, xw, mpw, hL, h4, hNL, hcb, hcL, hset]
   refine ARun.go 60 ?_
   simp only [W, seval, c23, hwi]
   refine ih ⟨i + 1, J ++ [row]⟩ ⟨hlt, ?_⟩ (by dsimp only; omega) _ _ ?_ (by rw [hrow])
   ·show diffN ((su.take (i + 1)).map SuT.name) ((su.drop (i + 1)).map SuT.name ++ fu.map FuT.name) = dn
    rw [List.take_succ_eq_append_getElem hlt, hx, List.map_append]
    exact h3
   ·skip
    refine Agree.env _ ?_
    simp only [agw, seval]
 have e2 : decide ((i : Int) < (su.length : Int)) = false := decide_eq_false (by omega)
 obtain rfl : i = su.length := by omega
 rw [List.take_length, List.drop_eq_nil_of_le (Nat.le_refl _), List.map_nil, List.nil_append] at h3
 rw [List.take_length]
 clear ih h2
 obtain ⟨h4, h5⟩ := hmem su [] J
 obtain ⟨BJ, hBJ⟩ : ∃ BJ, BJ = (B.set s (suM su)).set f (fuM []) ++ ([.ptr c 0] :: prow :: J) := ⟨_, rfl⟩
 rw [← hBJ] at h4 h5 ⊢
 rw [hprow] at h5
 refine ARun.go 160 ?_
 simp only [W, seval, c23, e2, h5]
 clear h4 h5
 refine ARun.loopW (fun a : HdSt => (envS 96 [(37, .d (.int .i64 (a.i : Int))), (36, .d (.int .i64 (fu.length : Int))), (35, .d (.sl (fu.map fuD))), (3, .ptr (N + 1) 0), (2, .ptr N 0)], ⟨(B.set s (suM su)).set f (fuM (fu.take a.i)) ++ ([.ptr c 0] :: prow :: a.J), T⟩)) (fun a => a.i ≤ fu.length ∧ diffN (su.map SuT.name ++ (fu.take a.i).map FuT.name) ((fu.drop a.i).map FuT.name) = dn) (fun a => fu.length - a.i) ⟨0, J⟩ ⟨Nat.zero_le _, by simpa using h3⟩ ?_ (by rw [hBJ]; simp only [List.take_zero]) ?_
 ·skip
  refine Agree.env _ ?_
  simp only [agw, seval]
 clear h3 hBJ BJ J
 rintro ⟨i, J⟩ ⟨h2, h3⟩ ih
 dsimp only at h2 h3 ih ⊢
 by_cases hlt : i < fu.length
 case pos =>
  have e2 : decide ((i : Int) < (fu.length : Int)) = true := decide_eq_true (by omega)
  have hwi := wrap_in ((i : Int) + 1) (by omega)
  have hltI : (i : Int) < (fu.length : Int) := by omega
  obtain ⟨x, hx⟩ : ∃ x, fu[i] = x := ⟨_, rfl⟩
  have hg : (fu.map fuD)[i]? = some [.str x.name, .sl (x.params.map paD), .sl (x.results.map tyD), .sl (x.body.map stD)] := by rw [List.getElem?_map, List.getElem?_eq_getElem hlt, hx]; rfl
  obtain ⟨row, hrow⟩ : ∃ row, row = [V.d (.str x.name), V.d (.sl (x.params.map paD)), V.d (.sl (x.results.map tyD)), V.d (.sl (x.body.map stD))] := ⟨_, rfl⟩
  obtain ⟨h4, h5⟩ := hmem su (fu.take i) J
  have hk := hK su (fu.take i) ([.ptr c 0] :: prow :: J)
  have hput : ∀ y, (((B.set s (suM su)).set f (fuM (fu.take i)) ++ ([.ptr c 0] :: prow :: J)) ++ [row]).set f (fuM y) = (B.set s (suM su)).set f (fuM y) ++ ([.ptr c 0] :: prow :: (J ++ [row])) := fun y => by
   rw [List.append_assoc, List.set_append_left _ _ (by simp; omega), List.set_set]
   rfl
  obtain ⟨BJ, hBJ⟩ : ∃ BJ, BJ = (B.set s (suM su)).set f (fuM (fu.take i)) ++ ([.ptr c 0] :: prow :: J) := ⟨_, rfl⟩
  rw [← hBJ] at h4 h5 hk hput ⊢
  obtain ⟨L, hL⟩ : ∃ L, BJ.length = L := ⟨_, rfl⟩
  have hNL : N < L := by rw [← hL]; exact (List.getElem?_eq_some_iff.1 h4).1
  have hfr := free_ht (T := T) x.name (hk.more [row])
  rw [List.drop_eq_getElem_cons hlt, hx, List.map_cons, diffN_cons] at h3
  have hfd := free_diff su (fu.take i) x.name
  rw [← hfd] at h3
  dsimp only at hfr
  rw [hrow] at hfr
  refine ARun.go 160 ?_
  simp only [W, seval, c23, e2, hg, hltI, hlt, hL, h4, hNL]
  refine callS_fn hfr ?_
  rintro _ _ ⟨rfl, rfl⟩
  cases hfv : freeS su (fu.take i) x.name
  ·rw [hfv, Bool.false_and] at h3
   rw [← h3, Bool.false_and] at hres
   subst hres
   refine ARun.go 60 ?_
   simp only [W, seval, c23]
   rw [hBJ, List.append_assoc]
   refine ARun.ret Tryz.func23 rfl (hleft _ _ _ _ rfl rfl (fun h => by cases h))
  ·rw [hfv, Bool.true_and] at h3
   have hat : atN FuT.name (fu.take i) x.name = none := by
    unfold freeS at hfv
    simp only [Bool.and_eq_true] at hfv
    simpa using hfv.1.2
   have hcb := hk.c
   have hcL : c < L := by rw [← hL]; exact hk.lt.1
   have hsb := (hk.more [row]).f
   have hset : opMapSet Tryz.prog ⟨BJ ++ [row], T⟩ 61 (.mp f) (.d (.str x.name)) (.agg row) = some (.undef, ⟨(B.set s (suM su)).set f (fuM (fu.take (i + 1))) ++ ([.ptr c 0] :: prow :: (J ++ [row])), T⟩) := by
    unfold opMapSet
    unfold fuM at hsb
    simp only [mapFu, hsb]
    rw [List.take_succ_eq_append_getElem hlt, hx, ← hput, ← fuM_snoc (l := fu.take i) (x := x) hat, hrow]
    rfl
   rw [hrow] at hset
   refine ARun.go 60 ?_
   simp only [W, seval, c23]
   refine ARun.drawX 7 [] [N, c, L] (by kernel_rfl) (by kernel_rfl) (by kernel_rfl) (by kernel_rfl) (by kernel_rfl) (by kernel_rfl) (by kernel_rfl) ?_
   simp (maxSteps := 4000000) only [W, seval, c23, xw, mpw, hL, h4, hNL, hcb, hcL, hset]
   refine ARun.go 60 ?_
   simp only [W, seval, c23, hwi]
   refine ih ⟨i + 1, J ++ [row]⟩ ⟨hlt, ?_⟩ (by dsimp only; omega) _ _ ?_ (by rw [hrow])
   ·show diffN (su.map SuT.name ++ (fu.take (i + 1)).map FuT.name) ((fu.drop (i + 1)).map FuT.name) = dn
    rw [List.take_succ_eq_append_getElem hlt, hx, List.map_append, ← List.append_assoc]
    exact h3
   ·skip
    refine Agree.env _ ?_
    simp only [agw, seval]
 have e2 : decide ((i : Int) < (fu.length : Int)) = false := decide_eq_false (by omega)
 obtain rfl : i = fu.length := by omega
 rw [List.drop_eq_nil_of_le (Nat.le_refl _), List.map_nil, diffN_nil] at h3
 rw [List.take_length]
 clear ih h2
 rw [← h3, Bool.true_and] at hres
 clear h3 hdn dn
 obtain ⟨h4, h5⟩ := hmem su fu J
 obtain ⟨BJ, hBJ⟩ : ∃ BJ, BJ = (B.set s (suM su)).set f (fuM fu) ++ ([.ptr c 0] :: prow :: J) := ⟨_, rfl⟩
 rw [← hBJ] at h4 h5 ⊢
 rw [hprow] at h5
 refine ARun.go 160 ?_
 simp only [W, seval, c23, e2, h5]
 clear h4 h5
 refine ARun.loopW (fun a : HdSt => (envS 96 [(57, .d (.int .i64 (a.i : Int))), (56, .d (.int .i64 (su.length : Int))), (55, .d (.sl (su.map suD))), (3, .ptr (N + 1) 0), (2, .ptr N 0)], ⟨(B.set s (suM su)).set f (fuM fu) ++ ([.ptr c 0] :: prow :: a.J), T⟩)) (fun a => a.i ≤ su.length ∧ ((su.drop a.i).all (headT su) && fu.all (headF su fu)) = r) (fun a => su.length - a.i) ⟨0, J⟩ ⟨Nat.zero_le _, by simpa using hres⟩ ?_ (by rw [hBJ]) ?_
 ·skip
  refine Agree.env _ ?_
  simp only [agw, seval]
 clear hBJ BJ J hres e2
 rintro ⟨i, J⟩ ⟨h2, h3⟩ ih
 dsimp only at h2 h3 ih ⊢
 by_cases hlt : i < su.length
 case pos =>
  have e2 : decide ((i : Int) < (su.length : Int)) = true := decide_eq_true (by omega)
  have hwi := wrap_in ((i : Int) + 1) (by omega)
  have hltI : (i : Int) < (su.length : Int) := by omega
  obtain ⟨x, hx⟩ : ∃ x, su[i] = x := ⟨_, rfl⟩
  obtain ⟨hxl, hxt⟩ := hT.fl su[i] (List.getElem_mem hlt)
  rw [hx] at hxl hxt
  have hg : (su.map suD)[i]? = some [.str x.name, .sl (x.fields.map paD)] := by rw [List.getElem?_map, List.getElem?_eq_getElem hlt, hx]; rfl
  obtain ⟨row, hrow⟩ : ∃ row, row = [V.d (.str x.name), V.d (.sl (x.fields.map paD))] := ⟨_, rfl⟩
  obtain ⟨h4, h5⟩ := hmem su fu J
  have hk := hK su fu ([.ptr c 0] :: prow :: J)
  obtain ⟨BJ, hBJ⟩ : ∃ BJ, BJ = (B.set s (suM su)).set f (fuM fu) ++ ([.ptr c 0] :: prow :: J) := ⟨_, rfl⟩
  rw [← hBJ] at h4 h5 hk ⊢
  obtain ⟨L, hL⟩ : ∃ L, BJ.length = L := ⟨_, rfl⟩
  have hNL : N < L := by rw [← hL]; exact (List.getElem?_eq_some_iff.1 h4).1
  rw [List.drop_eq_getElem_cons hlt, hx, List.all_cons] at h3
  have hklt := hk.lt
  have hcall := reaches_gt (c := c) (s := s) (f := f) (xx := xx) (yy := yy) (E := ⟨su, fu, []⟩) hT (cands su).length [] x.name (BJ ++ [row, [.kvs [] []]]) T (L + 1) List.countP_le_length (hk.more _) (by rw [List.getElem?_append_right (by omega), hL]; simp [meM]) ⟨by omega, by omega, by omega⟩
  obtain ⟨M', hM'⟩ : ∃ M', M' = meM (rchN su ((cands su).length + 1) [] x.name) := ⟨_, rfl⟩
  dsimp only at hcall
  rw [← hM', List.set_append_right _ _ (by omega), show L + 1 - BJ.length = 1 by omega, List.set_cons_succ, List.set_cons_zero] at hcall
  have hlk : opLookup Tryz.prog ⟨BJ ++ [row, M'], T⟩ 120 (.mp (L + 1)) (.d (.str x.name)) false = some (.d (.bool (lpN su x.name))) := by
   rw [lookM (met := rchN su ((cands su).length + 1) [] x.name) (by rw [List.getElem?_append_right (by omega), show L + 1 - BJ.length = 1 by omega, hM']; rfl)]
   rfl
  rw [hrow] at hcall
  refine ARun.go 160 ?_
  simp only [W, seval, c23, mpw, e2, hg, hltI, hlt, hL, h4, hNL]
  refine callS_fn hcall ?_
  rintro v _ rfl
  cases hlp : lpN su x.name
  case true =>
   have hh : headT su x = false := by unfold headT; rw [hlp]; rfl
   rw [hh, Bool.false_and, Bool.false_and] at h3
   subst h3
   rw [hlp, hrow] at hlk
   refine ARun.go 160 ?_
   simp only [W, seval, c23, mpw, hL, hlk]
   rw [hBJ, List.append_assoc]
   refine ARun.ret Tryz.func23 rfl (hleft _ _ _ _ rfl rfl (fun h => by cases h))
  rw [hlp, hrow] at hlk
  have hcf := containsFunc_Param 67 [] [.ptr N 0] (fun _ : Unit => ⟨BJ ++ [row, M'], T⟩) (fun p s => (!standS su p.type, s)) (fun _ _ => ⟨rfl, rfl⟩) x.fields (by omega) () (good_of x.fields fun p hp => heads1_gt (E := ⟨su, fu, []⟩) (hk.more [row, M']) (by rw [bx_old (by omega)]; exact h4) (hxt p hp))
  rw [anyF_unit, hrow] at hcf
  have hh : headT su x = !(x.fields.any fun p => !standS su p.type) := by
   unfold headT
   rw [hlp, List.not_any_eq_all_not]
   simp
  rw [hh] at h3
  refine ARun.go 160 ?_
  simp only [W, seval, c23, mpw, hL, hlk]
  refine callS_fn hcf ?_
  rintro _ _ ⟨rfl, rfl⟩
  cases hany : x.fields.any fun p => !standS su p.type
  case true =>
   rw [hany, Bool.not_true, Bool.false_and, Bool.false_and] at h3
   subst h3
   refine ARun.go 160 ?_
   simp only [W, seval, c23]
   rw [hBJ, List.append_assoc]
   refine ARun.ret Tryz.func23 rfl (hleft _ _ _ _ rfl rfl (fun h => by cases h))
  rw [hany, Bool.not_false, Bool.true_and] at h3
  refine ARun.go 160 ?_
  simp only [W, seval, c23, hwi]
  refine ih ⟨i + 1, J ++ [row, M']⟩ ⟨hlt, h3⟩ (by dsimp only; omega) _ _ ?_ (by rw [hBJ, hrow]; simp only [List.append_assoc, List.cons_append])
  refine Agree.env _ ?_
  simp only [agw, seval]
 have e2 : decide ((i : Int) < (su.length : Int)) = false := decide_eq_false (by omega)
 obtain rfl : i = su.length := by omega
 rw [List.drop_eq_nil_of_le (Nat.le_refl _), List.all_nil, Bool.true_and] at h3
 clear ih h2
 obtain ⟨h4, h5⟩ := hmem su fu J
 obtain ⟨BJ, hBJ⟩ : ∃ BJ, BJ = (B.set s (suM su)).set f (fuM fu) ++ ([.ptr c 0] :: prow :: J) := ⟨_, rfl⟩
 rw [← hBJ] at h4 h5 ⊢
 rw [hprow] at h5
 refine ARun.go 160 ?_
 simp only [W, seval, c23, e2, h5]
 clear h4 h5
 refine ARun.loopW (fun a : HdSt => (envS 96 [(81, .d (.int .i64 (a.i : Int))), (80, .d (.int .i64 (fu.length : Int))), (79, .d (.sl (fu.map fuD))), (3, .ptr (N + 1) 0), (2, .ptr N 0)], ⟨(B.set s (suM su)).set f (fuM fu) ++ ([.ptr c 0] :: prow :: a.J), T⟩)) (fun a => a.i ≤ fu.length ∧ (fu.drop a.i).all (headF su fu) = r) (fun a => fu.length - a.i) ⟨0, J⟩ ⟨Nat.zero_le _, by simpa using h3⟩ ?_ (by rw [hBJ]) ?_
 ·skip
  refine Agree.env _ ?_
  simp only [agw, seval]
 clear hBJ BJ J h3 e2
 rintro ⟨i, J⟩ ⟨h2, h3⟩ ih
 dsimp only at h2 h3 ih ⊢
 by_cases hlt : i < fu.length
 case neg =>
  have e2 : decide ((i : Int) < (fu.length : Int)) = false := decide_eq_false (by omega)
  obtain rfl : i = fu.length := by omega
  rw [List.drop_eq_nil_of_le (Nat.le_refl _), List.all_nil] at h3
  subst h3
  refine ARun.go 160 ?_
  simp only [W, seval, c23, e2]
  refine ARun.ret Tryz.func23 rfl (hleft _ _ _ _ rfl rfl (fun _ => ⟨rfl, rfl⟩))
 have e2 : decide ((i : Int) < (fu.length : Int)) = true := decide_eq_true (by omega)
 have hwi := wrap_in ((i : Int) + 1) (by omega)
 have hltI : (i : Int) < (fu.length : Int) := by omega
 obtain ⟨x, hx⟩ : ∃ x, fu[i] = x := ⟨_, rfl⟩
 obtain ⟨hxl, hxr, hxt, hxu⟩ := hT.pa fu[i] (List.getElem_mem hlt)
 rw [hx] at hxl hxr hxt hxu
 have hg : (fu.map fuD)[i]? = some [.str x.name, .sl (x.params.map paD), .sl (x.results.map tyD), .sl (x.body.map stD)] := by rw [List.getElem?_map, List.getElem?_eq_getElem hlt, hx]; rfl
 obtain ⟨row, hrow⟩ : ∃ row, row = [V.d (.str x.name), V.d (.sl (x.params.map paD)), V.d (.sl (x.results.map tyD)), V.d (.sl (x.body.map stD))] := ⟨_, rfl⟩
 obtain ⟨h4, h5⟩ := hmem su fu J
 have hk := hK su fu ([.ptr c 0] :: prow :: J)
 obtain ⟨BJ, hBJ⟩ : ∃ BJ, BJ = (B.set s (suM su)).set f (fuM fu) ++ ([.ptr c 0] :: prow :: J) := ⟨_, rfl⟩
 rw [← hBJ] at h4 h5 hk ⊢
 obtain ⟨L, hL⟩ : ∃ L, BJ.length = L := ⟨_, rfl⟩
 have hNL : N < L := by rw [← hL]; exact (List.getElem?_eq_some_iff.1 h4).1
 rw [List.drop_eq_getElem_cons hlt, hx, List.all_cons] at h3
 have hcf := containsFunc_Param 69 [] [.ptr N 0] (fun _ : Unit => ⟨BJ ++ [row], T⟩) (fun p s => (!(standS su p.type && freeS su fu p.name), s)) (fun _ _ => ⟨rfl, rfl⟩) x.params (by omega) () (good_of x.params fun p hp => heads2_gt (E := ⟨su, fu, []⟩) (hk.more [row]) (by rw [bx_old (by omega)]; exact h4) (hxt p hp))
 have hcg := containsFunc_Type 71 [] [.ptr N 0] (fun _ : Unit => ⟨BJ ++ [row], T⟩) (fun t s => (!standS su t, s)) (fun _ _ => ⟨rfl, rfl⟩) x.results (by omega) () (good_of x.results fun t ht => heads3_gt (E := ⟨su, fu, []⟩) (hk.more [row]) (by rw [bx_old (by omega)]; exact h4) (hxu t ht))
 rw [anyF_unit, hrow] at hcf hcg
 have hh : headF su fu x = (!(x.params.any fun p => !(standS su p.type && freeS su fu p.name)) && !(x.results.any fun t => !standS su t)) := by
  unfold headF
  rw [List.not_any_eq_all_not, List.not_any_eq_all_not]
  simp
 rw [hh] at h3
 refine ARun.go 160 ?_
 simp only [W, seval, c23, e2, hg, hltI, hlt, hL, h4, hNL]
 refine callS_fn hcf ?_
 rintro _ _ ⟨rfl, rfl⟩
 cases hany : x.params.any fun p => !(standS su p.type && freeS su fu p.name)
 case true =>
  rw [hany, Bool.not_true, Bool.false_and, Bool.false_and] at h3
  subst h3
  refine ARun.go 160 ?_
  simp only [W, seval, c23, hL]
  rw [hBJ, List.append_assoc]
  refine ARun.ret Tryz.func23 rfl (hleft _ _ _ _ rfl rfl (fun h => by cases h))
 rw [hany, Bool.not_false, Bool.true_and] at h3
 refine ARun.go 160 ?_
 simp only [W, seval, c23, hL]
 refine callS_fn hcg ?_
 rintro _ _ ⟨rfl, rfl⟩
 cases hany2 : x.results.any fun t => !standS su t
 case true =>
  rw [hany2, Bool.not_true, Bool.false_and] at h3
  subst h3
  refine ARun.go 160 ?_
  simp only [W, seval, c23, hL]
  rw [hBJ, List.append_assoc]
  refine ARun.ret Tryz.func23 rfl (hleft _ _ _ _ rfl rfl (fun h => by cases h))
 rw [hany2, Bool.not_false, Bool.true_and] at h3
 refine ARun.go 160 ?_
 simp only [W, seval, c23, hL, hwi]
 refine ih ⟨i + 1, J ++ [row]⟩ ⟨hlt, h3⟩ (by dsimp only; omega) _ _ ?_ (by rw [hBJ, hrow]; simp only [List.append_assoc, List.cons_append])
 refine Agree.env _ ?_
 simp only [agw, seval]
end
end Go.Proofs.YtnfnbjjnjjdjdaaGreatDoor
namespace Go.Ab
open Go.RowKit Go.Av
set_option linter.unusedSimpArgs false
inductive Deep (n : Nat) (B : List (List V)) : V → D → Prop
 | d (x : D) : Deep n B (.d x) x
 | full (rows : List (List D)) : Deep n B (.sl rows .full) (.sl rows)
 | bx (j cap sz : Nat) (Y : List V) (rows : List (List D)) : n ≤ j → B[j]? = some Y → NoKv Y → 0 < sz → (∀ r ∈ rows, r.length = sz) → rows.length * sz ≤ Y.length →
  (∀ i (h : i < rows.length) q (_ : q < (rows[i]).length) v, Y[i * sz + q]? = some v → Deep n B v (rows[i])[q]) → Deep n B (.bx j rows.length cap) (.sl rows)
theorem Rep.notM {c : Cx} {w : World} {S : Mem} (h5 : Rep c w S) {n m j b0 : Nat} (hj : n ≤ j) (hb0 : c.ρ[j]? = some b0) : ∀ q, ¬ (c.cut n m).M b0 q := by
 rintro q ((hm | hm) | ⟨t, i, off, ht, ha, e1, e2⟩)
 ·have e1 := (c.hX _ _ hm).2
  obtain ⟨e3, _⟩ := h5.box _ _ hb0
  omega
 ·obtain ⟨k, hk⟩ := mem_ρ.1 hm
  have hk' : (c.ρ.take n)[k]? = some b0 := hk
  rw [List.getElem?_take] at hk'
  split at hk'
  case isFalse => cases hk'
  have := h5.inj _ _ _ hk' hb0
  omega
 ·have ht' : (c.τ.take m)[t]? = some i := ht
  rw [List.getElem?_take] at ht'
  split at ht'
  case isFalse => cases ht'
  obtain ⟨a1, a2, a3, a4, a5⟩ := h5.tok t i ht'
  have hlt : i.n < i.cap := by
   rcases Nat.lt_or_ge i.n i.cap with h' | h'
   ·exact h'
   ·have := Nat.mul_le_mul_right i.sz h'
    omega
  exact (a5 hlt b0 off ha).2.1 (mem_ρ.2 ⟨_, hb0⟩)
theorem Deep.dr {c : Cx} {w : World} {S : Mem} (h5 : Rep c w S) {n m : Nat} {v : V} {x : D} (h : Deep n S.boxes v x) : ∀ {y : Value}, VR c w v y → DR (c.cut n m).M w x y := by
 induction h with
 | d x =>
  intro y hv
  cases hv with
  | d _ _ h => exact h.cut _ _
 | full rows => exact fun hv => (VR_toD hv rfl).cut _ _
 | bx j cap sz Y rows hj hB hno h0 hr hl hd ih =>
  intro y hv
  cases hv with
  | bx _ _ _ b0 hb0 hn hm hT =>
   obtain ⟨cs, Ty, hh, hsz, hcs⟩ := h5.boxCells hb0 (h5.tyOfBox hb0 hB hno) hB
   have hnM := h5.notM (m := m) hj hb0
   have pos : ∀ i (h : i < rows.length) q (hq : q < (rows[i]).length), i * sz + q < Y.length := fun i h q hq => by
    have e := hr _ (List.getElem_mem h)
    have := Nat.mul_le_mul_right sz (show i + 1 ≤ rows.length by omega)
    rw [Nat.add_mul] at this
    omega
   refine .sl rows sz _ cap (fun i q => cs.getD (i * sz + q) undef) h0 hr hn hm (fun _ => ⟨b0, 0, rfl, fun i hi q hq => ⟨hnM _, ?_⟩⟩) (fun i hi q hq => ?_)
   ·rw [Nat.zero_add]
    exact (hcs _ (pos i hi q hq)).1
   ·exact ih i hi q hq _ (List.getElem?_eq_getElem (pos i hi q hq)) (hcs _ (pos i hi q hq)).2.1
theorem AFn.deep2 {P : Program} {I : Inv} {f : FuncId} {args : List V} {S : Mem} {R : V → Mem → Prop}
 (h : AFn P I f args S fun v S' => ∃ L J T K v1 v2 d1 d2 y, S' = ⟨L ++ J, T ++ K⟩ ∧ L.length = S.boxes.length ∧ T.length = S.toks.length ∧ FitC S.boxes.length S.toks.length S.boxes L ∧ v = .tup [.agg [v1, v2], .d y] ∧ Deep S.boxes.length (L ++ J) v1 d1 ∧ Deep S.boxes.length (L ++ J) v2 d2 ∧ R (.tup [.agg [.d d1, .d d2], .d y]) ⟨L, T⟩) : AFn P I f args S R := by
 refine ⟨h.1, fun c w xs h1 h2 h3 hI cs => ?_⟩
 obtain ⟨e, w', fr, ⟨v, x, S', c', a1, ⟨L, J, T, K, v1, v2, d1, d2, y, rfl, b2, b3, b4, rfl, g1, g2, b5⟩, a3, a4, a5⟩, h⟩ := h.2 c w xs h1 h2 h3 hI cs
 obtain ⟨r1, r2, r3⟩ := forget h3 a4 a3 a5 b2 b3 b4
 refine ⟨e, w', fr, ⟨_, x, _, _, a1, b5, r1, r2, ?_⟩, h⟩
 cases a5 with
 | tup vs cs q1 q2 =>
  refine .tup _ cs q1 fun j hj => ?_
  have hq := q2 j hj
  match j, hj with
  | 0, hj =>
   have hq : VR c' w' (.agg [v1, v2]) (cs.getD 0 undef) := hq
   show VR _ _ (.agg [.d d1, .d d2]) (cs.getD 0 undef)
   generalize cs.getD 0 undef = X at hq
   cases hq with
   | agg vs cs p1 p2 p3 =>
    refine .agg _ cs p1 (fun j hj => ?_) p3
    match j, hj with
    | 0, hj => exact .d _ _ (g1.dr a3 (p2 0 hj))
    | 1, hj => exact .d _ _ (g2.dr a3 (p2 1 hj))
  | 1, hj =>
   have hq : VR c' w' (.d y) (cs.getD 1 undef) := hq
   show VR _ _ (.d y) (cs.getD 1 undef)
   exact (hq.cut _ _)
end Go.Ab
namespace Go.Proofs.YtnfnbjjnjjdjdaaGreatDoor
open Go.RowKit Go.Av Go.Ab
set_option linter.unusedSimpArgs false
theorem slV.deep {α : Type} {sz n lo hi : Nat} {f : α → Nat → Nat → List V → Prop} {g : α → List D} {l : List α} {B : List (List V)} {v : V} (hsz : 2 ≤ sz) (h : slV (rowsV sz f l) l.length B lo hi v) (hn : n ≤ lo) (hg : ∀ x ∈ l, (g x).length = sz)
 (hf : ∀ x ∈ l, ∀ a b r, n ≤ a → f x a b r → ∀ q (hq : q < (g x).length) u, r[q]? = some u → Deep n B u (g x)[q]) : Deep n B v (.sl (l.map g)) := by
 rcases h with ⟨h0, rfl, _⟩ | ⟨h0, j, cap, Y, rfl, h1, h2, h3, h4⟩
 ·obtain rfl := List.eq_nil_of_length_eq_zero h0
  exact .d _
 have hl := h4.len
 have := Deep.bx (n := n) (B := B) j cap sz Y (l.map g) (by omega) h3 (fun ks us he => by
  rw [he] at hl
  have := Nat.mul_le_mul_right sz (show 1 ≤ l.length by omega)
  simp at hl
  omega) (by omega) (fun r hr => by obtain ⟨x, hx, rfl⟩ := List.mem_map.1 hr; exact hg x hx) (by rw [List.length_map]; exact hl) (fun i hi q hq u hu => ?_)
 ·rwa [List.length_map] at this
 rw [List.length_map] at hi
 obtain ⟨A, r, C, lo1, hi1, e1, e2, e3, e4, e5, e6, e7, _⟩ := h4.at i l[i] (List.getElem?_eq_getElem hi)
 have hq' : q < (g l[i]).length := by simpa using hq
 have hqs : q < sz := by rw [hg _ (List.getElem_mem hi)] at hq'; exact hq'
 have hr : r[q]? = some u := by
  rw [e1, List.append_assoc, List.getElem?_append_right (by omega), e2, Nat.add_sub_cancel_left, List.getElem?_append_left (by omega)] at hu
  exact hu
 have := hf l[i] (List.getElem_mem hi) lo1 hi1 r (by omega) e7 q hq' u hr
 simpa using this
mutual
theorem OwnE.deep {n : Nat} {B : List (List V)} : ∀ (x : ExT) {lo hi : Nat} {r : List V}, n ≤ lo → OwnE B x lo hi r → ∀ q (hq : q < (exD x).length) u, r[q]? = some u → Deep n B u (exD x)[q]
 | .mk k t i ty ns ks, lo, hi, r, hn, h => by
  unfold OwnE at h
  obtain ⟨kv, rfl, hk⟩ := h
  rw [OwnL_eq] at hk
  have hd : Deep n B kv (.sl (ks.map exD)) := slV.deep (g := exD) (by omega) hk hn (fun x _ => by rw [exD_eq]; rfl) fun x hx a b r ha hf => OwnE.deepL ks x hx ha hf
  rw [exD_eq]
  intro q hq u hu
  have hq8 : q < 8 := hq
  rcases q with _ | _ | _ | _ | _ | _ | _ | _ | q
  all_goals first
   | omega
   | (simp only [exRow, List.getElem?_cons_zero, List.getElem?_cons_succ, Option.some.injEq] at hu
      subst hu
      first
       | exact .d _
       | exact hd)
theorem OwnE.deepL {n : Nat} {B : List (List V)} : ∀ (l : List ExT) (x : ExT), x ∈ l → ∀ {lo hi : Nat} {r : List V}, n ≤ lo → OwnE B x lo hi r → ∀ q (hq : q < (exD x).length) u, r[q]? = some u → Deep n B u (exD x)[q]
 | y :: l, x, hx, lo, hi, r, hn, h => by
  rcases List.mem_cons.1 hx with e | hx
  ·rw [e] at h ⊢
   exact OwnE.deep y hn h
  ·exact OwnE.deepL l x hx hn h
end
theorem OwnV.deep {n lo hi : Nat} {B : List (List V)} {l : List ExT} {v : V} (h : OwnV B l lo hi v) (hn : n ≤ lo) : Deep n B v (.sl (l.map exD)) := by
 unfold OwnV at h
 rw [OwnL_eq] at h
 exact slV.deep (g := exD) (by omega) h hn (fun x _ => by rw [exD_eq]; rfl) fun x hx a b r ha hf => OwnE.deepL l x hx ha hf
mutual
theorem OwnS.deep {n : Nat} {B : List (List V)} : ∀ (x : StT) {lo hi : Nat} {r : List V}, n ≤ lo → OwnS B x lo hi r → ∀ q (hq : q < (stD x).length) u, r[q]? = some u → Deep n B u (stD x)[q]
 | .mk k ns ty ls es b e cs, lo, hi, r, hn, h => by
  unfold OwnS at h
  obtain ⟨v1, v2, v3, v4, v5, m1, m2, m3, m4, rfl, o1, o2, o3, o4, o5⟩ := h
  have l1 := o1.le
  have l2 := o2.le
  have l3 := o3.le
  have l4 := o4.le
  rw [OwnSs_eq] at o3 o4
  rw [OwnCs_eq] at o5
  have h1 := o1.deep hn
  have h2 := o2.deep (n := n) (by omega)
  have h3 : Deep n B v3 (.sl (b.map stD)) := slV.deep (g := stD) (by omega) o3 (by omega) (fun x _ => by rw [stD_eq]; rfl) fun x hx a z r ha hf => OwnS.deepL b x hx ha hf
  have h4 : Deep n B v4 (.sl (e.map stD)) := slV.deep (g := stD) (by omega) o4 (by omega) (fun x _ => by rw [stD_eq]; rfl) fun x hx a z r ha hf => OwnS.deepL e x hx ha hf
  have h5 : Deep n B v5 (.sl (cs.map caD)) := slV.deep (g := caD) (by omega) o5 (by omega) (fun x _ => by rw [caD_eq]; rfl) fun x hx a z r ha hf => OwnC.deepL cs x hx ha hf
  rw [stD_eq]
  intro q hq u hu
  have hq8 : q < 10 := hq
  rcases q with _ | _ | _ | _ | _ | _ | _ | _ | _ | _ | q
  all_goals first
   | omega
   | (simp only [stRow, List.getElem?_cons_zero, List.getElem?_cons_succ, Option.some.injEq] at hu
      subst hu
      first
       | exact .d _
       | exact h1
       | exact h2
       | exact h3
       | exact h4
       | exact h5)
theorem OwnS.deepL {n : Nat} {B : List (List V)} : ∀ (l : List StT) (x : StT), x ∈ l → ∀ {lo hi : Nat} {r : List V}, n ≤ lo → OwnS B x lo hi r → ∀ q (hq : q < (stD x).length) u, r[q]? = some u → Deep n B u (stD x)[q]
 | y :: l, x, hx, lo, hi, r, hn, h => by
  rcases List.mem_cons.1 hx with e | hx
  ·rw [e] at h ⊢
   exact OwnS.deep y hn h
  ·exact OwnS.deepL l x hx hn h
theorem OwnC.deep {n : Nat} {B : List (List V)} : ∀ (x : CaT) {lo hi : Nat} {r : List V}, n ≤ lo → OwnC B x lo hi r → ∀ q (hq : q < (caD x).length) u, r[q]? = some u → Deep n B u (caD x)[q]
 | .mk i b, lo, hi, r, hn, h => by
  unfold OwnC at h
  obtain ⟨v, rfl, hv⟩ := h
  rw [OwnSs_eq] at hv
  have h3 : Deep n B v (.sl (b.map stD)) := slV.deep (g := stD) (by omega) hv (by omega) (fun x _ => by rw [stD_eq]; rfl) fun x hx a z r ha hf => OwnS.deepL b x hx ha hf
  rw [caD_eq]
  intro q hq u hu
  have hq8 : q < 2 := hq
  rcases q with _ | _ | q
  all_goals first
   | omega
   | (simp only [List.getElem?_cons_zero, List.getElem?_cons_succ, Option.some.injEq] at hu
      subst hu
      first
       | exact .d _
       | exact h3)
theorem OwnC.deepL {n : Nat} {B : List (List V)} : ∀ (l : List CaT) (x : CaT), x ∈ l → ∀ {lo hi : Nat} {r : List V}, n ≤ lo → OwnC B x lo hi r → ∀ q (hq : q < (caD x).length) u, r[q]? = some u → Deep n B u (caD x)[q]
 | y :: l, x, hx, lo, hi, r, hn, h => by
  rcases List.mem_cons.1 hx with e | hx
  ·rw [e] at h ⊢
   exact OwnC.deep y hn h
  ·exact OwnC.deepL l x hx hn h
end
theorem OwnB.deep {n lo hi : Nat} {B : List (List V)} {l : List StT} {v : V} (h : OwnB B l lo hi v) (hn : n ≤ lo) : Deep n B v (.sl (l.map stD)) := by
 unfold OwnB at h
 rw [OwnSs_eq] at h
 exact slV.deep (g := stD) (by omega) h hn (fun x _ => by rw [stD_eq]; rfl) fun x hx a b r ha hf => OwnS.deepL l x hx ha hf
end Go.Proofs.YtnfnbjjnjjdjdaaGreatDoor
namespace Go.Ab
open Go.RowKit Go.Av
set_option linter.unusedSimpArgs false
theorem ARun.drawN {P : Program} {I : Inv} {ops : Array Oper} {z : Nat × Nat} {fn : FuncId} {k : List Item} {R : V → Mem → Prop} {id : Nat} {env : List V} {S : Mem} (W : List Nat) (MM : Mem → Prop) (hm : P.follows .mixedOrders = true) (h : anyC P I ops W MM (fun env S => ARun P I z fn k env S R) ops.size (Array.replicate ops.size false) env S) : ARun P I z fn (.code (.region id ops true) :: k) env S R := by
 intro b a c w c0 w0 h1 h2 h3 h4 h5 h6 hI cs
 have hd : Below w.heap.size w { w with drawn := w.drawn + 1 } := ⟨rfl, rfl, rfl, Nat.le_refl _, fun _ _ => rfl⟩
 obtain ⟨r1, r2⟩ := h5.under hd
 have hrun := anyC_run (fn := fn) (k := k) (R := R) ops.size (w.tape w.drawn (.order b.fn id)) _ _ _ h
 obtain ⟨e, w', fr, g1, g2, g3⟩ := hrun b a c _ c0 w0 h1 h2 h3 (h4.ext r2) r1 (h6.trans r2) ⟨r2.I.trans hI.1, hI.2⟩ cs
 refine ⟨e, w', fr, g1, .of_steps (.one ?_) g2, g3⟩
 have := step_region_draw (P := P) (b := b) (a := a) (k := k) (cs := cs) (w := w) (ops := ops) (id := id)
 rw [this]
 simp only [Region.schedule, hm, Bool.true_or, if_true, Region.linearise]
theorem AFn.deep1 {P : Program} {I : Inv} {f : FuncId} {args : List V} {S : Mem} {R : V → Mem → Prop}
 (h : AFn P I f args S fun v S' => ∃ L J T K d, S' = ⟨L ++ J, T ++ K⟩ ∧ L.length = S.boxes.length ∧ T.length = S.toks.length ∧ FitC S.boxes.length S.toks.length S.boxes L ∧ Deep S.boxes.length (L ++ J) v d ∧ R (.d d) ⟨L, T⟩) : AFn P I f args S R := by
 refine ⟨h.1, fun c w xs h1 h2 h3 hI cs => ?_⟩
 obtain ⟨e, w', fr, ⟨v, x, S', c', a1, ⟨L, J, T, K, d, rfl, b2, b3, b4, g1, b5⟩, a3, a4, a5⟩, h⟩ := h.2 c w xs h1 h2 h3 hI cs
 obtain ⟨r1, r2, r3⟩ := forget h3 a4 a3 a5 b2 b3 b4
 exact ⟨e, w', fr, ⟨_, x, _, _, a1, b5, r1, r2, .d _ _ (g1.dr a3 a5)⟩, h⟩
end Go.Ab
namespace Go.Proofs.YtnfnbjjnjjdjdaaGreatDoor
open Go.RowKit Go.Av Go.Ab
theorem clone_plain {su : List SuT} (hl : su.length ≤ 60000) (B : List (List V)) (T : List (Nat × Nat)) : AFn Tryz.prog TabI 24 [.d (.sl (su.map suD))] ⟨B, T⟩ (Same (.d (.sl (su.map suD))) ⟨B, T⟩) := by
 have hr : ∀ r ∈ su.map suD, r.length = 2 := by intro r hr; obtain ⟨x, _, rfl⟩ := List.mem_map.1 hr; rfl
 refine AFn.deep1 ((clone_Struct (su.map suD) hr (by rw [List.length_map]; omega) B T).mono fun v S' h => ?_)
 rcases h with ⟨h0, rfl, rfl⟩ | ⟨h0, cap, h1, h2, rfl, rfl⟩
 ·exact ⟨B, [], T, [], _, by rw [List.append_nil, List.append_nil], rfl, rfl, (FitL.refl _ _ _).cells, .d _, by rw [h0]; exact ⟨rfl, rfl⟩⟩
 ·have hfl := flat_mlen hr
  obtain ⟨X, hX⟩ : ∃ X, X = List.replicate ((cap - (su.map suD).length) * 2) V.undef := ⟨_, rfl⟩
  rw [← hX]
  have hle : (su.map suD).length * 2 ≤ ((su.map suD).flatten.map V.d ++ X).length := by rw [List.length_append, hfl]; omega
  refine ⟨B, [(su.map suD).flatten.map V.d ++ X], T, [], _, by rw [List.append_nil], rfl, rfl, (FitL.refl _ _ _).cells, .bx B.length cap 2 _ _ (Nat.le_refl _) (bx_loc0 rfl) (fun ks us he => ?_) (by decide) hr hle (fun i hi q hq v hv => ?_), rfl, rfl⟩
  ·rw [he] at hle
   have : 1 ≤ (su.map suD).length := Nat.one_le_iff_ne_zero.2 fun e => h0 (List.eq_nil_of_length_eq_zero e)
   simp only [List.length_cons, List.length_nil] at hle
   omega
  ·have hg := flat_get hr i q _ _ (List.getElem?_eq_getElem hi) (List.getElem?_eq_getElem hq)
   have hlt := (List.getElem?_eq_some_iff.1 hg).1
   rw [List.getElem?_append_left (by rw [List.length_map]; exact hlt), List.getElem?_map, hg] at hv
   obtain rfl := Option.some.inj hv
   exact .d _
end Go.Proofs.YtnfnbjjnjjdjdaaGreatDoor
namespace Go.Proofs.YtnfnbjjnjjdjdaaGreatDoor
open Go.RowKit Go.Av Go.Ab
set_option linter.unusedSimpArgs false
mutual
theorem endsT_bare : ∀ s : StT, endsT (brS s) = endsT s
 | .mk k ns ty ls es b e cs => by
  have h1 := endsL_bare b
  have h2 := endsL_bare e
  have h3 := endsC_bare cs
  unfold brS endsT
  rw [h1, h2, h3]
theorem endsL_bare : ∀ l : List StT, endsL (brSs l) = endsL l
 | [] => by unfold brSs endsL; rfl
 | [x] => by
  have h := endsT_bare x
  unfold brSs brSs endsL
  exact h
 | x :: y :: l => by
  have h := endsL_bare (y :: l)
  rw [brSs_map] at h ⊢
  show endsL (brS x :: (brS y :: l.map brS)) = _
  unfold endsL
  dsimp only
  exact h
theorem endsC_bare : ∀ l : List CaT, endsC (brCs l) = endsC l
 | [] => by unfold brCs endsC; rfl
 | .mk i b :: l => by
  have h1 := endsL_bare b
  have h2 := endsC_bare l
  unfold brCs brC endsC
  rw [h1, h2]
end
theorem ends_same {l m : List StT} (h : brSs l = brSs m) : endsL l = endsL m := by rw [← endsL_bare l, h, endsL_bare m]
set_option maxRecDepth 100000
set_option linter.defProp false
def c9 := by
 have c := KK_of Tryz.f9 (by conv => lhs; cbv)
 dsimp only [KK, KxP, doO, opO, List.map_cons, List.map_nil, List.toList_toArray] at c
 exact c
theorem b9 : FnIs Tryz.prog 9 Tryz.f9 95 := ⟨Tryz.func9, by kernel_rfl⟩
theorem anyC_n1 {P : Program} {I : Inv} {ops : Array Oper} {W : List Nat} {MM : Mem → Prop} {K : List V → Mem → Prop} {n : Nat} {listed : Array Bool} {env : List V} {S : Mem} (i : Nat) {o : Oper} (hM : MM S) (hr : Region.ready .any ops listed = [i]) (ho : ops[i]? = some o) (hw : W.contains i = true) (h : WC P I ops o env S fun v S' => anyC P I ops W MM K n (listed.setIfInBounds i true) (setV env o.dst v) S') : anyC P I ops W MM K (n + 1) listed env S :=
 ⟨hM, fun e => (by rw [hr] at e; cases e), fun x hx => by
  rw [hr] at hx
  obtain rfl := List.mem_singleton.1 hx
  exact ⟨o, ho, .inl ⟨hw, h⟩⟩⟩
theorem anyC_n2 {P : Program} {I : Inv} {ops : Array Oper} {W : List Nat} {MM : Mem → Prop} {K : List V → Mem → Prop} {n : Nat} {listed : Array Bool} {env : List V} {S : Mem} (i j : Nat) {o o2 : Oper} (hM : MM S) (hr : Region.ready .any ops listed = [i, j]) (ho : ops[i]? = some o) (ho2 : ops[j]? = some o2) (hw : W.contains i = true) (hw2 : W.contains j = true) (h : WC P I ops o env S fun v S' => anyC P I ops W MM K n (listed.setIfInBounds i true) (setV env o.dst v) S') (h2 : WC P I ops o2 env S fun v S' => anyC P I ops W MM K n (listed.setIfInBounds j true) (setV env o2.dst v) S') : anyC P I ops W MM K (n + 1) listed env S :=
 ⟨hM, fun e => (by rw [hr] at e; cases e), fun x hx => by
  rw [hr] at hx
  simp only [List.mem_cons, List.not_mem_nil, or_false] at hx
  rcases hx with rfl | rfl
  ·exact ⟨o, ho, .inl ⟨hw, h⟩⟩
  ·exact ⟨o2, ho2, .inl ⟨hw2, h2⟩⟩⟩
theorem wc_call {P : Program} {I : Inv} {ops : Array Oper} {o : Oper} {env : List V} {S : Mem} {K : V → Mem → Prop} {q : Call} {f : Operand} {g : FuncId} {args : List V} {Q : V → Mem → Prop} (hg : o.guard = none) (h1 : o.op = .call q) (h2 : q.callee = .value f) (h3 : evalV I env f = .func g [] []) (h4 : q.args.toList.map (evalV I env) = args) (hne : ∃ v S', Q v S') (h : AFn P I g args S Q) (hk : ∀ v S', Q v S' → K v S') : WC P I ops o env S K :=
 ⟨Q, hne, .inl ⟨.inl hg, .inr (.inl ⟨q, f, g, [], [], h1, h2, h3, by rw [h4]; simpa using h⟩)⟩, hk⟩
theorem load_cell {P : Program} {ev : Operand → V} {S : Mem} {N q : Nat} {Y : List V} {v : V} {o : Op} {t : TypeId} {a : Operand} {ti : TyI} (hS : S.boxes[N]? = some Y) (hop : o = .load t a) (ht : tyOf P t = some ti) (hag : ti.agg = false) (ha : ev a = .ptr N q) (hv : Y[q]? = some v) : op1 P ev S o = some (v, S) := by
 subst hop
 show still S (opLoad P S t (ev a)) = _
 rw [ha]
 simp [opLoad, ht, hS, loadV, hag, hv, still]
theorem tySus : tyOf Tryz.prog 22 = some ⟨.slice 67, 1, 24, false, [.sl [] .full]⟩ := by kernel_rfl
theorem tyFus : tyOf Tryz.prog 23 = some ⟨.slice 41, 1, 24, false, [.sl [] .full]⟩ := by kernel_rfl
theorem tyPr : tyOf Tryz.prog 25 = some ⟨.struct [(0, 1), (1, 1)], 2, 48, true, [.sl [] .full, .sl [] .full]⟩ := by kernel_rfl
theorem build_two {ev : Operand → V} {S : Mem} {v1 v2 : V} {o : Op} {a b : Operand} (hop : o = .build 25 #[(0, a), (1, b)]) (ha : ev a = v1) (hb : ev b = v2) (c1 : cellsV v1 = some [v1]) (c2 : cellsV v2 = some [v2]) : op1 Tryz.prog ev S o = some (.agg [v1, v2], S) := by
 subst hop
 show still S (opBuild Tryz.prog 25 [(0, ev a), (1, ev b)]) = _
 rw [ha, hb]
 simp [opBuild, tyPr, fillV, c1, c2, still]
theorem store_two {ev : Operand → V} {M : List (List V)} {T : List (Nat × Nat)} {j : Nat} {v1 v2 u1 u2 : V} {o : Op} {a x : Operand} (hop : o = .store 25 a x) (ha : ev a = .ptr j 0) (hx : ev x = .agg [v1, v2]) (hM : M[j]? = some [u1, u2]) : op1 Tryz.prog ev ⟨M, T⟩ o = some (.undef, ⟨M.set j [v1, v2], T⟩) := by
 subst hop
 show opStore Tryz.prog ⟨M, T⟩ 25 (ev a) (ev x) = _
 rw [ha, hx]
 simp [opStore, tyPr, cellsV, hM]
def checkG1 (su : List SuT) (fu : List FuT) (f : FuT) : Option FuT :=
 match blockS su fu f.results f.body f.params with
 | some b => if endsL f.body = true then some ⟨f.name, f.params, f.results, b⟩ else none
 | none => none
def checkG (rb : Bool) (p : PrT) : PrT × Int :=
 if rb = true then (if headsG p.structs p.funcs = true then (match p.funcs.mapM (checkG1 p.structs p.funcs) with
  | some fs => (⟨p.structs, fs⟩, 0)
  | none => (⟨[], []⟩, 52)) else (⟨[], []⟩, 52)) else (⟨[], []⟩, 2)
def ClR (p : PrT) (M : List (List V)) (a : Nat) (v2 : V) (M' : List (List V)) : Prop :=
 M.length ≤ a ∧ (∀ k, k < M.length → M'[k]? = M[k]?) ∧ M'[a]? = some [.d (.sl (p.structs.map suD)), v2] ∧
  ((p.funcs = [] ∧ v2 = .d (.sl []) ∧ M'.length = M.length + 1) ∨ (p.funcs ≠ [] ∧ ∃ b cap J, v2 = .bx b p.funcs.length cap ∧ M.length ≤ b ∧ b ≠ a ∧ M'[b]? = some ((p.funcs.map fuD).flatten.map V.d ++ J) ∧ M'.length = M.length + 2))
theorem clr_new {p : PrT} {M M2 : List (List V)} {v2 u1 u2 : V} (l2 : M.length ≤ M2.length) (p2 : ∀ k, k < M.length → M2[k]? = M[k]?)
 (d2 : (p.funcs.map fuD = [] ∧ v2 = .d (.sl []) ∧ M2 = M) ∨ (p.funcs.map fuD ≠ [] ∧ ∃ cap J, v2 = .bx M.length (p.funcs.map fuD).length cap ∧ M2 = M ++ [(p.funcs.map fuD).flatten.map V.d ++ J])) : ClR p M M2.length v2 ((M2 ++ [[u1, u2]]).set M2.length [.d (.sl (p.structs.map suD)), v2]) := by
 refine ⟨l2, fun k hk => ?_, ?_, ?_⟩
 ·rw [List.getElem?_set_ne (by omega), bx_old (by omega), p2 k hk]
 ·rw [List.getElem?_set_self (by simp)]
 ·rcases d2 with ⟨h0, rfl, rfl⟩ | ⟨h0, cap, J, rfl, rfl⟩
  ·exact .inl ⟨by simpa using h0, rfl, by simp⟩
  ·rw [List.length_map]
   refine .inr ⟨fun e => h0 (by rw [e]; rfl), M.length, cap, J, rfl, Nat.le_refl _, by simp, ?_, by simp⟩
   rw [List.getElem?_set_ne (by simp), bx_old (by simp), bx_loc0 rfl]
   rfl
theorem clr_old {p : PrT} {M M2 : List (List V)} {v2 u1 u2 : V} (l2 : (M ++ [[u1, u2]]).length ≤ M2.length) (p2 : ∀ k, k < (M ++ [[u1, u2]]).length → M2[k]? = (M ++ [[u1, u2]])[k]?)
 (d2 : (p.funcs.map fuD = [] ∧ v2 = .d (.sl []) ∧ M2 = M ++ [[u1, u2]]) ∨ (p.funcs.map fuD ≠ [] ∧ ∃ cap J, v2 = .bx (M ++ [[u1, u2]]).length (p.funcs.map fuD).length cap ∧ M2 = (M ++ [[u1, u2]]) ++ [(p.funcs.map fuD).flatten.map V.d ++ J])) : ClR p M M.length v2 (M2.set M.length [.d (.sl (p.structs.map suD)), v2]) := by
 have hl : (M ++ [[u1, u2]]).length = M.length + 1 := by simp
 refine ⟨Nat.le_refl _, fun k hk => ?_, ?_, ?_⟩
 ·rw [List.getElem?_set_ne (by omega), p2 k (by omega), bx_old hk]
 ·rw [List.getElem?_set_self (by omega)]
 ·rcases d2 with ⟨h0, rfl, rfl⟩ | ⟨h0, cap, J, rfl, rfl⟩
  ·exact .inl ⟨by simpa using h0, rfl, by simp⟩
  ·rw [List.length_map]
   refine .inr ⟨fun e => h0 (by rw [e]; rfl), _, cap, J, rfl, by omega, by omega, ?_, by simp⟩
   rw [List.getElem?_set_ne (by omega), bx_loc0 rfl]
   rfl
section
variable {p : PrT} {T : List (Nat × Nat)} {z : Nat × Nat} {k : List Item} {R : V → Mem → Prop}
set_option maxHeartbeats 4000000 in
theorem check_region {N : Nat} {M : List (List V)} (hsu : p.structs.length ≤ 60000) (hfu : p.funcs.length ≤ 60000) (hM : M[N]? = some [V.d (.sl (p.structs.map suD)), V.d (.sl (p.funcs.map fuD))])
 (rest : ∀ a v2 M', ClR p M a v2 M' → ARun Tryz.prog TabI z 9 k (envS 95 [(5, .ptr a 0), (4, .ptr (N + 4) 0), (2, .ptr (N + 1) 0)]) ⟨M', T⟩ R) :
 ARun Tryz.prog TabI z 9 (.code (.region 6 (opsOf (kF Tryz.f9 21)) true) :: k) (envS 95 [(4, .ptr (N + 4) 0), (2, .ptr (N + 1) 0), (1, .ptr N 0)]) ⟨M, T⟩ R := by
 have hsz : (opsOf (kF Tryz.f9 21)).size = 9 := by kernel_rfl
 have hfr : ∀ r ∈ p.funcs.map fuD, r.length = 4 := by intro r hr; obtain ⟨x, _, rfl⟩ := List.mem_map.1 hr; rfl
 have hcf := fun M => clone_Func (p.funcs.map fuD) hfr (by rw [List.length_map]; omega) M T
 have hNl : N < M.length := (List.getElem?_eq_some_iff.1 hM).1
 have fin : ∀ a v2 M' env, Go.Ab.EnvW (envS 95 [(5, .ptr a 0), (4, .ptr (N + 4) 0), (2, .ptr (N + 1) 0)]) env → ClR p M a v2 M' → ARun Tryz.prog TabI z 9 k env ⟨M', T⟩ R := fun a v2 M' env he h => ARun.weak he (rest a v2 M' h)
 refine ARun.drawN [2, 5, 7, 8] (fun S => S.boxes[N]? = some [V.d (.sl (p.structs.map suD)), V.d (.sl (p.funcs.map fuD))]) (by kernel_rfl) ?_
 rw [hsz]
 refine anyC_q 0 (v := .ptr N 0) (oi := opAt (opsOf (kF Tryz.f9 21)) 0) (by kernel_rfl) (by rfl) (by kernel_rfl) (by kernel_rfl) (by kernel_rfl) (fun S hS => by kernel_rfl) ?_
 refine anyC_q 1 (v := .d (.sl (p.structs.map suD))) (oi := opAt (opsOf (kF Tryz.f9 21)) 1) (by kernel_rfl) (by rfl) (by kernel_rfl) (by kernel_rfl) (by kernel_rfl) (fun S hS => load_cell (q := 0) (a := .tmp 23) hS (by kernel_rfl) tySus rfl (by kernel_rfl) rfl) ?_
 refine anyC_q 3 (v := .ptr N 1) (oi := opAt (opsOf (kF Tryz.f9 21)) 3) (by kernel_rfl) (by rfl) (by kernel_rfl) (by kernel_rfl) (by kernel_rfl) (fun S hS => by kernel_rfl) ?_
 refine anyC_q 4 (v := .d (.sl (p.funcs.map fuD))) (oi := opAt (opsOf (kF Tryz.f9 21)) 4) (by kernel_rfl) (by rfl) (by kernel_rfl) (by kernel_rfl) (by kernel_rfl) (fun S hS => load_cell (q := 1) (a := .tmp 26) hS (by kernel_rfl) tyFus rfl (by kernel_rfl) rfl) ?_
 have hz : (M ++ [[V.sl [] .full, .sl [] .full]])[N]? = some [V.d (.sl (p.structs.map suD)), V.d (.sl (p.funcs.map fuD))] := (bx_old hNl).trans hM
 have hzl : (M ++ [[V.sl [] .full, .sl [] .full]]).length = M.length + 1 := by simp
 have hzM : (M ++ [[V.sl [] .full, .sl [] .full]])[M.length]? = some [V.sl [] .full, .sl [] .full] := bx_loc0 rfl
 refine anyC_n2 2 7 (o := opAt (opsOf (kF Tryz.f9 21)) 2) (o2 := opAt (opsOf (kF Tryz.f9 21)) 7) hM (by kernel_rfl) (by kernel_rfl) (by kernel_rfl) (by rfl) (by rfl) ?_ ?_
 ·refine wc_call (by kernel_rfl) (q := ⟨.value (.func 24), #[.tmp 24], #[22]⟩) (by kernel_rfl) rfl (by rfl) (by kernel_rfl) ⟨_, _, rfl, rfl⟩ (clone_plain hsu _ T) ?_
  rintro _ _ ⟨rfl, rfl⟩
  refine anyC_n2 5 7 (o := opAt (opsOf (kF Tryz.f9 21)) 5) (o2 := opAt (opsOf (kF Tryz.f9 21)) 7) hM (by kernel_rfl) (by kernel_rfl) (by kernel_rfl) (by rfl) (by rfl) ?_ ?_
  ·refine wc_call (by kernel_rfl) (q := ⟨.value (.func 25), #[.tmp 27], #[23]⟩) (by kernel_rfl) rfl (by rfl) (by kernel_rfl) (CloneQ.ne _ _ _ _ (by rw [List.length_map]; omega)) (hcf M) ?_
   intro v2 S' hv
   obtain ⟨M2, rfl, l2, p2, c2, d2⟩ := hv.split
   refine anyC_q 6 (v := .agg [.d (.sl (p.structs.map suD)), v2]) (oi := opAt (opsOf (kF Tryz.f9 21)) 6) (by kernel_rfl) (by rfl) (by kernel_rfl) (by kernel_rfl) (by kernel_rfl) (fun S hS => build_two (a := .tmp 25) (b := .tmp 28) (by kernel_rfl) (by kernel_rfl) (by kernel_rfl) rfl c2) ?_
   have h2 : M2[N]? = some [V.d (.sl (p.structs.map suD)), V.d (.sl (p.funcs.map fuD))] := (p2 N hNl).trans hM
   refine anyC_n1 7 (o := opAt (opsOf (kF Tryz.f9 21)) 7) h2 (by kernel_rfl) (by kernel_rfl) (by rfl) (wc_op (v := .ptr M2.length 0) (S' := ⟨M2 ++ [[.sl [] .full, .sl [] .full]], T⟩) (by kernel_rfl) (by kernel_rfl) ?_)
   refine anyC_n1 8 (o := opAt (opsOf (kF Tryz.f9 21)) 8) ((bx_old (by omega)).trans h2) (by kernel_rfl) (by kernel_rfl) (by rfl) (wc_op (v := .undef) (S' := ⟨(M2 ++ [[V.sl [] .full, .sl [] .full]]).set M2.length [.d (.sl (p.structs.map suD)), v2], T⟩) (by kernel_rfl) (store_two (a := .tmp 5) (x := .tmp 29) (by kernel_rfl) (by kernel_rfl) (by kernel_rfl) (bx_loc0 rfl)) ?_)
   refine ⟨?_, by kernel_rfl, fin _ _ _ _ ?_ (clr_new l2 p2 d2)⟩
   ·show ((M2 ++ [[V.sl [] .full, .sl [] .full]]).set M2.length [.d (.sl (p.structs.map suD)), v2])[N]? = _
    rw [List.getElem?_set_ne (by omega), bx_old (by omega), h2]
   ·simp only [W, seval, c9]
    refine Agree.env _ ?_
    simp only [agw, seval]
  ·refine wc_op (v := .ptr M.length 0) (S' := ⟨M ++ [[.sl [] .full, .sl [] .full]], T⟩) (by kernel_rfl) (by kernel_rfl) ?_
   refine anyC_n1 5 (o := opAt (opsOf (kF Tryz.f9 21)) 5) hz (by kernel_rfl) (by kernel_rfl) (by rfl) (wc_call (by kernel_rfl) (q := ⟨.value (.func 25), #[.tmp 27], #[23]⟩) (by kernel_rfl) rfl (by rfl) (by kernel_rfl) (CloneQ.ne _ _ _ _ (by rw [List.length_map]; omega)) (hcf _) ?_)
   intro v2 S' hv
   obtain ⟨M2, rfl, l2, p2, c2, d2⟩ := hv.split
   refine anyC_q 6 (v := .agg [.d (.sl (p.structs.map suD)), v2]) (oi := opAt (opsOf (kF Tryz.f9 21)) 6) (by kernel_rfl) (by rfl) (by kernel_rfl) (by kernel_rfl) (by kernel_rfl) (fun S hS => build_two (a := .tmp 25) (b := .tmp 28) (by kernel_rfl) (by kernel_rfl) (by kernel_rfl) rfl c2) ?_
   have h2 : M2[N]? = some [V.d (.sl (p.structs.map suD)), V.d (.sl (p.funcs.map fuD))] := (p2 N (by omega)).trans hz
   refine anyC_n1 8 (o := opAt (opsOf (kF Tryz.f9 21)) 8) h2 (by kernel_rfl) (by kernel_rfl) (by rfl) (wc_op (v := .undef) (S' := ⟨M2.set M.length [.d (.sl (p.structs.map suD)), v2], T⟩) (by kernel_rfl) (store_two (a := .tmp 5) (x := .tmp 29) (by kernel_rfl) (by kernel_rfl) (by kernel_rfl) ((p2 _ (by omega)).trans hzM)) ?_)
   refine ⟨?_, by kernel_rfl, fin _ _ _ _ ?_ (clr_old l2 p2 d2)⟩
   ·show (M2.set M.length [.d (.sl (p.structs.map suD)), v2])[N]? = _
    rw [List.getElem?_set_ne (by omega), h2]
   ·simp only [W, seval, c9]
    refine Agree.env _ ?_
    simp only [agw, seval]
 ·refine wc_op (v := .ptr M.length 0) (S' := ⟨M ++ [[.sl [] .full, .sl [] .full]], T⟩) (by kernel_rfl) (by kernel_rfl) ?_
  refine anyC_n1 2 (o := opAt (opsOf (kF Tryz.f9 21)) 2) hz (by kernel_rfl) (by kernel_rfl) (by rfl) (wc_call (by kernel_rfl) (q := ⟨.value (.func 24), #[.tmp 24], #[22]⟩) (by kernel_rfl) rfl (by rfl) (by kernel_rfl) ⟨_, _, rfl, rfl⟩ (clone_plain hsu _ T) ?_)
  rintro _ _ ⟨rfl, rfl⟩
  refine anyC_n1 5 (o := opAt (opsOf (kF Tryz.f9 21)) 5) hz (by kernel_rfl) (by kernel_rfl) (by rfl) (wc_call (by kernel_rfl) (q := ⟨.value (.func 25), #[.tmp 27], #[23]⟩) (by kernel_rfl) rfl (by rfl) (by kernel_rfl) (CloneQ.ne _ _ _ _ (by rw [List.length_map]; omega)) (hcf _) ?_)
  intro v2 S' hv
  obtain ⟨M2, rfl, l2, p2, c2, d2⟩ := hv.split
  refine anyC_q 6 (v := .agg [.d (.sl (p.structs.map suD)), v2]) (oi := opAt (opsOf (kF Tryz.f9 21)) 6) (by kernel_rfl) (by rfl) (by kernel_rfl) (by kernel_rfl) (by kernel_rfl) (fun S hS => build_two (a := .tmp 25) (b := .tmp 28) (by kernel_rfl) (by kernel_rfl) (by kernel_rfl) rfl c2) ?_
  have h2 : M2[N]? = some [V.d (.sl (p.structs.map suD)), V.d (.sl (p.funcs.map fuD))] := (p2 N (by omega)).trans hz
  refine anyC_n1 8 (o := opAt (opsOf (kF Tryz.f9 21)) 8) h2 (by kernel_rfl) (by kernel_rfl) (by rfl) (wc_op (v := .undef) (S' := ⟨M2.set M.length [.d (.sl (p.structs.map suD)), v2], T⟩) (by kernel_rfl) (store_two (a := .tmp 5) (x := .tmp 29) (by kernel_rfl) (by kernel_rfl) (by kernel_rfl) ((p2 _ (by omega)).trans hzM)) ?_)
  refine ⟨?_, by kernel_rfl, fin _ _ _ _ ?_ (clr_old l2 p2 d2)⟩
  ·show (M2.set M.length [.d (.sl (p.structs.map suD)), v2])[N]? = _
   rw [List.getElem?_set_ne (by omega), h2]
  ·simp only [W, seval, c9]
   refine Agree.env _ ?_
   simp only [agw, seval]
end
def fnRow (f : FuT) (v : V) : List V := [.d (.str f.name), .d (.sl (f.params.map paD)), .d (.sl (f.results.map tyD)), v]
def OwnF (B : List (List V)) (f : FuT) (lo hi : Nat) (r : List V) : Prop := ∃ v a b, lo ≤ a ∧ b ≤ hi ∧ r = fnRow f v ∧ OwnB B f.body a b v
theorem OwnF.frame {B B' : List (List V)} {f : FuT} {lo hi : Nat} {r : List V} (h : OwnF B f lo hi r) (he : ∀ i, lo ≤ i → i < hi → B'[i]? = B[i]?) : OwnF B' f lo hi r := by
 obtain ⟨v, a, b, h1, h2, h3, h4⟩ := h
 exact ⟨v, a, b, h1, h2, h3, h4.frame fun i _ _ => he i (by omega) (by omega)⟩
theorem OwnF.deep {n : Nat} {B : List (List V)} {x : FuT} {lo hi : Nat} {r : List V} (hn : n ≤ lo) (h : OwnF B x lo hi r) : ∀ q (hq : q < (fuD x).length) u, r[q]? = some u → Deep n B u (fuD x)[q] := by
 obtain ⟨v, a, b, h1, h2, rfl, h4⟩ := h
 have h3 := h4.deep (n := n) (by omega)
 intro q hq u hu
 have hq4 : q < 4 := hq
 rcases q with _ | _ | _ | _ | q
 all_goals first
  | omega
  | (simp only [fnRow, List.getElem?_cons_zero, List.getElem?_cons_succ, Option.some.injEq] at hu
     subst hu
     first
      | exact .d _
      | exact h3)
theorem frow_at {X A C : List V} {f : FuT} {v : V} {a : Nat} (hX : X = A ++ fnRow f v ++ C) (ha : A.length = a) :
 X[a + 1]? = some (.d (.sl (f.params.map paD))) ∧ X[a + 2]? = some (.d (.sl (f.results.map tyD))) ∧ X[a + 3]? = some v ∧ a + 4 ≤ X.length ∧ ∀ u, X.take (a + 3) ++ u :: X.drop (a + 3 + 1) = A ++ fnRow f u ++ C := by
 have e : X = A ++ (fnRow f v ++ C) := by rw [hX, List.append_assoc]
 have g : ∀ q, X[a + q]? = (fnRow f v ++ C)[q]? := fun q => by rw [e, List.getElem?_append_right (by omega)]; congr 1; omega
 refine ⟨g 1, g 2, g 3, ?_, fun u => ?_⟩
 ·rw [e, List.length_append, List.length_append, ha]; show a + 4 ≤ a + (4 + C.length); omega
 ·rw [e, List.take_append, List.take_of_length_le (by omega), List.drop_append, List.drop_of_length_le (by omega), List.nil_append, show a + 3 - A.length = 3 by omega, show a + 3 + 1 - A.length = 4 by omega, List.append_assoc, List.append_assoc]
  rfl
theorem fuD_row (f : FuT) : (fuD f).map V.d = fnRow f (.d (.sl (f.body.map stD))) := rfl
theorem mapM_head {α β : Type} (g : α → Option β) (x : α) (l : List α) (fs : List β) : ((x :: l).mapM g).map (fs ++ ·) = match g x with
 | some y => (l.mapM g).map ((fs ++ [y]) ++ ·)
 | none => none := by
 rw [List.mapM_cons]
 cases g x with
 | none => rfl
 | some y =>
  cases l.mapM g with
  | none => rfl
  | some ys => simp
structure FsSt where
 i : Nat
 fs : List FuT
 Y : List V
 B : List (List V)
structure FsOk (p : PrT) (M0 : List (List V)) (N b : Nat) (Junk : List V) (s : FsSt) : Prop where
 le : s.i ≤ p.funcs.length
 res : p.funcs.mapM (checkG1 p.structs p.funcs) = ((p.funcs.drop s.i).mapM (checkG1 p.structs p.funcs)).map (s.fs ++ ·)
 fl : s.fs.length = s.i
 yl : s.Y.length = s.i * 4
 bl : M0.length ≤ s.B.length
 old : ∀ k, k < M0.length → k ≠ b → k ≠ N + 4 → s.B[k]? = M0[k]?
 cb : ∃ xx yy, s.B[N + 4]? = some [.mp (N + 2), .mp (N + 3), xx, yy]
 row : s.B[b]? = some (s.Y ++ (((p.funcs.drop s.i).map fuD).flatten.map V.d ++ Junk))
 own : rowsV 4 (OwnF s.B) s.fs (b + 1) s.B.length s.Y
structure PsOk (ps : List PaT) (M0 : List (List V)) (w : Nat) (s : Nat × List (List V)) : Prop where
 le : s.1 ≤ ps.length
 bl : M0.length ≤ s.2.length
 old : ∀ k, k < M0.length → k ≠ w → s.2[k]? = M0[k]?
 vm : s.2[w]? = some (vaM (ps.take s.1))
structure FnG (su : List SuT) (fu : List FuT) (f : FuT) : Prop where
 bl : BlG su fu f.results f.body
 st : STs f.body
 nw : MkQ fun B lo hi v => OwnB B f.body lo hi v
 en : ∀ l, brSs l = brSs f.body → EnG l
 pn : ∀ i (h : i < f.params.length), atN PaT.name (f.params.take i) (f.params[i]).name = none
 pl : f.params.length ≤ 60000
 pt : ∀ p ∈ f.params, TW p.type
section
variable {B : List (List V)} {T : List (Nat × Nat)}
set_option maxHeartbeats 16000000 in
theorem check_gt {p : PrT} {rb : Bool} (hT : EnvT p.structs p.funcs) (hF : ∀ f ∈ p.funcs, FnG p.structs p.funcs f) (hrg : ∀ B T, AFn Tryz.prog TabI 16 [prV p] ⟨B, T⟩ (Same (.d (.bool rb)) ⟨B, T⟩)) : AFn Tryz.prog TabI 9 [prV p] ⟨B, T⟩ (Same (.tup [prV (checkG rb p).1, .d (.int .i64 (checkG rb p).2)]) ⟨B, T⟩) := by
 obtain ⟨N, hn⟩ : ∃ N, B.length = N := ⟨_, rfl⟩
 generalize hres : checkG rb p = r
 unfold checkG at hres
 have hhd := fun (B : List (List V)) c s f xx yy h hne => @heads_gt c s f xx yy B T p.structs p.funcs hT h hne
 unfold prV at hrg hhd
 refine AFn.deep2 (AFn.bodyM (body := (kF Tryz.f9 0)) 95 Tryz.func9 (by kernel_rfl) (by kernel_rfl) (by kernel_rfl) (Nat.le_of_ble_eq_true rfl) ?_)
 have exit : ∀ (M1 : List (List V)) (v1 v2 : V) (d1 d2 : D) (y : Int), (∀ k, k < N → M1[k]? = B[k]?) → Deep N M1 v1 d1 → Deep N M1 v2 d2 → d1 = .sl (r.1.structs.map suD) → d2 = .sl (r.1.funcs.map fuD) → y = r.2 → ∃ L J2 T2 K w1 w2 e1 e2 y2, (⟨M1, T⟩ : Mem) = ⟨L ++ J2, T2 ++ K⟩ ∧ L.length = N ∧ T2.length = T.length ∧ FitC N T.length B L ∧ V.tup [.agg [v1, v2], .d (.int .i64 y)] = V.tup [.agg [w1, w2], .d y2] ∧ Deep N (L ++ J2) w1 e1 ∧ Deep N (L ++ J2) w2 e2 ∧ Same (.tup [prV r.1, .d (.int .i64 r.2)]) ⟨B, T⟩ (.tup [.agg [.d e1, .d e2], .d y2]) ⟨L, T2⟩ := fun M1 v1 v2 d1 d2 y h0 h1 h2 h3 h4 h5 => by
  obtain ⟨J, rfl⟩ : ∃ J, M1 = B ++ J := ⟨_, new_all fun k hk => h0 k (by omega)⟩
  exact ⟨B, J, T, [], v1, v2, d1, d2, .int .i64 y, by rw [List.append_nil], hn, rfl, hn ▸ (FitL.refl _ _ _).cells, rfl, h1, h2, by rw [h3, h4, h5]; exact ⟨rfl, rfl⟩⟩
 have bad : ∀ (M1 : List (List V)) (y : Int), (∀ k, k < N → M1[k]? = B[k]?) → r = (⟨[], []⟩, y) → ∃ L J2 T2 K w1 w2 e1 e2 y2, (⟨M1, T⟩ : Mem) = ⟨L ++ J2, T2 ++ K⟩ ∧ L.length = N ∧ T2.length = T.length ∧ FitC N T.length B L ∧ V.tup [.agg [.sl [] .full, .sl [] .full], .d (.int .i64 y)] = V.tup [.agg [w1, w2], .d y2] ∧ Deep N (L ++ J2) w1 e1 ∧ Deep N (L ++ J2) w2 e2 ∧ Same (.tup [prV r.1, .d (.int .i64 r.2)]) ⟨B, T⟩ (.tup [.agg [.d e1, .d e2], .d y2]) ⟨L, T2⟩ := fun M1 y h0 h =>
  exit M1 _ _ (.sl []) (.sl []) y h0 (.full []) (.full []) (by rw [h]; rfl) (by rw [h]; rfl) (by rw [h])
 refine ARun.go 160 ?_
 unfold prV
 simp only [W, seval, c9, hn]
 refine callS_fn (hrg _ _) ?_
 rintro _ _ ⟨rfl, rfl⟩
 cases rb
 ·refine ARun.go 60 ?_
  simp only [W, seval, c9, hn]
  refine ret2 (v := ?_) (u := ?_) Tryz.func9 (by rfl) ?_ ?_ ?_
  rotate_left 2
  ·try simp only [W, seval, c9, hn]
   exact rfl
  ·try simp only [W, seval, c9, hn]
   exact rfl
  refine bad _ 2 (fun k hk => bx_old (by omega)) ?_
  exact hres.symm
 rw [if_pos rfl] at hres
 have hhe := hhd (B ++ [[V.d (.sl (p.structs.map suD)), V.d (.sl (p.funcs.map fuD))], [V.sl [] .full, V.sl [] .full], [.kvs [] []], [.kvs [] []], [.mp (N + 2), .mp (N + 3), .undef, .sl [] .full]]) (N + 4) (N + 2) (N + 3) .undef (.sl [] .full) ⟨by rw [bx_loc hn]; rfl, by rw [bx_loc hn]; rfl, by rw [bx_loc hn]; rfl⟩ ⟨by omega, by omega, by omega⟩
 clear hhd hrg
 refine ARun.go 160 ?_
 simp only [W, seval, c9, mpw, hn]
 refine callS_fn hhe ?_
 rintro _ _ ⟨rfl, su', fu', rfl, hsf⟩
 have hset : ((B ++ [[V.d (.sl (p.structs.map suD)), V.d (.sl (p.funcs.map fuD))], [V.sl [] .full, V.sl [] .full], [.kvs [] []], [.kvs [] []], [.mp (N + 2), .mp (N + 3), .undef, .sl [] .full]]).set (N + 2) (suM su')).set (N + 3) (fuM fu') = B ++ [[V.d (.sl (p.structs.map suD)), V.d (.sl (p.funcs.map fuD))], [V.sl [] .full, V.sl [] .full], suM su', fuM fu', [.mp (N + 2), .mp (N + 3), .undef, .sl [] .full]] := by
  rw [List.set_append_right _ _ (by omega), List.set_append_right _ _ (by omega), hn, show N + 2 - N = 2 by omega, show N + 3 - N = 3 by omega]
  rfl
 rw [hset]
 clear hset hhe
 cases hh : headsG p.structs p.funcs
 ·rw [hh, if_neg (by decide)] at hres
  refine ARun.go 60 ?_
  simp only [W, seval, c9, hn]
  refine ret2 (v := ?_) (u := ?_) Tryz.func9 (by rfl) ?_ ?_ ?_
  rotate_left 2
  ·try simp only [W, seval, c9, hn]
   exact rfl
  ·try simp only [W, seval, c9, hn]
   exact rfl
  refine bad _ 52 (fun k hk => bx_old (by omega)) ?_
  exact hres.symm
 obtain ⟨rfl, rfl⟩ := hsf hh
 rw [hh, if_pos rfl] at hres
 refine ARun.go 60 ?_
 simp only [W, seval, c9, hn]
 obtain ⟨M, hM⟩ : ∃ M, M = B ++ [[V.d (.sl (p.structs.map suD)), V.d (.sl (p.funcs.map fuD))], [V.sl [] .full, V.sl [] .full], suM p.structs, fuM p.funcs, [.mp (N + 2), .mp (N + 3), .undef, .sl [] .full]] := ⟨_, rfl⟩
 have hML : M.length = N + 5 := by rw [hM]; simp [hn]
 have mN : M[N]? = some [V.d (.sl (p.structs.map suD)), V.d (.sl (p.funcs.map fuD))] := by rw [hM, bx_loc0 hn]; rfl
 have m1 : M[N + 1]? = some [V.sl [] .full, V.sl [] .full] := by rw [hM, bx_loc hn]; rfl
 have m2 : M[N + 2]? = some (suM p.structs) := by rw [hM, bx_loc hn]; rfl
 have m3 : M[N + 3]? = some (fuM p.funcs) := by rw [hM, bx_loc hn]; rfl
 have m4 : M[N + 4]? = some [.mp (N + 2), .mp (N + 3), .undef, .sl [] .full] := by rw [hM, bx_loc hn]; rfl
 have m0 : ∀ k, k < N → M[k]? = B[k]? := fun k hk => by rw [hM]; exact bx_old (by omega)
 rw [← hM]
 clear hM
 have hstep := fun h => check_region (z := (N, T.length)) (k := [.code (kF Tryz.f9 22)]) (T := T) (R := fun v S' => ∃ L J T2 K v1 v2 d1 d2 y, S' = ⟨L ++ J, T2 ++ K⟩ ∧ L.length = N ∧ T2.length = T.length ∧ FitC N T.length B L ∧ v = V.tup [.agg [v1, v2], .d y] ∧ Deep N (L ++ J) v1 d1 ∧ Deep N (L ++ J) v2 d2 ∧ Same (.tup [.agg [.d (.sl (r.1.structs.map suD)), .d (.sl (r.1.funcs.map fuD))], .d (.int .i64 r.2)]) ⟨B, T⟩ (.tup [.agg [.d d1, .d d2], .d y]) ⟨L, T2⟩) (N := N) (M := M) hT.su hT.fu mN h
 refine ARun.weak ?_ (hstep ?_)
 ·skip
  refine Agree.env _ ?_
  simp only [agw, seval]
 rintro a v2 M0 ⟨c1, c2, c3, c4⟩
 have ha : a < M0.length := (List.getElem?_eq_some_iff.1 c3).1
 have k1 : M0[N + 1]? = some [V.sl [] .full, V.sl [] .full] := (c2 _ (by omega)).trans m1
 have k2 : M0[N + 2]? = some (suM p.structs) := (c2 _ (by omega)).trans m2
 have k3 : M0[N + 3]? = some (fuM p.funcs) := (c2 _ (by omega)).trans m3
 have k4 : M0[N + 4]? = some [.mp (N + 2), .mp (N + 3), .undef, .sl [] .full] := (c2 _ (by omega)).trans m4
 have k0 : ∀ k, k < N → M0[k]? = B[k]? := fun k hk => (c2 k (by omega)).trans (m0 k hk)
 clear m0 m1 m2 m3 m4 c2 hstep mN hh
 have lN1 : N + 1 < M0.length := (List.getElem?_eq_some_iff.1 k1).1
 rcases c4 with ⟨h0, rfl, c5⟩ | ⟨h0, b, cap, J, rfl, c5, c6, c7, c8⟩
 ·rw [h0] at hres
  refine ARun.go 160 ?_
  simp only [W, seval, c9, c3, k1]
  refine ARun.loopW (fun _ : Unit => (envS 95 [(33, .d (.int .i64 0)), (32, .d (.int .i64 0)), (5, .ptr a 0), (2, .ptr (N + 1) 0)], ⟨M0, T⟩)) (fun _ => True) (fun _ => 0) () trivial ?_ rfl ?_
  ·skip
   refine Agree.env _ ?_
   simp only [agw, seval]
  intro _ _ _
  refine ARun.go 160 ?_
  simp only [W, seval, c9, decide_eq_false (show ¬ ((0 : Int) < 0) by decide), c3, k1]
  have hr : r = (⟨p.structs, []⟩, 0) := by rw [← hres]; rfl
  have s1 : ∀ X, (M0.set (N + 1) X)[N + 1]? = some X := fun X => List.getElem?_set_self lN1
  refine ret2 (v := ?_) (u := ?_) Tryz.func9 (by rfl) ?_ ?_ ?_
  rotate_left 2
  ·try simp only [W, seval, c9, s1]
   exact rfl
  ·try simp only [W, seval, c9, s1]
   exact rfl
  refine exit _ _ _ (.sl (p.structs.map suD)) (.sl []) 0 (fun k hk => by rw [List.getElem?_set_ne (by omega), k0 k hk]) (.d _) (.d _) (by rw [hr]) (by rw [hr]; rfl) ?_
  rw [hr]
 have hne : p.funcs.length ≠ 0 := fun e => h0 (List.eq_nil_of_length_eq_zero e)
 have hfu := hT.fu
 have lb : b < M0.length := (List.getElem?_eq_some_iff.1 c7).1
 refine ARun.go 160 ?_
 simp only [W, seval, c9, bxw, c3, k1]
 refine ARun.loopW (fun s : FsSt => (envS 95 [(33, .d (.int .i64 (s.i : Int))), (32, .d (.int .i64 (p.funcs.length : Int))), (5, .ptr a 0), (4, .ptr (N + 4) 0), (2, .ptr (N + 1) 0)], ⟨s.B, T⟩)) (FsOk p M0 N b J) (fun s => p.funcs.length - s.i) ⟨0, [], [], M0⟩ ⟨Nat.zero_le _, ?_, rfl, rfl, Nat.le_refl _, fun _ _ _ _ => rfl, ⟨_, _, k4⟩, by simpa using c7, lb⟩ ?_ rfl ?_
 ·rw [show p.funcs.drop (FsSt.mk 0 [] [] M0).i = p.funcs from rfl]
  cases p.funcs.mapM (checkG1 p.structs p.funcs) <;> rfl
 ·skip
  refine Agree.env _ ?_
  simp only [agw, seval]
 clear h0
 rintro ⟨i, fs, Y, Bi⟩ ⟨h1, h2, h3, h4, h5, h6, ⟨xx, yy, h7⟩, h8, h9⟩ ih
 dsimp only at h1 h2 h3 h4 h5 h6 h7 h8 h9 ih ⊢
 have ca : Bi[a]? = some [.d (.sl (p.structs.map suD)), .bx b p.funcs.length cap] := (h6 a ha (by omega) (by omega)).trans c3
 have q1 : Bi[N + 1]? = some [V.sl [] .full, V.sl [] .full] := (h6 _ lN1 (by omega) (by omega)).trans k1
 have q0 : ∀ k, k < N → Bi[k]? = B[k]? := fun k hk => (h6 k (by omega) (by omega) (by omega)).trans (k0 k hk)
 by_cases hlt : i < p.funcs.length
 case neg =>
  have e2 : decide ((i : Int) < (p.funcs.length : Int)) = false := decide_eq_false (by omega)
  obtain rfl : i = p.funcs.length := by omega
  have hr : r = (⟨p.structs, fs⟩, 0) := by
   rw [← hres, h2, List.drop_length]
   simp
  refine ARun.go 160 ?_
  simp only [W, seval, c9, e2, ca, q1]
  have s1 : ∀ X, (Bi.set (N + 1) X)[N + 1]? = some X := fun X => List.getElem?_set_self (by omega)
  have hd : ∀ X, Deep N (Bi.set (N + 1) X) (.bx b p.funcs.length cap) (.sl (fs.map fuD)) := fun X => by
   rw [← h3]
   refine slV.deep (sz := 4) (f := OwnF (Bi.set (N + 1) X)) (g := fuD) (l := fs) (lo := b) (hi := Bi.length) (by omega) (.inr ⟨by omega, b, cap, _, rfl, Nat.le_refl _, by omega, (List.getElem?_set_ne (by omega)).trans h8, ?_⟩) (by omega) (fun x _ => rfl) (fun x _ a z r ha hf => OwnF.deep ha hf)
   exact (h9.tail _).congr fun x _ a z r ha hz hf => hf.frame fun k _ _ => List.getElem?_set_ne (by omega)
  refine ret2 (v := ?_) (u := ?_) Tryz.func9 (by rfl) ?_ ?_ ?_
  rotate_left 2
  ·try simp only [W, seval, c9, s1]
   exact rfl
  ·try simp only [W, seval, c9, s1]
   exact rfl
  refine exit _ _ _ (.sl (p.structs.map suD)) (.sl (fs.map fuD)) 0 (fun k hk => by rw [List.getElem?_set_ne (by omega), q0 k hk]) (.d _) (hd _) (by rw [hr]) (by rw [hr]) ?_
  rw [hr]
 have e2 : decide ((i : Int) < (p.funcs.length : Int)) = true := decide_eq_true (by omega)
 have hwi := wrap_in ((i : Int) + 1) (by omega)
 have hltI : (i : Int) < (p.funcs.length : Int) := by omega
 obtain ⟨f, hf⟩ : ∃ f, p.funcs[i] = f := ⟨_, rfl⟩
 obtain ⟨g1, g2, g3, g4, g5, g6, g7⟩ := hF f (hf ▸ List.getElem_mem hlt)
 rw [List.drop_eq_getElem_cons hlt, hf, List.map_cons, List.flatten_cons, List.map_append, fuD_row, List.append_assoc, ← List.append_assoc] at h8
 rw [List.drop_eq_getElem_cons hlt, hf, mapM_head] at h2
 obtain ⟨C, hC⟩ : ∃ C, C = ((p.funcs.drop (i + 1)).map fuD).flatten.map V.d ++ J := ⟨_, rfl⟩
 rw [← hC] at h8
 obtain ⟨Z, hZ⟩ : ∃ Z, Z = Y ++ fnRow f (.d (.sl (f.body.map stD))) ++ C := ⟨_, rfl⟩
 rw [← hZ] at h8
 obtain ⟨x1, x2, x3, x4, x5⟩ := frow_at hZ h4
 refine ARun.go 160 ?_
 simp only [W, seval, c9, bxw, e2, hltI, ca, h8, x3, x4]
 refine callS_fn (g2 Bi T) ?_
 intro v S1 n1
 obtain ⟨M1, rfl, l1, p1, o1⟩ := n1.split
 have cv := slV.cells o1
 have b1 : M1[b]? = some Z := (p1 b (by omega)).trans h8
 have b4 : M1[N + 4]? = some [.mp (N + 2), .mp (N + 3), xx, yy] := (p1 _ (by omega)).trans h7
 have xv := x5 v
 obtain ⟨Z1, hZ1⟩ : ∃ Z1, Z1 = Y ++ fnRow f v ++ C := ⟨_, rfl⟩
 rw [← hZ1] at xv
 obtain ⟨y1, y2, y3, y4, _⟩ := frow_at hZ1 h4
 have s4 : (M1.set b Z1)[N + 4]? = some [.mp (N + 2), .mp (N + 3), xx, yy] := by rw [List.getElem?_set_ne (by omega), b4]
 have sb : (M1.set b Z1)[b]? = some Z1 := List.getElem?_set_self (by omega)
 refine ARun.go 4 ?_
 simp only [W, seval, c9, bxw, b1, cv, xv, x4]
 obtain ⟨M2, hM2⟩ : ∃ M2, M2 = M1.set b Z1 := ⟨_, rfl⟩
 rw [← hM2] at s4 sb ⊢
 have l2 : M2.length = M1.length := by rw [hM2, List.length_set]
 have p2 : ∀ k, k < Bi.length → k ≠ b → M2[k]? = Bi[k]? := fun k hk hb => by rw [hM2, List.getElem?_set_ne (Ne.symm hb), p1 k hk]
 have o2 : OwnB M2 f.body Bi.length M1.length v := o1.frame fun k h1 h2 => by rw [hM2]; exact List.getElem?_set_ne (by omega)
 clear x1 x2 x3 x4 x5 xv hZ b1 b4 g2 g3 o1 p1 cv hM2 h8 h7
 have lb2 : b < M2.length := by omega
 have l4 : N + 4 < M2.length := by omega
 have t4 : ∀ X, (M2 ++ [X])[N + 4]? = some [.mp (N + 2), .mp (N + 3), xx, yy] := fun X => (bx_old l4).trans s4
 have tb : ∀ X, (M2 ++ [X])[b]? = some Z1 := fun X => (bx_old lb2).trans sb
 have t5 : ∀ X Q, ((M2 ++ [X]).set (N + 4) Q)[N + 4]? = some Q := fun X Q => List.getElem?_set_self (by rw [List.length_append]; omega)
 have t6 : ∀ X Q, ((M2 ++ [X]).set (N + 4) Q)[b]? = some Z1 := fun X Q => (List.getElem?_set_ne (by omega)).trans (tb X)
 refine ARun.go 160 ?_
 simp only [W, seval, c9, mpw, bxw, t4, t5, t6, tb, y1, y2, y4]
 obtain ⟨w, hw⟩ : ∃ w, M2.length = w := ⟨_, rfl⟩
 rw [hw]
 obtain ⟨M3, hM3⟩ : ∃ M3, M3 = (M2 ++ [[V.kvs [] []]]).set (N + 4) [V.mp (N + 2), V.mp (N + 3), V.mp w, V.d (.sl (f.results.map tyD))] := ⟨_, rfl⟩
 rw [← hM3]
 have l3 : M3.length = w + 1 := by rw [hM3]; simp [hw]
 have p3 : ∀ k, k < w → k ≠ N + 4 → M3[k]? = M2[k]? := fun k hk hn => by rw [hM3, List.getElem?_set_ne (Ne.symm hn), bx_old (by omega)]
 have b3 : M3[b]? = some Z1 := by rw [hM3]; exact t6 _ _
 have K3 : KAt M3 (N + 4) (N + 2) (N + 3) w ⟨p.structs, p.funcs, []⟩ f.results := ⟨by rw [hM3]; exact t5 _ _, by rw [p3 _ (by omega) (by omega), p2 _ (by omega) (by omega), h6 _ (by omega) (by omega) (by omega)]; exact k2, by rw [p3 _ (by omega) (by omega), p2 _ (by omega) (by omega), h6 _ (by omega) (by omega) (by omega)]; exact k3, by rw [hM3, List.getElem?_set_ne (by omega), bx_loc0 hw]; rfl⟩
 have o3 : OwnB M3 f.body Bi.length M1.length v := o2.frame fun k h1 h2 => p3 k (by omega) (by omega)
 clear t4 t5 t6 tb s4 sb o2 hM3 y1 y2
 refine ARun.loopW (fun s : Nat × List (List V) => (envS 95 [(64, .d (.int .i64 (s.1 : Int))), (63, .d (.int .i64 (f.params.length : Int))), (62, .d (.sl (f.params.map paD))), (7, .ptr b (i * 4)), (33, .d (.int .i64 (i : Int))), (32, .d (.int .i64 (p.funcs.length : Int))), (5, .ptr a 0), (4, .ptr (N + 4) 0), (2, .ptr (N + 1) 0)], ⟨s.2, T⟩)) (PsOk f.params M3 w) (fun s => f.params.length - s.1) (0, M3) ⟨Nat.zero_le _, Nat.le_refl _, fun _ _ _ => rfl, K3.w⟩ ?_ rfl ?_
 ·skip
  refine Agree.env _ ?_
  simp only [agw, seval]
 rintro ⟨j, Bj⟩ ⟨i1, i2, i3, i4⟩ ih2
 dsimp only at i1 i2 i3 i4 ih2 ⊢
 have Kj : KAt Bj (N + 4) (N + 2) (N + 3) w ⟨p.structs, p.funcs, f.params.take j⟩ f.results := K3.vars (i3 _ (by omega) (by omega)) (i3 _ (by omega) (by omega)) (i3 _ (by omega) (by omega)) i4 rfl rfl
 by_cases hjt : j < f.params.length
 case pos =>
  have e3 : decide ((j : Int) < (f.params.length : Int)) = true := decide_eq_true (by omega)
  have hwj := wrap_in ((j : Int) + 1) (by omega)
  have hjI : (j : Int) < (f.params.length : Int) := by omega
  have hg := List.getElem?_eq_getElem hjt
  have hput := fun J T => Kj.putV (g5 j hjt) (f.params[j]).type J T
  obtain ⟨q, hq⟩ : ∃ q, f.params[j] = q := ⟨_, rfl⟩
  rw [hq] at hg hput
  have htk : f.params.take j ++ [⟨q.name, q.type⟩] = f.params.take (j + 1) := by rw [List.take_succ_eq_append_getElem hjt, hq]
  dsimp only at hput
  rw [htk] at hput
  unfold tyV at hput
  have hcj := Kj.c
  unfold cBox at hcj
  have h4j : N + 4 < Bj.length := by omega
  have hjl : Bj.length ≠ N + 4 := by omega
  have t4 : ∀ X, (Bj ++ [X])[N + 4]? = _ := fun X => (bx_old h4j).trans hcj
  refine ARun.go 160 ?_
  simp only [W, seval, c9, bxw, e3, hjI, List.getElem?_map, hg, paD_eq]
  refine ARun.drawX 8 [] [N + 4, Bj.length] (by kernel_rfl) (by kernel_rfl) (by kernel_rfl) (by kernel_rfl) (by kernel_rfl) (by kernel_rfl) (by kernel_rfl) ?_
  simp (maxSteps := 4000000) only [W, seval, c9, xw, mpw, bxw, t4, hput]
  refine ARun.go 60 ?_
  simp only [W, seval, c9, hwj]
  have hwl : w < Bj.length := by omega
  refine ih2 ⟨j + 1, Bj.set w (vaM (f.params.take (j + 1))) ++ [[.d (.str q.name), .d (.int .i64 q.type.kind), .d (.str q.type.name), .d (.sl (q.type.elem.map tyD))]]⟩ ⟨hjt, ?_, fun k hk hn => ?_, ?_⟩ (by dsimp only; omega) _ _ ?_ rfl
  ·show M3.length ≤ (_ ++ _ : List (List V)).length
   rw [List.length_append, List.length_set]
   omega
  ·show (_ ++ _ : List (List V))[k]? = _
   rw [bx_old (by rw [List.length_set]; omega), List.getElem?_set_ne (Ne.symm hn), i3 k hk hn]
  ·show (_ ++ _ : List (List V))[w]? = _
   rw [bx_old (by rw [List.length_set]; omega), List.getElem?_set_self hwl]
  ·skip
   refine Agree.env _ ?_
   simp only [agw, seval]
 have e3 : decide ((j : Int) < (f.params.length : Int)) = false := decide_eq_false (by omega)
 obtain rfl : j = f.params.length := by omega
 rw [List.take_length] at Kj
 clear ih2 i4
 have bj : Bj[b]? = some Z1 := (i3 _ (by omega) (by omega)).trans b3
 have oj : OwnB Bj f.body Bi.length M1.length v := o3.frame fun k _ _ => i3 k (by omega) (by omega)
 have hbk : BkAt Bj Bj.length (N + 4) (N + 2) (N + 3) w ⟨p.structs, p.funcs, f.params⟩ f.results Bi.length M1.length v f.body := ⟨Kj, oj, .inl (by omega), .inl (by omega), .inl (by omega), .inr (by omega), ⟨by omega, by omega, by omega⟩, ⟨by omega, by omega, by omega, by omega, by omega⟩, Nat.le_refl _⟩
 have hcl := g1 f.params Bj.length (N + 4) (N + 2) (N + 3) w Bj T Bi.length M1.length v g7 hbk
 have oldj : ∀ k, k < Bi.length → k ≠ b → k ≠ N + 4 → Bj[k]? = Bi[k]? := fun k a b c => by rw [i3 k (by omega) (by omega), p3 k (by omega) c, p2 k a b]
 clear hbk o3 oj b3 K3 p3 p2
 refine ARun.go 160 ?_
 simp only [W, seval, c9, bxw, e3, bj, y3, y4]
 refine callS_fn hcl ?_
 rintro _ _ ⟨B4, rfl, ⟨d1, d2, d3⟩, rfl⟩
 have dk : ∀ k, k < Bi.length → B4[k]? = Bj[k]? := fun k hk => d1.2.1 k (by omega) (by omega) (by omega) (.inl hk)
 have b4 : B4[b]? = some Z1 := (dk b (by omega)).trans bj
 have z1 : B4[N + 1]? = some [V.sl [] .full, V.sl [] .full] := by rw [dk _ (by omega), oldj _ (by omega) (by omega) (by omega)]; exact q1
 have s1 : ∀ X, (B4.set (N + 1) X)[N + 1]? = some X := fun X => List.getElem?_set_self (by omega)
 have hpre : ∀ X k, k < N → (B4.set (N + 1) X)[k]? = B[k]? := fun X k hk => by rw [List.getElem?_set_ne (by omega), dk k (by omega), oldj k (by omega) (by omega) (by omega), q0 k hk]
 clear hcl bj
 have hcg : ∀ x, blockS p.structs p.funcs f.results f.body f.params = x → checkG1 p.structs p.funcs f = (match x with
  | some b => if endsL f.body = true then some ⟨f.name, f.params, f.results, b⟩ else none
  | none => none) := fun x hx => by rw [← hx]; rfl
 obtain ⟨rb, hrb⟩ : ∃ x, blockS p.structs p.funcs f.results f.body f.params = x := ⟨_, rfl⟩
 rw [hrb] at d3 ⊢
 rw [hcg _ hrb] at h2
 clear hcg
 cases rb with
 | none =>
  have hr : r = (⟨[], []⟩, 52) := by rw [← hres, h2]
  refine ARun.go 160 ?_
  simp only [W, seval, c9, z1, Option.isSome_none, Bool.not_false]
  refine ret2 (v := ?_) (u := ?_) Tryz.func9 (by rfl) ?_ ?_ ?_
  rotate_left 2
  ·try simp only [W, seval, c9, s1]
   exact rfl
  ·try simp only [W, seval, c9, s1]
   exact rfl
  refine bad _ 52 (hpre _) ?_
  exact hr
 | some l =>
  obtain ⟨u1, u2⟩ := d3 l rfl
  have hbr := blockS_bare _ _ _ _ _ _ hrb
  have hec := g4 l hbr B4 T Bi.length M1.length v u1 (by omega)
  have hes := ends_same hbr
  rw [hes] at hec
  clear u2 d3
  refine ARun.go 160 ?_
  simp only [W, seval, c9, bxw, Option.isSome_some, Bool.not_true, b4, y3, y4]
  refine callS_fn hec ?_
  rintro _ _ ⟨rfl, rfl⟩
  cases hen : endsL f.body
  ·rw [hen] at h2
   have hr : r = (⟨[], []⟩, 52) := by rw [← hres, h2]; rfl
   refine ARun.go 160 ?_
   simp only [W, seval, c9, z1, Bool.not_false]
   refine ret2 (v := ?_) (u := ?_) Tryz.func9 (by rfl) ?_ ?_ ?_
   rotate_left 2
   ·try simp only [W, seval, c9, s1]
    exact rfl
   ·try simp only [W, seval, c9, s1]
    exact rfl
   refine bad _ 52 (hpre _) ?_
   exact hr
  ·rw [hen] at h2
   dsimp only at h2
   rw [if_pos rfl] at h2
   dsimp only at h2
   refine ARun.go 160 ?_
   simp only [W, seval, c9, hwi, Bool.not_true]
   refine ih ⟨i + 1, fs ++ [⟨f.name, f.params, f.results, l⟩], Y ++ fnRow f v, B4⟩ ⟨hlt, h2, ?_, ?_, ?_, fun k hk hb hn => ?_, ⟨_, _, (dk _ (by omega)).trans Kj.c⟩, ?_, ?_⟩ (by dsimp only; omega) _ _ ?_ rfl
   ·show (fs ++ [_]).length = i + 1
    rw [List.length_append, h3]
    rfl
   ·show (Y ++ fnRow f v).length = (i + 1) * 4
    rw [List.length_append, h4]
    show i * 4 + 4 = _
    omega
   ·show M0.length ≤ B4.length
    omega
   ·show B4[k]? = _
    rw [dk k (by omega), oldj k (by omega) hb hn, h6 k hk hb hn]
   ·show B4[b]? = _
    rw [b4, hZ1, List.append_assoc, ← hC, List.append_assoc]
   ·show rowsV 4 (OwnF B4) (fs ++ [_]) (b + 1) B4.length (Y ++ fnRow f v)
    refine rowsV.snoc (sz := 4) (m := Bi.length) (f := OwnF B4) rfl (by omega) (fun a ha => ⟨v, Bi.length, M1.length, ha, by omega, rfl, u1⟩) (h9.congr fun x _ a z r ha hz hf => hf.frame fun k _ _ => ?_) (by rw [h4, h3])
    rw [dk k (by omega), oldj k (by omega) (by omega) (by omega)]
   ·skip
    refine Agree.env _ ?_
    simp only [agw, seval]
end
theorem andS_up {f g : Int → Bool × Int} {n p : Int} (hf : Cnts f n) (hp : 0 ≤ p) (h : (andS f g p).1 = true) : (f p).1 = true ∧ 0 ≤ (f p).2 ∧ (g (f p).2).1 = true := by
 obtain ⟨h1, h2⟩ := andS_true h
 have := hf.up p h1
 exact ⟨h1, by omega, h2⟩
theorem part_up {g : Int → Bool × Int} {m d q : Int} (hg : Cnts g m) (h : (andS (partS d) g q).1 = true) : q + 1 ≤ 60000 ∧ q + 1 ≤ (andS (partS d) g q).2 := by
 obtain ⟨h1, h2⟩ := andS_true h
 have h3 : partOk d q = true := h1
 unfold partOk at h3
 rw [Bool.and_eq_true, decide_eq_true_iff, decide_eq_true_iff] at h3
 refine ⟨h3.1, ?_⟩
 have h4 := hg.up (q + 1) h2
 unfold andS
 rw [if_neg (by rw [h1]; decide)]
 exact h4
def Pos {α : Type} (f : α → Int → Bool × Int) (x : α) : Prop := ∀ q, (f x q).1 = true → q + 1 ≤ 60000 ∧ q + 1 ≤ (f x q).2
theorem rowS_up {α : Type} {f : α → Int → Bool × Int} : ∀ (l : List α) (p : Int), (∀ x ∈ l, Pos f x) → 0 ≤ p → (rowS f l p).1 = true → (l = [] ∨ p + l.length ≤ 60000) ∧ ∀ x ∈ l, ∃ q, 0 ≤ q ∧ (f x q).1 = true
 | [], _, _, _, _ => ⟨.inl rfl, fun _ hx => absurd hx List.not_mem_nil⟩
 | x :: l, p, hc, hp, h => by
  obtain ⟨h1, h2⟩ := andS_true (f := f x) (g := rowS f l) h
  obtain ⟨a1, a2⟩ := hc x List.mem_cons_self p h1
  obtain ⟨b1, b2⟩ := rowS_up l _ (fun y hy => hc y (List.mem_cons_of_mem _ hy)) (by omega) h2
  refine ⟨.inr ?_, fun y hy => ?_⟩
  ·rcases b1 with rfl | b1
   ·simp; omega
   ·simp only [List.length_cons]; omega
  ·rcases List.mem_cons.1 hy with rfl | hy
   ·exact ⟨p, hp, h1⟩
   ·exact b2 y hy
theorem rowS_few {α : Type} {f : α → Int → Bool × Int} {l : List α} {p : Int} (hc : ∀ x ∈ l, Pos f x) (hp : 0 ≤ p) (h : (rowS f l p).1 = true) : l.length ≤ 60000 := by
 rcases (rowS_up l p hc hp h).1 with rfl | h
 ·simp
 ·omega
theorem exS_few {k : Int} {t : List UInt8} {i : Int} {ty : TyT} {ns : List (List UInt8)} {ks : List ExT} {d p : Int} (h : (exS (.mk k t i ty ns ks) d p).1 = true) : ks.length ≤ 30000 ∧ ∃ q, (exsS ks (d + 1) q).1 = true := by
 unfold exS at h
 split at h
 ·cases h
 split at h
 ·cases h
 rename_i h2
 split at h
 ·cases h
 refine ⟨?_, _, h⟩
 have : mostS k ≤ 30000 := by unfold mostS; split <;> omega
 omega
mutual
theorem sh_expr : ∀ (x : ExT) (d p : Int), (exS x d p).1 = true → ShE x
 | .mk k t i ty ns ks, d, p, h => by
  obtain ⟨h1, q, h2⟩ := exS_few h
  exact .mk _ h1 (sh_exprs ks _ q h2)
theorem sh_exprs : ∀ (l : List ExT) (d p : Int), (exsS l d p).1 = true → ∀ x ∈ l, ShE x
 | [], _, _, _, _, hx => absurd hx List.not_mem_nil
 | y :: l, d, p, h, x, hx => by
  unfold exsS at h
  split at h
  ·cases h
  rename_i h1
  rcases List.mem_cons.1 hx with e | hx
  ·rw [e]; exact sh_expr y d p (by simpa using h1)
  ·exact sh_exprs l d _ h x hx
end
theorem exs40_sh {l : List ExT} {d p : Int} (h : (exs40 l d p).1 = true) : l.length ≤ 60000 ∧ ∀ x ∈ l, ShE x := by
 obtain ⟨h1, h2⟩ := andS_true (f := fun p => exsS l d p) h
 have h2 : decide (l.length ≤ 40) = true := h2
 have := of_decide_eq_true h2
 exact ⟨by omega, sh_exprs l d p h1⟩
theorem st_pos : ∀ (n : Nat) (d : Int) (x : StT), Pos (fun x => stS n x d) x
 | 0, _, _ => fun _ h => by cases h
 | n + 1, d, s => by
  have hb := Cnts.row (f := fun x => stS n x (d + 1)) (c := stC n) s.body fun x _ => Cnts.st n x (d + 1)
  have he := Cnts.row (f := fun x => stS n x (d + 1)) (c := stC n) s.els fun x _ => Cnts.st n x (d + 1)
  have hty : Cnts (if s.kind = 1 then fun p => tyS identS s.type (d + 1) p else allowS true) (if s.kind = 1 then tcS s.type else 0) := by
   by_cases hk : s.kind = 1
   ·rw [if_pos hk, if_pos hk]; exact Cnts.ty s.type (d + 1)
   ·rw [if_neg hk, if_neg hk]; exact Cnts.allow true
  have h := ((Cnts.allow (sizedS s && decide (s.cases.length ≤ 40))).and (hty.and ((Cnts.cas (fun s d => Cnts.st n s d) d s.cases []).and ((Cnts.exs40 s.lefts (d + 1)).and ((Cnts.exs40 s.exprs (d + 1)).and (hb.and he))))))
  exact fun q hq => part_up h hq
theorem casS_up {R : StT → Int → Int → Bool × Int} {c : StT → Int} (hR : ∀ s d, Cnts (R s d) (c s)) (hP : ∀ d s, Pos (fun x => R x d) s) (d : Int) : ∀ (l : List CaT) (seen : List Int) (p : Int), 0 ≤ p → (casS R d seen l p).1 = true → ∀ k ∈ l, k.body.length ≤ 60000 ∧ ∀ y ∈ k.body, ∃ q, 0 ≤ q ∧ (R y (d + 2) q).1 = true
 | [], _, _, _, _, _, hk => absurd hk List.not_mem_nil
 | k :: l, seen, p, hp, h, x, hx => by
  rw [casS_cons] at h
  obtain ⟨_, p1, h⟩ := andS_up (Cnts.part (d + 1)) hp h
  obtain ⟨_, p2, h⟩ := andS_up (Cnts.allow _) p1 h
  obtain ⟨h1, p3, h⟩ := andS_up (Cnts.row (f := fun s => R s (d + 2)) (c := c) k.body fun s _ => hR s (d + 2)) p2 h
  rcases List.mem_cons.1 hx with e | hx
  ·rw [e]
   exact ⟨rowS_few (f := fun s => R s (d + 2)) (fun y _ => hP _ y) p2 h1, (rowS_up (f := fun s => R s (d + 2)) _ _ (fun y _ => hP _ y) p2 h1).2⟩
  ·exact casS_up hR hP d l _ _ p3 h x hx
theorem sh_stmt : ∀ (n : Nat) (x : StT) (d p : Int), 0 ≤ p → (stS n x d p).1 = true → ShS x
 | 0, _, _, _, _, h => by cases h
 | n + 1, s, d, p, hp, h => by
  rw [stS_eq] at h
  have hty : ∃ m, Cnts (if s.kind = 1 then fun p => tyS identS s.type (d + 1) p else allowS true) m := by
   by_cases hk : s.kind = 1
   ·rw [if_pos hk]; exact ⟨_, Cnts.ty s.type (d + 1)⟩
   ·rw [if_neg hk]; exact ⟨_, Cnts.allow true⟩
  obtain ⟨_, hty⟩ := hty
  obtain ⟨_, p1, h⟩ := andS_up (Cnts.part d) hp h
  obtain ⟨hz, p2, h⟩ := andS_up (Cnts.allow _) p1 h
  obtain ⟨_, p3, h⟩ := andS_up hty p2 h
  obtain ⟨hc, p4, h⟩ := andS_up (Cnts.cas (fun s d => Cnts.st n s d) d s.cases []) p3 h
  obtain ⟨hl, p5, h⟩ := andS_up (Cnts.exs40 s.lefts (d + 1)) p4 h
  obtain ⟨hx, p6, h⟩ := andS_up (Cnts.exs40 s.exprs (d + 1)) p5 h
  obtain ⟨hb, p7, he⟩ := andS_up (Cnts.row (f := fun x => stS n x (d + 1)) (c := stC n) s.body fun x _ => Cnts.st n x (d + 1)) p6 h
  have hz : (sizedS s && decide (s.cases.length ≤ 40)) = true := hz
  rw [Bool.and_eq_true, decide_eq_true_iff] at hz
  have up : ∀ (l : List StT) (p : Int), 0 ≤ p → (rowS (fun x => stS n x (d + 1)) l p).1 = true → l.length ≤ 60000 ∧ ∀ y ∈ l, ShS y := fun l p hp h =>
   ⟨rowS_few (f := fun x => stS n x (d + 1)) (fun y _ => st_pos n _ y) hp h, fun y hy => by
    obtain ⟨q, hq, h⟩ := (rowS_up (f := fun x => stS n x (d + 1)) _ _ (fun y _ => st_pos n _ y) hp h).2 y hy
    exact sh_stmt n y _ q hq h⟩
  have hcs := casS_up (fun s d => Cnts.st n s d) (fun d s => st_pos n d s) d s.cases [] _ p3 hc
  exact .mk s (exs40_sh hl).1 (exs40_sh hx).1 (by omega) (up _ _ p6 hb).1 (up _ _ p7 he).1 (exs40_sh hl).2 (exs40_sh hx).2 (up _ _ p6 hb).2 (up _ _ p7 he).2 (fun c hc => (hcs c hc).1) fun c hc y hy => by
   obtain ⟨q, hq, h⟩ := (hcs c hc).2 y hy
   exact sh_stmt n y _ q hq h
theorem atN_no {α : Type} (nm : α → List UInt8) : ∀ (l : List α) (n : List UInt8), n ∉ l.map nm → atN nm l n = none
 | [], _, _ => rfl
 | x :: l, n, h => by
  unfold atN
  rw [if_neg (fun e => h (by rw [← e]; simp))]
  exact atN_no nm l n fun hm => h (by simp [List.mem_cons] at hm ⊢; exact .inr hm)
theorem diff_no {l : List (List UInt8)} : ∀ (j : Nat), j ≤ l.length → diffS j l = true → ∀ i (h : i < l.length), i < j → l[i] ∉ l.take i
 | 0, _, _, _, _, hi => absurd hi (Nat.not_lt_zero _)
 | j + 1, hj, h, i, hl, hi => by
  rw [diffS_succ j l (by omega)] at h
  simp only [Bool.and_eq_true, Bool.not_eq_true'] at h
  by_cases e : i = j
  ·subst e
   intro hm
   rw [List.contains_iff_mem.2 hm] at h
   cases h.2
  ·exact diff_no j (by omega) h.1.1 i hl (by omega)
theorem pas_few {most : Nat} {l : List PaT} {p : Int} (h : (paS most l p).1 = true) (hm : most ≤ 60000) : l.length ≤ 60000 ∧ (∀ x ∈ l, TW x.type) ∧ ∀ i (h : i < l.length), atN PaT.name (l.take i) (l[i]).name = none := by
 obtain ⟨h1, h2⟩ := andS_true (f := rowS (fun x : PaT => andS (partS 0) (fun p => tyS identS x.type 0 p)) l) h
 have h2 : (decide (l.length ≤ most) && diffS l.length (l.map PaT.name)) = true := h2
 rw [Bool.and_eq_true, decide_eq_true_iff] at h2
 refine ⟨by omega, fun x hx => TW.of_ok (ok_pas h x hx).2, fun i hi => atN_no _ _ _ ?_⟩
 have := diff_no (l := l.map PaT.name) l.length (by simp) h2.2 i (by simpa using hi) hi
 rw [← List.map_take] at this
 simpa using this
theorem right_few {n : Nat} {x : PrT} (h : (prS n x 0).1 = true) (hn : numPr x) : EnvT x.structs x.funcs ∧ ∀ f ∈ x.funcs, FnG x.structs x.funcs f := by
 have hok := ok_prog h hn
 obtain ⟨h1, p1, h2⟩ := andS_up (f := rowS suS x.structs) (Cnts.row (f := suS) (c := suC) x.structs fun s _ => Cnts.su s) (Int.le_refl _) h
 have hsp : ∀ s ∈ x.structs, Pos suS s := fun s _ q hq => part_up ((Cnts.allow (identS s.name)).and (Cnts.pa 60 s.fields)) hq
 have hfp : ∀ f ∈ x.funcs, Pos (fuS n) f := fun f _ q hq => part_up ((Cnts.allow (identS f.name)).and ((Cnts.pa 20 f.params).and ((Cnts.allow (decide (1 ≤ f.results.length) && decide (f.results.length ≤ 20))).and ((Cnts.row (f := fun t p => tyS identS t 0 p) (c := tcS) f.results fun t _ => Cnts.ty t 0).and
  (Cnts.row (f := fun s => stS n s 0) (c := stC n) f.body fun s _ => Cnts.st n s 0))))) hq
 have hfs := (rowS_up _ _ hfp p1 h2).2
 have hss := (rowS_up _ _ hsp (Int.le_refl _) h1).2
 have key : ∀ f ∈ x.funcs, (f.params.length ≤ 60000 ∧ f.results.length ≤ 60000 ∧ (∀ p ∈ f.params, TW p.type) ∧ ∀ t ∈ f.results, TW t) ∧ (∀ i (h : i < f.params.length), atN PaT.name (f.params.take i) (f.params[i]).name = none) ∧ f.body.length ≤ 60000 ∧ ∀ s ∈ f.body, ShS s := fun f hf => by
  obtain ⟨q, hq, h⟩ := hfs f hf
  obtain ⟨_, q1, h⟩ := andS_up (Cnts.part 0) hq h
  obtain ⟨_, q2, h⟩ := andS_up (Cnts.allow (identS f.name)) q1 h
  obtain ⟨hpa, q3, h⟩ := andS_up (Cnts.pa 20 f.params) q2 h
  obtain ⟨hre, q4, h⟩ := andS_up (Cnts.allow _) q3 h
  obtain ⟨hrt, q5, h⟩ := andS_up (Cnts.row (f := fun t p => tyS identS t 0 p) (c := tcS) f.results fun t _ => Cnts.ty t 0) q4 h
  have hre : (decide (1 ≤ f.results.length) && decide (f.results.length ≤ 20)) = true := hre
  rw [Bool.and_eq_true, decide_eq_true_iff, decide_eq_true_iff] at hre
  obtain ⟨a1, a2, a3⟩ := pas_few hpa (by omega)
  have up := rowS_up (f := fun s => stS n s 0) _ _ (fun y _ => st_pos n _ y) q5 h
  refine ⟨⟨a1, by omega, a2, fun t ht => TW.of_ok ((hok.2 f hf).2.2.2.1 t ht)⟩, a3, rowS_few (f := fun s => stS n s 0) (fun y _ => st_pos n _ y) q5 h, fun s hs => ?_⟩
  obtain ⟨q, hq, h⟩ := up.2 s hs
  exact sh_stmt n s _ q hq h
 have hE : EnvT x.structs x.funcs := ⟨rowS_few hsp (Int.le_refl _) h1, rowS_few hfp p1 h2, fun s hs => by
  obtain ⟨q, hq, h⟩ := hss s hs
  obtain ⟨_, q1, h⟩ := andS_up (Cnts.part 0) hq h
  obtain ⟨_, q2, h⟩ := andS_up (Cnts.allow (identS s.name)) q1 h
  obtain ⟨a1, a2, _⟩ := pas_few h (by omega)
  exact ⟨a1, a2⟩, fun f hf => (key f hf).1⟩
 refine ⟨hE, fun f hf => ?_⟩
 obtain ⟨⟨b1, b2, b3, b4⟩, b5, b6, b7⟩ := key f hf
 have hst := (hok.2 f hf).2.2.2.2
 exact ⟨blockG_ab hE hst b7 b6, stmts_all b7 b6, mkBs fun s hs => mkS (b7 s hs), fun l e => ends_all l (ShB.all (fun y hy => OkS.shb (hst y hy) (b7 y hy)) e) (by have := congrArg List.length e; rw [brSs_map, brSs_map, List.length_map, List.length_map] at this; omega), b5, b1, b3⟩
def c8 := by
 have c := KK_of Tryz.f8 (by conv => lhs; cbv)
 dsimp only [KK, KxP, doO, opO, List.map_cons, List.map_nil, List.toList_toArray] at c
 exact c
theorem b8 : FnIs Tryz.prog 8 Tryz.f8 59 := ⟨Tryz.func8, by kernel_rfl⟩
def c22 := by
 have c := KK_of Tryz.f22 (by conv => lhs; cbv)
 dsimp only [KK, KxP, doO, opO, List.map_cons, List.map_nil, List.toList_toArray] at c
 exact c
theorem b22 : FnIs Tryz.prog 22 Tryz.f22 40 := ⟨Tryz.func22, by kernel_rfl⟩
theorem rgy1 : rgP (pgT 4 noT) = true := by kernel_rfl
theorem rgy2 : rgP (pgT 2 noT) = true := by kernel_rfl
theorem ckg1 : checkG true (pgT 4 noT) = (pgT 4 (.mk 4 [] []), 0) := by kernel_rfl
theorem ckg2 : checkG true (pgT 2 noT) = (⟨[], []⟩, 52) := by kernel_rfl
theorem numy (k : Int) : numPr (pgT k noT) := by
 intro f hf
 obtain rfl := List.mem_singleton.1 hf
 simp [numSs, numS, numEs, numE, numCs]
theorem chk1_ab (B : List (List V)) (T : List (Nat × Nat)) : AFn Tryz.prog TabI 9 [prV (pgT 4 noT)] ⟨B, T⟩ (Same (.tup [prV (pgT 4 (.mk 4 [] [])), .d (.int .i64 0)]) ⟨B, T⟩) := by
 obtain ⟨h1, h2⟩ := right_few rgy1 (numy 4)
 have := check_gt (B := B) (T := T) h1 h2 (rb := true) (fun B T => rgy1 ▸ rgP_ab (pgT 4 noT) B T)
 rwa [ckg1] at this
theorem chk2_ab (B : List (List V)) (T : List (Nat × Nat)) : AFn Tryz.prog TabI 9 [prV (pgT 2 noT)] ⟨B, T⟩ (Same (.tup [prV ⟨[], []⟩, .d (.int .i64 52)]) ⟨B, T⟩) := by
 obtain ⟨h1, h2⟩ := right_few rgy2 (numy 2)
 have := check_gt (B := B) (T := T) h1 h2 (rb := true) (fun B T => rgy2 ▸ rgP_ab (pgT 2 noT) B T)
 rwa [ckg2] at this
def fnT : FuT := ⟨[102], [⟨[97], .mk 4 [] []⟩], [.mk 4 [] []], [.mk 6 [] noT [] [.mk 6 [43] 0 noT [] [.mk 1 [97] 0 noT [] [], .mk 2 [] 1 (.mk 4 [] []) [] []]] [] [] []]⟩
theorem fnT_eq : (pgT 4 (.mk 4 [] [])).funcs = [fnT] := rfl
set_option maxHeartbeats 4000000 in
theorem one_ab (S : Mem) : AFn Tryz.prog TabI 22 [fuV fnT] S (Same (.d (.int .i64 4)) S) := by
 refine AFn.same (v := .d (.int .i64 4)) ?_ rfl rfl S
 unfold fuV fnT
 simp only [List.map_cons, List.map_nil, stD_eq, exD_eq, StT.exprs, ExT.kids]
 refine b22.go 200 rfl fun _ => ?_
 simp only [W, seval, c22, List.map_cons, List.map_nil]
 refine ARun.ret Tryz.func22 rfl (Left.empty ?_)
 exact ⟨rfl, rfl⟩
set_option maxHeartbeats 8000000 in
theorem works27_ab (S : Mem) : AFn Tryz.prog TabI 8 [] S (Same (.d (.bool true)) S) := by
 refine AFn.same (v := .d (.bool true)) ?_ rfl rfl S
 have hP := AFn.sameW parseA_ab (args := [.sl (byD txA) .full]) (by simp [wkL, wk]) rfl
 have hQ := AFn.sameW parseB_ab (args := [.sl (byD txB) .full]) (by simp [wkL, wk]) rfl
 have hC := fun B => chk1_ab B []
 have hD := fun B => chk2_ab B []
 have hO := one_ab
 have hn : (TyT.mk 0 [] []) = noT := rfl
 rw [hn] at hP hQ
 unfold prV at hP hQ hC hD
 rw [fnT_eq] at hC
 unfold fuV at hO
 have hl : decide ((([fnT].length : Nat) : Int) = 1) = true := rfl
 refine b8.go 60 rfl fun _ => ?_
 simp only [W, seval, c8, mapD_nil, mapD_cons, Nat.reduceMul]
 refine callS_fn (hP _) ?_
 rintro _ _ ⟨rfl, rfl⟩
 refine ARun.go 60 ?_
 simp only [W, seval, c8, mapD_nil, mapD_cons, Nat.reduceMul]
 refine callS_fn (hQ _) ?_
 rintro _ _ ⟨rfl, rfl⟩
 refine ARun.go 60 ?_
 simp only [W, seval, c8, mapD_nil, mapD_cons, Nat.reduceMul]
 refine callS_fn (hC _) ?_
 rintro _ _ ⟨rfl, rfl⟩
 refine ARun.go 60 ?_
 simp only [W, seval, c8, mapD_nil, mapD_cons, Nat.reduceMul]
 refine callS_fn (hD _) ?_
 rintro _ _ ⟨rfl, rfl⟩
 refine ARun.go 160 ?_
 simp only [W, seval, c8, mapD_nil, mapD_cons, Nat.reduceMul, hl, fuD_eq]
 refine callS_fn (hO _) ?_
 rintro _ _ ⟨rfl, rfl⟩
 refine ARun.go 160 ?_
 simp only [W, seval, c8]
 refine ARun.ret Tryz.func8 rfl (Left.empty ?_)
 exact ⟨rfl, rfl⟩
def c4 := by
 have c := KK_of Tryz.f4 (by conv => lhs; cbv)
 dsimp only [KK, KxP, doO, opO, List.map_cons, List.map_nil, List.toList_toArray] at c
 exact c
theorem b4 : FnIs Tryz.prog 4 Tryz.f4 22 := ⟨Tryz.func4, by kernel_rfl⟩
set_option maxHeartbeats 4000000 in
theorem kinds_ab (k : Int) : AFn Tryz.prog TabI 4 [.d (.int .i64 k)] ⟨[], []⟩ (Same (.d (.bool true)) ⟨[], []⟩) := by
 have h1 := most_gt k
 have h2 := fun S : Mem => mostR_ab k S.boxes S.toks
 have h3 := signed_gt k
 refine b4.go 60 rfl fun hsm => ?_
 simp only [smw] at hsm
 simp only [W, seval, c4]
 refine callS_fn (h1 _) ?_
 rintro _ _ ⟨rfl, rfl⟩
 refine ARun.go 60 ?_
 simp only [W, seval, c4]
 refine callS_fn (h2 ⟨[], []⟩) ?_
 rintro _ _ ⟨rfl, rfl⟩
 refine ARun.go 60 ?_
 simp only [W, seval, c4, decide_true]
 refine callS_fn (h3 _) ?_
 rintro _ _ ⟨rfl, rfl⟩
 by_cases e3 : k = 3
 ·refine ARun.go 60 ?_
  simp only [W, seval, c4, e3, decide_true, true_or]
  refine callS_fn (works27_ab _) ?_
  rintro _ _ ⟨rfl, rfl⟩
  refine ARun.go 60 ?_
  simp only [W, seval, c4]
  refine ARun.ret Tryz.func4 rfl (Left.empty ?_)
  exact ⟨rfl, rfl⟩
 by_cases e4 : k = 4
 ·refine ARun.go 60 ?_
  simp only [W, seval, c4, e4, decide_true, or_true, decide_eq_false (show ¬ (4 : Int) = 3 by decide)]
  refine callS_fn (works27_ab _) ?_
  rintro _ _ ⟨rfl, rfl⟩
  refine ARun.go 60 ?_
  simp only [W, seval, c4]
  refine ARun.ret Tryz.func4 rfl (Left.empty ?_)
  exact ⟨rfl, rfl⟩
 ·refine ARun.go 60 ?_
  simp only [W, seval, c4, decide_eq_false e3, decide_eq_false e4, decide_eq_false (show ¬ (k = 3 ∨ k = 4) by omega), decide_true]
  refine callS_fn (works27_ab _) ?_
  rintro _ _ ⟨rfl, rfl⟩
  refine ARun.go 60 ?_
  simp only [W, seval, c4]
  refine ARun.ret Tryz.func4 rfl (Left.empty ?_)
  exact ⟨rfl, rfl⟩
end Go.Proofs.YtnfnbjjnjjdjdaaGreatDoor
namespace Go.Ab
open Go.ChangeShapes Go.WideShapes Go.ChangeAt Go.RowKit Go.Av
section
variable {P : Program} {H : Type} {enc : TypeId × Value → H} {W : World} {sp : Nat → Bool} {held : Bool}
abbrev NewM (W : World) : Nat → Nat → Prop := fun g _ => W.heap.size ≤ g
end
def cx0 (W : World) (I : Inv) : Cx := ⟨W.heap.size, [], [], I, fun _ _ => False, fun _ _ h => h.elim⟩
theorem DR.first {W : World} {I : Inv} {x : D} {v : Value} (h : DR (NewM W) W x v) : DR (cx0 W I).M W x v := h.mono fun g k v _ hv => ⟨by
 rintro ((hm | hm) | ⟨t, i, off, ht, _⟩)
 ·exact hm
 ·simp [cx0] at hm
 ·simp [cx0] at ht, hv⟩
theorem Rep.first {W : World} {I : Inv} (h2 : I.top ≤ W.heap.size) (hI : ∀ w', Below W.heap.size W w' → I.holds w') : Rep (cx0 W I) W ⟨[], []⟩ :=
 ⟨⟨h2, Nat.le_refl _⟩, rfl, fun i b h => by simp [cx0] at h, fun i j b h => by simp [cx0] at h, rfl, fun t i h => by simp [cx0] at h, fun t t' i i' g off off' h => by simp [cx0] at h, hI⟩
theorem AFn.law {P : Program} {I : Inv} {f : FuncId} {args : List V} {b : Bool} (h : AFn P I f args ⟨[], []⟩ (fun v _ => v = .d (.bool b))) {W : World} {xs : Array Value} (h2 : I.top ≤ W.heap.size) (hI : ∀ w', Below W.heap.size W w' → I.holds w') (hs : xs.size = args.length) (hv : ∀ j (h : j < args.length), VR (cx0 W I) W args[j] (xs.getD j undef)) :
 Calls P f xs W fun e w' => e = .returned (.bool b) ∧ Below W.heap.size W w' := by
 refine (h.2 (cx0 W I) W xs hs hv (.first h2 hI) rfl).mono ?_
 rintro e w' ⟨v, x, S', c', rfl, rfl, _, hx, hvr⟩
 cases hvr with
 | d _ _ hd => cases hd with
  | bool _ => exact ⟨rfl, hx.below⟩
end Go.Ab
namespace Go.Proofs.YtnfnbjjnjjdjdaaGreatDoor
open Go.ChangeShapes Go.WideShapes Go.ChangeAt Go.RowKit Go.Av
end Go.Proofs.YtnfnbjjnjjdjdaaGreatDoor
namespace Go.Av
def textData {H : Type} (zs : List (List UInt8)) : DataW H := .agg (zs.map fun z => .lit (.string z))
theorem cells_of_texts {H : Type} {enc : TypeId × Value → H} {P : Program} {w : World} {base : Nat} {sp : Nat → Bool} {held : Bool} {fuel : Nat} {t e : TypeId} {n : Nat} {cs : List Value} {zs : List (List UInt8)} {p : List MemPlace}
 (ht : P.underlying t = some (.array n e)) (he : P.underlying e = some .string) (hce : P.cellsOf e = 1) (hct : P.cellsOf t = n)
 (h : DataW.trod enc P w base sp held fuel t cs = some (textData zs, p)) : cs = zs.map fun z => Value.string ⟨z.toArray⟩ := by
 cases fuel with
 | zero => simp [DataW.trod] at h
 | succ fuel =>
  simp only [DataW.trod, ht, hce, hct, Nat.mul_one] at h
  split at h
  ·rename_i hl
   obtain ⟨xs, hm, hx⟩ := Option.map_eq_some_iff.1 h
   have hxs : xs.map (·.1) = zs.map fun z => (DataW.lit (.string z) : DataW H) := by
    have := congrArg Prod.fst hx
    simpa [textData] using this
   have hxl : xs.length = n := by simpa using Lib.mapM_length hm
   have hzl : zs.length = n := by
    have := congrArg List.length hxs
    simp at this
    omega
   apply List.ext_getElem?
   intro i
   by_cases hi : i < n
   ·obtain ⟨b, hb, hf⟩ := Lib.mapM_at hm i i (by simp [hi])
    obtain ⟨z, hc, rfl, _⟩ := DataW.trod_string he hf
    have h1 : cs[i]? = some (.string z) := by
     have := congrArg (·[0]?) hc
     simpa [List.getElem?_take, List.getElem?_drop] using this
    have h2 : (xs.map (·.1))[i]? = some (DataW.lit (.string z.data.toList) : DataW H) := by simp [hb]
    rw [hxs] at h2
    simp only [List.getElem?_map, Option.map_eq_some_iff, DataW.lit.injEq, Lit.string.injEq] at h2
    obtain ⟨z', hz', e⟩ := h2
    have ez : z = ⟨z'.toArray⟩ := by
     apply ByteArray.ext
     rw [e]
    simp [h1, hz', ez]
   ·rw [List.getElem?_eq_none (by omega), List.getElem?_eq_none (by simp; omega)]
  ·cases h
theorem texts_of_vars {P : Program} {W : World} {name : String} {zs : List (List UInt8)} {rest : List (String × DataW Unit)} {ps : List MemPlace} {g : Nat} {t e : TypeId} {n : Nat}
 (hg : P.globalNamed name = some g) (hty : (P.globals[g]?).map (·.type) = some t) (ht : P.underlying t = some (.array n e)) (he : P.underlying e = some .string) (hce : P.cellsOf e = 1) (hct : P.cellsOf t = n)
 (h : DataW.LaidVars P W ((name, textData zs) :: rest) ps) : (∃ u fr, W.heap[g]? = some (.cells (zs.map fun z => Value.string ⟨z.toArray⟩).toArray u fr)) ∧ ∃ q, DataW.LaidVars P W rest q := by
 obtain ⟨g', t', cs, fuel, p, q, hg', ht', hvar, hd, hr, _⟩ := h
 obtain rfl := Option.some.inj (hg.symm.trans hg')
 obtain rfl := Option.some.inj (hty.symm.trans ht')
 refine ⟨?_, q, hr⟩
 have hcs := cells_of_texts ht he hce hct hd
 have ecs : cs = (zs.map fun z => Value.string ⟨z.toArray⟩).toArray := by rw [← hcs]
 unfold World.var? at hvar
 rw [hg, Option.bind_some] at hvar
 split at hvar
 ·rename_i c u fr hh
  obtain rfl := Option.some.inj hvar
  exact ⟨u, fr, by rw [hh, ecs]⟩
 ·cases hvar
end Go.Av
namespace Go.Proofs.YtnfnbjjnjjdjdaaGreatDoor.gotypeKinds
open Go.ChangeShapes Go.WideShapes Go.ChangeAt Go.RowKit Go.Av Go.Ab
open Go.ChangeMaps (open_string shut_string)
set_option linter.unusedVariables false
theorem own : ownKnob Tryz.prog.godebug = none := by kernel_rfl
theorem tab {W : World} (h : laidMetH Tryz.prog Rows.gotypeKindsRow.laid W) : Tabs W := by
 have h' : laidMet Tryz.prog Rows.gotypeKindsRow.laid W := h
 obtain ⟨ps, hv, _⟩ := h'
 obtain ⟨⟨u, fr, h1⟩, ps2, hv2⟩ := texts_of_vars (zs := signsL) (g := 0) (t := 189) (e := 9) (n := 29) (by kernel_rfl) (by kernel_rfl) Tryz.underlying189 Tryz.underlying9 (by kernel_rfl) (by kernel_rfl) hv
 obtain ⟨⟨u2, fr2, h2⟩, _⟩ := texts_of_vars (zs := keysL) (g := 1) (t := 198) (e := 9) (n := 22) (by kernel_rfl) (by kernel_rfl) Tryz.underlying198 Tryz.underlying9 (by kernel_rfl) (by kernel_rfl) hv2
 exact ⟨⟨u, fr, h1⟩, ⟨u2, fr2, h2⟩⟩
noncomputable def laidWorld (os : Os) : World := World.laidAll Tryz.prog os Rows.gotypeKindsRow.laid
theorem laid_met (os : Os) : laidMet Tryz.prog Rows.gotypeKindsRow.laid ((laidWorld os).forCall (fun _ _ => 0) ⟨#[], #[Value.int .i64 0], []⟩).memory :=
 laidMet_laidAll _ (by kernel_rfl) (by kernel_rfl)
theorem reads (os : Os) {H : Type} (enc : TypeId × Value → H) : ∃ places, DataW.whole enc Tryz.prog ((laidWorld os).forCall (fun _ _ => 0) ⟨#[], #[Value.int .i64 0], []⟩).memory Tryz.f4.params.toList Rows.gotypeKindsSpec.vars false #[Value.int .i64 0].toList 8 = some ([.lit (.int .i64 0)], [], places) :=
 ⟨[], by kernel_rfl⟩
set_option maxRecDepth 100000 in
theorem lifted (os : Os) (started : os.Started) (H : Type) (enc : TypeId × Value → H) (F : Stop.Interp) :
 ReturnsInHanded {} Tryz.checked os 4 .any ((OpenSpec.ofChange Rows.gotypeKindsSpec).preRow enc Tryz.prog Tryz.f4 Rows.gotypeKindsRow.domain false Rows.gotypeKindsRow.laid) (((OpenSpec.ofChange Rows.gotypeKindsSpec).at F).post enc Tryz.prog Tryz.f4 false true false false) := by
 obtain ⟨places, hx⟩ := reads os enc
 refine returnsInHanded_of_row (C := Tryz.checked) (s := OpenSpec.ofChange Rows.gotypeKindsSpec) own started (by kernel_rfl) Tryz.func4
  (witness_row_at (enc := enc) (C := Tryz.checked) false (laidWorld os) #[Value.int .i64 0] (World.laidAll_os _ _ _) (by kernel_rfl) (by kernel_rfl) (by kernel_rfl)
   (OpenSpec.preRow_of_cond 8 hx (by kernel_rfl) (fun k hk => by cases hk) (by kernel_rfl) (laid_met os))) ?_
 intro W base args ds gs before hval hW _ _ _ hL _ _
 have hW' := hW
 obtain ⟨p, q, hA0, hV, rfl, hfz, hnd⟩ := hW
 have hA : DataW.TrodAll enc Tryz.prog W 0 (fun _ => true) true Tryz.f4.params.toList args.toList ds p := hA0
 rw [Tryz.params4] at hA hval
 obtain ⟨v0, vs0, d0, ds0, p0, q0, hargs, rfl, rfl, h0, r0⟩ := trodAll_cons hA
 obtain ⟨rfl, rfl, rfl⟩ := trodAll_nil r0
 obtain rfl : args = #[v0] := by cases args; simp_all
 obtain ⟨rfl, rfl⟩ := trodVars_none hV
 obtain ⟨a0, rfl, rfl, rfl, w0⟩ := open_int Tryz.underlying3 (hval 0 3 v0 rfl rfl) h0
 clear hA0 hval
 simp only [List.append_nil] at hW'
 have hmx : maxLen = 9223372036854775807 := rfl
 have hT := tab hL
 refine ((AFn.only (kinds_ab a0)).law (W := W) (xs := #[.int .i64 a0]) (show 1 + 0 + 1 ≤ W.heap.size by have := hT.size; omega) (fun w hb => hT.below hb) rfl (fun j hj => ?_)).mono fun e W' ⟨he, bel⟩ => ?_
 ·match j, hj with
  | 0, _ => exact .d _ _ (.int _ _)
 subst he
 exact ⟨_, rfl, _, _, _, [], _, [], hW', trodAll_mk1 (shut_bool Tryz.underlying4 _), (trodAll_cons_mk (shut_int Tryz.underlying3 w0) trodAll_mk0), rfl, bel.frame _, fun h => by cases h⟩
theorem said : Rows.GotypeKindsSaid :=
 OpenClaim.holds_of_cond 4 Tryz.f4 rfl rfl rfl rfl rfl rfl rfl ⟨rfl, rfl, rfl, rfl, rfl⟩ rfl rfl rfl rfl rfl (by kernel_rfl) Tryz.func4 (by kernel_rfl)
  (of_decide_eq_true (by kernel_rfl)) (by unfold Func.isWrapper; first | (rw [if_pos (by decide +kernel)]; kernel_rfl) | (rw [if_neg (by decide +kernel)]; exact ⟨rfl, rfl⟩))
  (fun os started H enc _ F => by rw [OpenClaim.pre_eq_preRow]; exact lifted os started H enc F)
theorem plain (f : FuncId) (fn : Func) (hf : Tryz.pinned.checked.prog.funcNamed "avocet/avocetlaw27.GotypeKinds" = some f) (hfn : Tryz.pinned.checked.prog.funcs[f]? = some fn) :
 false = Tryz.pinned.checked.prog.looks [] ∧ ∀ (j : Nat) t, fn.params[j]? = some t → Tryz.pinned.checked.prog.wantsStandIn t = false := by
 obtain rfl : f = 4 := Option.some.inj ((show Tryz.prog.funcNamed "avocet/avocetlaw27.GotypeKinds" = some 4 by kernel_rfl).symm.trans hf) |>.symm
 obtain rfl : fn = Tryz.f4 := (Option.some.inj (Tryz.func4.symm.trans hfn)).symm
 refine ⟨by kernel_rfl, fun j t ht => ?_⟩
 rw [Tryz.params4] at ht
 have hm := Array.mem_of_getElem? ht
 have : t = 3 := by simpa using hm
 subst this
 exact (show Tryz.prog.wantsStandIn 3 = false by kernel_rfl)
theorem proved : Rows.GotypeKindsCardSaid :=
 Claim7.holds_tied_plain_at .later [] _ _ _ _ said (fun _ h => by cases h) (by kernel_rfl) (fun _ h => by cases h) gotypeKinds_row_tie rfl ⟨rfl, rfl⟩ (by kernel_rfl) rfl plain (by kernel_rfl)
#print axioms proved
end Go.Proofs.YtnfnbjjnjjdjdaaGreatDoor.gotypeKinds
