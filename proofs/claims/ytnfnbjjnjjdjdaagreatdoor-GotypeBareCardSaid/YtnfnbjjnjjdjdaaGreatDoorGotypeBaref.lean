/- GotypeBare answers true, for any program. Part 6 of 6 of the proof. -/
import Derived.Test.YtnfnbjjnjjdjdaaGreatDoorGotypeBaree
import Derived.OpenShut
import Derived.ChangeArms
import Derived.Test.YtnfnbjjnjjdjdaaGreatDoorRows
import Derived.ProofKit
import Derived.ShutString
import Derived.Deep.DeepHandedRow
import Derived.Carry
import Derived.Lib.LaidTab
import Derived.LaidLaws
import Derived.WalkKit
import Derived.Test.YtnfnbjjnjjdjdaaGreatDoorCards
import Derived.Test.YtnfnbjjnjjdjdaaGreatDoorTie
import Derived.Lay
namespace Go.Proofs.YtnfnbjjnjjdjdaaGreatDoor
open Go.RowKit Go.Av Go.Ab
set_option linter.unusedSimpArgs false
set_option maxRecDepth 100000
def nu (f : cR) (v : V) : List V := [.d (.str f.name), .d (.sl (f.params.map gI)), .d (.sl (f.results.map ej)), v]
def xQ (B : List (List V)) (f : cR) (lo hi : Nat) (r : List V) : Prop := ∃ v a b, lo ≤ a ∧ b ≤ hi ∧ r = nu f v ∧ fH B f.body a b v
theorem xQ.frame {B B' : List (List V)} {f : cR} {lo hi : Nat} {r : List V} (h : xQ B f lo hi r) (he : ∀ i, lo ≤ i → i < hi → B'[i]? = B[i]?) : xQ B' f lo hi r := by
 obtain ⟨v, a, b, h1, h2, h3, h4⟩ := h
 exact ⟨v, a, b, h1, h2, h3, h4.frame fun i _ _ => he i (by omega) (by omega)⟩
theorem xQ.deep {n : Nat} {B : List (List V)} {x : cR} {lo hi : Nat} {r : List V} (hn : n ≤ lo) (h : xQ B x lo hi r) : ∀ q (hq : q < (fK x).length) u, r[q]? = some u → Deep n B u (fK x)[q] := by
 obtain ⟨v, a, b, h1, h2, rfl, h4⟩ := h
 have h3 := h4.deep (n := n) (by omega)
 intro q hq u hu
 have hq4 : q < 4 := hq
 rcases q with _ | _ | _ | _ | q
 all_goals first
  | omega
  | (simp only [nu, List.getElem?_cons_zero, List.getElem?_cons_succ, Option.some.injEq] at hu
     subst hu
     first
      | exact .d _
      | exact h3)
theorem GN {X A C : List V} {f : cR} {v : V} {a : Nat} (hX : X = A ++ nu f v ++ C) (ha : A.length = a) :
 X[a + 1]? = some (.d (.sl (f.params.map gI))) ∧ X[a + 2]? = some (.d (.sl (f.results.map ej))) ∧ X[a + 3]? = some v ∧ a + 4 ≤ X.length ∧ ∀ u, X.take (a + 3) ++ u :: X.drop (a + 3 + 1) = A ++ nu f u ++ C := by
 have e : X = A ++ (nu f v ++ C) := by rw [hX, List.append_assoc]
 have g : ∀ q, X[a + q]? = (nu f v ++ C)[q]? := fun q => by rw [e, List.getElem?_append_right (by omega)]; congr 1; omega
 refine ⟨g 1, g 2, g 3, ?_, fun u => ?_⟩
 ·rw [e, List.length_append, List.length_append, ha]; show a + 4 ≤ a + (4 + C.length); omega
 ·rw [e, List.take_append, List.take_of_length_le (by omega), List.drop_append, List.drop_of_length_le (by omega), List.nil_append, show a + 3 - A.length = 3 by omega, show a + 3 + 1 - A.length = 4 by omega, List.append_assoc, List.append_assoc]
  rfl
theorem Pk (f : cR) : (fK f).map V.d = nu f (.d (.sl (f.body.map dL))) := rfl
theorem yU {α β : Type} (g : α → Option β) (x : α) (l : List α) (fs : List β) : ((x :: l).mapM g).map (fs ++ ·) = match g x with
 | some y => (l.mapM g).map ((fs ++ [y]) ++ ·)
 | none => none := by
 rw [List.mapM_cons]
 cases g x with
 | none => rfl
 | some y =>
  cases l.mapM g with
  | none => rfl
  | some ys => simp
structure R9 where
 i : Nat
 fs : List cR
 Y : List V
 B : List (List V)
structure Zl (p : oV) (M0 : List (List V)) (N b : Nat) (pI : List V) (s : R9) : Prop where
 le : s.i ≤ p.funcs.length
 res : p.funcs.mapM (fC p.structs p.funcs) = ((p.funcs.drop s.i).mapM (fC p.structs p.funcs)).map (s.fs ++ ·)
 fl : s.fs.length = s.i
 yl : s.Y.length = s.i * 4
 bl : M0.length ≤ s.B.length
 old : ∀ k, k < M0.length → k ≠ b → k ≠ N + 4 → s.B[k]? = M0[k]?
 cb : ∃ xx yy, s.B[N + 4]? = some [.mp (N + 2), .mp (N + 3), xx, yy]
 row : s.B[b]? = some (s.Y ++ (((p.funcs.drop s.i).map fK).flatten.map V.d ++ pI))
 own : bL 4 (xQ s.B) s.fs (b + 1) s.B.length s.Y
structure Zm (ps : List bI) (M0 : List (List V)) (w : Nat) (s : Nat × List (List V)) : Prop where
 le : s.1 ≤ ps.length
 bl : M0.length ≤ s.2.length
 old : ∀ k, k < M0.length → k ≠ w → s.2[k]? = M0[k]?
 vm : s.2[w]? = some (pU (ps.take s.1))
structure FnG (su : List cM) (fu : List cR) (f : cR) : Prop where
 bl : OW su fu f.results f.body
 st : Je f.body
 nw : DE fun B lo hi v => fH B f.body lo hi v
 en : ∀ l, cx l = cx f.body → Fi l
 pn : ∀ i (h : i < f.params.length), fD bI.name (f.params.take i) (f.params[i]).name = none
 pl : f.params.length ≤ 60000
 pt : ∀ p ∈ f.params, TW p.type
 sh : ∀ s ∈ f.body, qF s
 sl : f.body.length ≤ 60000
section
variable {B : List (List V)} {T : List (Nat × Nat)}
set_option maxHeartbeats 16000000 in
theorem wH {p : oV} {rb : Bool} (hT : rb = true → nx p.structs p.funcs) (hF : rb = true → ∀ f ∈ p.funcs, FnG p.structs p.funcs f) (Zn : ∀ B T, aD Tryz.prog av 16 [l7 p] ⟨B, T⟩ (aB (.d (.bool rb)) ⟨B, T⟩)) : aD Tryz.prog av 9 [l7 p] ⟨B, T⟩ (aB (.bZ [l7 (jr rb p).1, .d (.int .i64 (jr rb p).2)]) ⟨B, T⟩) := by
 obtain ⟨N, hn⟩ : ∃ N, B.length = N := ⟨_, rfl⟩
 generalize cw : jr rb p = r
 unfold jr at cw
 unfold l7 at Zn
 refine aD.Vw (aD.tS (body := (kF Tryz.f9 0)) 95 Tryz.func9 (by kernel_rfl) (by kernel_rfl) (by kernel_rfl) (Nat.le_of_ble_eq_true rfl) ?_)
 have exit : ∀ (M1 : List (List V)) (v1 v2 : V) (d1 d2 : D) (y : Int), (∀ k, k < N → M1[k]? = B[k]?) → Deep N M1 v1 d1 → Deep N M1 v2 d2 → d1 = .sl (r.1.structs.map fJ) → d2 = .sl (r.1.funcs.map fK) → y = r.2 → ∃ L J2 T2 K w1 w2 e1 e2 y2, (⟨M1, T⟩ : Mem) = ⟨L ++ J2, T2 ++ K⟩ ∧ L.length = N ∧ T2.length = T.length ∧ zy N T.length B L ∧ V.bZ [.agg [v1, v2], .d (.int .i64 y)] = V.bZ [.agg [w1, w2], .d y2] ∧ Deep N (L ++ J2) w1 e1 ∧ Deep N (L ++ J2) w2 e2 ∧ aB (.bZ [l7 r.1, .d (.int .i64 r.2)]) ⟨B, T⟩ (.bZ [.agg [.d e1, .d e2], .d y2]) ⟨L, T2⟩ := fun M1 v1 v2 d1 d2 y h0 h1 h2 h3 h4 h5 => by
  obtain ⟨J, rfl⟩ : ∃ J, M1 = B ++ J := ⟨_, GJ fun k hk => h0 k (by omega)⟩
  exact ⟨B, J, T, [], v1, v2, d1, d2, .int .i64 y, by rw [List.append_nil], hn, rfl, hn ▸ (qg.refl _ _ _).cells, rfl, h1, h2, by rw [h3, h4, h5]; exact ⟨rfl, rfl⟩⟩
 have bad : ∀ (M1 : List (List V)) (y : Int), (∀ k, k < N → M1[k]? = B[k]?) → r = (⟨[], []⟩, y) → ∃ L J2 T2 K w1 w2 e1 e2 y2, (⟨M1, T⟩ : Mem) = ⟨L ++ J2, T2 ++ K⟩ ∧ L.length = N ∧ T2.length = T.length ∧ zy N T.length B L ∧ V.bZ [.agg [.sl [] .full, .sl [] .full], .d (.int .i64 y)] = V.bZ [.agg [w1, w2], .d y2] ∧ Deep N (L ++ J2) w1 e1 ∧ Deep N (L ++ J2) w2 e2 ∧ aB (.bZ [l7 r.1, .d (.int .i64 r.2)]) ⟨B, T⟩ (.bZ [.agg [.d e1, .d e2], .d y2]) ⟨L, T2⟩ := fun M1 y h0 h =>
  exit M1 _ _ (.sl []) (.sl []) y h0 (.full []) (.full []) (by rw [h]; rfl) (by rw [h]; rfl) (by rw [h])
 refine af.go 160 ?_
 unfold l7
 simp only [W, seval, c9, hn]
 refine ag (Zn _ _) ?_
 rintro _ _ ⟨rfl, rfl⟩
 cases rb
 ·refine af.go 60 ?_
  simp only [W, seval, c9, hn]
  refine ct (v := ?_) (u := ?_) Tryz.func9 (by rfl) ?_ ?_ ?_
  rotate_left 2
  ·try simp only [W, seval, c9, hn]
   exact rfl
  ·try simp only [W, seval, c9, hn]
   exact rfl
  refine bad _ 2 (fun k hk => ai (by omega)) ?_
  exact cw.symm
 rw [if_pos rfl] at cw
 replace hT := hT rfl
 replace hF := hF rfl
 have Zo := fun (B : List (List V)) c s f xx yy h bV => @Md c s f xx yy B T p.structs p.funcs hT h bV
 unfold l7 at Zo
 have hhe := Zo (B ++ [[V.d (.sl (p.structs.map fJ)), V.d (.sl (p.funcs.map fK))], [V.sl [] .full, V.sl [] .full], [.nI [] []], [.nI [] []], [.mp (N + 2), .mp (N + 3), .undef, .sl [] .full]]) (N + 4) (N + 2) (N + 3) .undef (.sl [] .full) ⟨by rw [dx hn]; rfl, by rw [dx hn]; rfl, by rw [dx hn]; rfl⟩ ⟨by omega, by omega, by omega⟩
 clear Zo Zn
 refine af.go 160 ?_
 simp only [W, seval, c9, nG, hn]
 refine ag hhe ?_
 rintro _ _ ⟨rfl, Ax, Ay, rfl, hsf⟩
 have ku : ((B ++ [[V.d (.sl (p.structs.map fJ)), V.d (.sl (p.funcs.map fK))], [V.sl [] .full, V.sl [] .full], [.nI [] []], [.nI [] []], [.mp (N + 2), .mp (N + 3), .undef, .sl [] .full]]).set (N + 2) (ny Ax)).set (N + 3) (nA Ay) = B ++ [[V.d (.sl (p.structs.map fJ)), V.d (.sl (p.funcs.map fK))], [V.sl [] .full, V.sl [] .full], ny Ax, nA Ay, [.mp (N + 2), .mp (N + 3), .undef, .sl [] .full]] := by
  rw [List.set_append_right _ _ (by omega), List.set_append_right _ _ (by omega), hn, show N + 2 - N = 2 by omega, show N + 3 - N = 3 by omega]
  rfl
 rw [ku]
 clear ku hhe
 cases hh : sX p.structs p.funcs
 ·rw [hh, if_neg (by decide)] at cw
  refine af.go 60 ?_
  simp only [W, seval, c9, hn]
  refine ct (v := ?_) (u := ?_) Tryz.func9 (by rfl) ?_ ?_ ?_
  rotate_left 2
  ·try simp only [W, seval, c9, hn]
   exact rfl
  ·try simp only [W, seval, c9, hn]
   exact rfl
  refine bad _ 52 (fun k hk => ai (by omega)) ?_
  exact cw.symm
 obtain ⟨rfl, rfl⟩ := hsf hh
 rw [hh, if_pos rfl] at cw
 refine af.go 60 ?_
 simp only [W, seval, c9, hn]
 obtain ⟨M, hM⟩ : ∃ M, M = B ++ [[V.d (.sl (p.structs.map fJ)), V.d (.sl (p.funcs.map fK))], [V.sl [] .full, V.sl [] .full], ny p.structs, nA p.funcs, [.mp (N + 2), .mp (N + 3), .undef, .sl [] .full]] := ⟨_, rfl⟩
 have hML : M.length = N + 5 := by rw [hM]; simp [hn]
 have mN : M[N]? = some [V.d (.sl (p.structs.map fJ)), V.d (.sl (p.funcs.map fK))] := by rw [hM, cy hn]; rfl
 have m1 : M[N + 1]? = some [V.sl [] .full, V.sl [] .full] := by rw [hM, dx hn]; rfl
 have m2 : M[N + 2]? = some (ny p.structs) := by rw [hM, dx hn]; rfl
 have m3 : M[N + 3]? = some (nA p.funcs) := by rw [hM, dx hn]; rfl
 have m4 : M[N + 4]? = some [.mp (N + 2), .mp (N + 3), .undef, .sl [] .full] := by rw [hM, dx hn]; rfl
 have m0 : ∀ k, k < N → M[k]? = B[k]? := fun k hk => by rw [hM]; exact ai (by omega)
 rw [← hM]
 clear hM
 have yd := fun h => Az (z := (N, T.length)) (k := [.code (kF Tryz.f9 22)]) (T := T) (R := fun v S' => ∃ L J T2 K v1 v2 d1 d2 y, S' = ⟨L ++ J, T2 ++ K⟩ ∧ L.length = N ∧ T2.length = T.length ∧ zy N T.length B L ∧ v = V.bZ [.agg [v1, v2], .d y] ∧ Deep N (L ++ J) v1 d1 ∧ Deep N (L ++ J) v2 d2 ∧ aB (.bZ [.agg [.d (.sl (r.1.structs.map fJ)), .d (.sl (r.1.funcs.map fK))], .d (.int .i64 r.2)]) ⟨B, T⟩ (.bZ [.agg [.d d1, .d d2], .d y]) ⟨L, T2⟩) (N := N) (M := M) hT.su hT.fu mN h
 refine af.fX ?_ (yd ?_)
 ·skip
  refine ay.env _ ?_
  simp only [cZ, seval]
 rintro a v2 M0 ⟨c1, c2, c3, c4⟩
 have ha : a < M0.length := (List.getElem?_eq_some_iff.1 c3).1
 have k1 : M0[N + 1]? = some [V.sl [] .full, V.sl [] .full] := (c2 _ (by omega)).trans m1
 have k2 : M0[N + 2]? = some (ny p.structs) := (c2 _ (by omega)).trans m2
 have k3 : M0[N + 3]? = some (nA p.funcs) := (c2 _ (by omega)).trans m3
 have k4 : M0[N + 4]? = some [.mp (N + 2), .mp (N + 3), .undef, .sl [] .full] := (c2 _ (by omega)).trans m4
 have k0 : ∀ k, k < N → M0[k]? = B[k]? := fun k hk => (c2 k (by omega)).trans (m0 k hk)
 clear m0 m1 m2 m3 m4 c2 yd mN hh
 have lN1 : N + 1 < M0.length := (List.getElem?_eq_some_iff.1 k1).1
 rcases c4 with ⟨h0, rfl, c5⟩ | ⟨h0, b, cap, J, rfl, c5, c6, c7, c8⟩
 ·rw [h0] at cw
  refine af.go 160 ?_
  simp only [W, seval, c9, c3, k1]
  refine af.cJ (fun _ : Unit => (bu 95 [(33, .d (.int .i64 0)), (32, .d (.int .i64 0)), (5, .ptr a 0), (2, .ptr (N + 1) 0)], ⟨M0, T⟩)) (fun _ => True) (fun _ => 0) () trivial ?_ rfl ?_
  ·skip
   refine ay.env _ ?_
   simp only [cZ, seval]
  intro _ _ _
  refine af.go 160 ?_
  simp only [W, seval, c9, decide_eq_false (show ¬ ((0 : Int) < 0) by decide), c3, k1]
  have hr : r = (⟨p.structs, []⟩, 0) := by rw [← cw]; rfl
  have s1 : ∀ X, (M0.set (N + 1) X)[N + 1]? = some X := fun X => List.getElem?_set_self lN1
  refine ct (v := ?_) (u := ?_) Tryz.func9 (by rfl) ?_ ?_ ?_
  rotate_left 2
  ·try simp only [W, seval, c9, s1]
   exact rfl
  ·try simp only [W, seval, c9, s1]
   exact rfl
  refine exit _ _ _ (.sl (p.structs.map fJ)) (.sl []) 0 (fun k hk => by rw [List.getElem?_set_ne (by omega), k0 k hk]) (.d _) (.d _) (by rw [hr]) (by rw [hr]; rfl) ?_
  rw [hr]
 have bV : p.funcs.length ≠ 0 := fun e => h0 (List.eq_nil_of_length_eq_zero e)
 have VC := hT.fu
 have lb : b < M0.length := (List.getElem?_eq_some_iff.1 c7).1
 refine af.go 160 ?_
 simp only [W, seval, c9, ie, c3, k1]
 refine af.cJ (fun s : R9 => (bu 95 [(33, .d (.int .i64 (s.i : Int))), (32, .d (.int .i64 (p.funcs.length : Int))), (5, .ptr a 0), (4, .ptr (N + 4) 0), (2, .ptr (N + 1) 0)], ⟨s.B, T⟩)) (Zl p M0 N b J) (fun s => p.funcs.length - s.i) ⟨0, [], [], M0⟩ ⟨Nat.zero_le _, ?_, rfl, rfl, Nat.le_refl _, fun _ _ _ _ => rfl, ⟨_, _, k4⟩, by simpa using c7, lb⟩ ?_ rfl ?_
 ·rw [show p.funcs.drop (R9.mk 0 [] [] M0).i = p.funcs from rfl]
  cases p.funcs.mapM (fC p.structs p.funcs) <;> rfl
 ·skip
  refine ay.env _ ?_
  simp only [cZ, seval]
 clear h0
 rintro ⟨i, fs, Y, Bi⟩ ⟨h1, h2, h3, h4, h5, h6, ⟨xx, yy, h7⟩, h8, h9⟩ ih
 dsimp only at h1 h2 h3 h4 h5 h6 h7 h8 h9 ih ⊢
 have ca : Bi[a]? = some [.d (.sl (p.structs.map fJ)), .bx b p.funcs.length cap] := (h6 a ha (by omega) (by omega)).trans c3
 have q1 : Bi[N + 1]? = some [V.sl [] .full, V.sl [] .full] := (h6 _ lN1 (by omega) (by omega)).trans k1
 have q0 : ∀ k, k < N → Bi[k]? = B[k]? := fun k hk => (h6 k (by omega) (by omega) (by omega)).trans (k0 k hk)
 by_cases au : i < p.funcs.length
 case neg =>
  have e2 : decide ((i : Int) < (p.funcs.length : Int)) = false := decide_eq_false (by omega)
  obtain rfl : i = p.funcs.length := by omega
  have hr : r = (⟨p.structs, fs⟩, 0) := by
   rw [← cw, h2, List.drop_length]
   simp
  refine af.go 160 ?_
  simp only [W, seval, c9, e2, ca, q1]
  have s1 : ∀ X, (Bi.set (N + 1) X)[N + 1]? = some X := fun X => List.getElem?_set_self (by omega)
  have hd : ∀ X, Deep N (Bi.set (N + 1) X) (.bx b p.funcs.length cap) (.sl (fs.map fK)) := fun X => by
   rw [← h3]
   refine kG.deep (sz := 4) (f := xQ (Bi.set (N + 1) X)) (g := fK) (l := fs) (lo := b) (hi := Bi.length) (by omega) (.inr ⟨by omega, b, cap, _, rfl, Nat.le_refl _, by omega, (List.getElem?_set_ne (by omega)).trans h8, ?_⟩) (by omega) (fun x _ => rfl) (fun x _ a z r ha hf => xQ.deep ha hf)
   exact (h9.tail _).congr fun x _ a z r ha hz hf => hf.frame fun k _ _ => List.getElem?_set_ne (by omega)
  refine ct (v := ?_) (u := ?_) Tryz.func9 (by rfl) ?_ ?_ ?_
  rotate_left 2
  ·try simp only [W, seval, c9, s1]
   exact rfl
  ·try simp only [W, seval, c9, s1]
   exact rfl
  refine exit _ _ _ (.sl (p.structs.map fJ)) (.sl (fs.map fK)) 0 (fun k hk => by rw [List.getElem?_set_ne (by omega), q0 k hk]) (.d _) (hd _) (by rw [hr]) (by rw [hr]) ?_
  rw [hr]
 have e2 : decide ((i : Int) < (p.funcs.length : Int)) = true := decide_eq_true (by omega)
 have nZ := aI ((i : Int) + 1) (by omega)
 have lO : (i : Int) < (p.funcs.length : Int) := by omega
 obtain ⟨f, hf⟩ : ∃ f, p.funcs[i] = f := ⟨_, rfl⟩
 obtain ⟨g1, g2, g3, g4, g5, g6, g7, _, _⟩ := hF f (hf ▸ List.getElem_mem au)
 rw [List.drop_eq_getElem_cons au, hf, List.map_cons, List.flatten_cons, List.map_append, Pk, List.append_assoc, ← List.append_assoc] at h8
 rw [List.drop_eq_getElem_cons au, hf, yU] at h2
 obtain ⟨C, hC⟩ : ∃ C, C = ((p.funcs.drop (i + 1)).map fK).flatten.map V.d ++ J := ⟨_, rfl⟩
 rw [← hC] at h8
 obtain ⟨Z, hZ⟩ : ∃ Z, Z = Y ++ nu f (.d (.sl (f.body.map dL))) ++ C := ⟨_, rfl⟩
 rw [← hZ] at h8
 obtain ⟨x1, x2, x3, x4, x5⟩ := GN hZ h4
 refine af.go 160 ?_
 simp only [W, seval, c9, ie, e2, lO, ca, h8, x3, x4]
 refine ag (g2 Bi T) ?_
 intro v S1 n1
 obtain ⟨M1, rfl, l1, p1, o1⟩ := n1.split
 have cv := kG.cells o1
 have b1 : M1[b]? = some Z := (p1 b (by omega)).trans h8
 have b4 : M1[N + 4]? = some [.mp (N + 2), .mp (N + 3), xx, yy] := (p1 _ (by omega)).trans h7
 have xv := x5 v
 obtain ⟨Z1, Qn⟩ : ∃ Z1, Z1 = Y ++ nu f v ++ C := ⟨_, rfl⟩
 rw [← Qn] at xv
 obtain ⟨y1, y2, y3, y4, _⟩ := GN Qn h4
 have s4 : (M1.set b Z1)[N + 4]? = some [.mp (N + 2), .mp (N + 3), xx, yy] := by rw [List.getElem?_set_ne (by omega), b4]
 have sb : (M1.set b Z1)[b]? = some Z1 := List.getElem?_set_self (by omega)
 refine af.go 4 ?_
 simp only [W, seval, c9, ie, b1, cv, xv, x4]
 obtain ⟨M2, VD⟩ : ∃ M2, M2 = M1.set b Z1 := ⟨_, rfl⟩
 rw [← VD] at s4 sb ⊢
 have l2 : M2.length = M1.length := by rw [VD, List.length_set]
 have p2 : ∀ k, k < Bi.length → k ≠ b → M2[k]? = Bi[k]? := fun k hk hb => by rw [VD, List.getElem?_set_ne (Ne.symm hb), p1 k hk]
 have o2 : fH M2 f.body Bi.length M1.length v := o1.frame fun k h1 h2 => by rw [VD]; exact List.getElem?_set_ne (by omega)
 clear x1 x2 x3 x4 x5 xv hZ b1 b4 g2 g3 o1 p1 cv VD h8 h7
 have lb2 : b < M2.length := by omega
 have l4 : N + 4 < M2.length := by omega
 have t4 : ∀ X, (M2 ++ [X])[N + 4]? = some [.mp (N + 2), .mp (N + 3), xx, yy] := fun X => (ai l4).trans s4
 have tb : ∀ X, (M2 ++ [X])[b]? = some Z1 := fun X => (ai lb2).trans sb
 have t5 : ∀ X Q, ((M2 ++ [X]).set (N + 4) Q)[N + 4]? = some Q := fun X Q => List.getElem?_set_self (by rw [List.length_append]; omega)
 have t6 : ∀ X Q, ((M2 ++ [X]).set (N + 4) Q)[b]? = some Z1 := fun X Q => (List.getElem?_set_ne (by omega)).trans (tb X)
 refine af.go 160 ?_
 simp only [W, seval, c9, nG, ie, t4, t5, t6, tb, y1, y2, y4]
 obtain ⟨w, hw⟩ : ∃ w, M2.length = w := ⟨_, rfl⟩
 rw [hw]
 obtain ⟨M3, Sa⟩ : ∃ M3, M3 = (M2 ++ [[V.nI [] []]]).set (N + 4) [V.mp (N + 2), V.mp (N + 3), V.mp w, V.d (.sl (f.results.map ej))] := ⟨_, rfl⟩
 rw [← Sa]
 have l3 : M3.length = w + 1 := by rw [Sa]; simp [hw]
 have p3 : ∀ k, k < w → k ≠ N + 4 → M3[k]? = M2[k]? := fun k hk hn => by rw [Sa, List.getElem?_set_ne (Ne.symm hn), ai (by omega)]
 have b3 : M3[b]? = some Z1 := by rw [Sa]; exact t6 _ _
 have K3 : rF M3 (N + 4) (N + 2) (N + 3) w ⟨p.structs, p.funcs, []⟩ f.results := ⟨by rw [Sa]; exact t5 _ _, by rw [p3 _ (by omega) (by omega), p2 _ (by omega) (by omega), h6 _ (by omega) (by omega) (by omega)]; exact k2, by rw [p3 _ (by omega) (by omega), p2 _ (by omega) (by omega), h6 _ (by omega) (by omega) (by omega)]; exact k3, by rw [Sa, List.getElem?_set_ne (by omega), cy hw]; rfl⟩
 have o3 : fH M3 f.body Bi.length M1.length v := o2.frame fun k h1 h2 => p3 k (by omega) (by omega)
 clear t4 t5 t6 tb s4 sb o2 Sa y1 y2
 refine af.cJ (fun s : Nat × List (List V) => (bu 95 [(64, .d (.int .i64 (s.1 : Int))), (63, .d (.int .i64 (f.params.length : Int))), (62, .d (.sl (f.params.map gI))), (7, .ptr b (i * 4)), (33, .d (.int .i64 (i : Int))), (32, .d (.int .i64 (p.funcs.length : Int))), (5, .ptr a 0), (4, .ptr (N + 4) 0), (2, .ptr (N + 1) 0)], ⟨s.2, T⟩)) (Zm f.params M3 w) (fun s => f.params.length - s.1) (0, M3) ⟨Nat.zero_le _, Nat.le_refl _, fun _ _ _ => rfl, K3.w⟩ ?_ rfl ?_
 ·skip
  refine ay.env _ ?_
  simp only [cZ, seval]
 rintro ⟨j, Bj⟩ ⟨i1, i2, i3, i4⟩ nE
 dsimp only at i1 i2 i3 i4 nE ⊢
 have Kj : rF Bj (N + 4) (N + 2) (N + 3) w ⟨p.structs, p.funcs, f.params.take j⟩ f.results := K3.vars (i3 _ (by omega) (by omega)) (i3 _ (by omega) (by omega)) (i3 _ (by omega) (by omega)) i4 rfl rfl
 by_cases uI : j < f.params.length
 case pos =>
  have e3 : decide ((j : Int) < (f.params.length : Int)) = true := decide_eq_true (by omega)
  have oQ := aI ((j : Int) + 1) (by omega)
  have Vr : (j : Int) < (f.params.length : Int) := by omega
  have hg := List.getElem?_eq_getElem uI
  have qy := fun J T => Kj.Ve (g5 j uI) (f.params[j]).type J T
  obtain ⟨q, hq⟩ : ∃ q, f.params[j] = q := ⟨_, rfl⟩
  rw [hq] at hg qy
  have WV : f.params.take j ++ [⟨q.name, q.type⟩] = f.params.take (j + 1) := by rw [List.take_succ_eq_append_getElem uI, hq]
  dsimp only at qy
  rw [WV] at qy
  unfold aT at qy
  have hcj := Kj.c
  unfold xF at hcj
  have h4j : N + 4 < Bj.length := by omega
  have V5 : Bj.length ≠ N + 4 := by omega
  have t4 : ∀ X, (Bj ++ [X])[N + 4]? = _ := fun X => (ai h4j).trans hcj
  refine af.go 160 ?_
  simp only [W, seval, c9, ie, e3, Vr, List.getElem?_map, hg, qq]
  refine af.bp 8 [] [N + 4, Bj.length] (by kernel_rfl) (by kernel_rfl) (by kernel_rfl) (by kernel_rfl) (by kernel_rfl) (by kernel_rfl) (by kernel_rfl) ?_
  simp (maxSteps := 4000000) only [W, seval, c9, xw, nG, ie, t4, qy]
  refine af.go 60 ?_
  simp only [W, seval, c9, oQ]
  have Kn : w < Bj.length := by omega
  refine nE ⟨j + 1, Bj.set w (pU (f.params.take (j + 1))) ++ [[.d (.str q.name), .d (.int .i64 q.type.kind), .d (.str q.type.name), .d (.sl (q.type.elem.map ej))]]⟩ ⟨uI, ?_, fun k hk hn => ?_, ?_⟩ (by dsimp only; omega) _ _ ?_ rfl
  ·show M3.length ≤ (_ ++ _ : List (List V)).length
   rw [List.length_append, List.length_set]
   omega
  ·show (_ ++ _ : List (List V))[k]? = _
   rw [ai (by rw [List.length_set]; omega), List.getElem?_set_ne (Ne.symm hn), i3 k hk hn]
  ·show (_ ++ _ : List (List V))[w]? = _
   rw [ai (by rw [List.length_set]; omega), List.getElem?_set_self Kn]
  ·skip
   refine ay.env _ ?_
   simp only [cZ, seval]
 have e3 : decide ((j : Int) < (f.params.length : Int)) = false := decide_eq_false (by omega)
 obtain rfl : j = f.params.length := by omega
 rw [List.take_length] at Kj
 clear nE i4
 have bj : Bj[b]? = some Z1 := (i3 _ (by omega) (by omega)).trans b3
 have oj : fH Bj f.body Bi.length M1.length v := o3.frame fun k _ _ => i3 k (by omega) (by omega)
 have Qm : lP Bj Bj.length (N + 4) (N + 2) (N + 3) w ⟨p.structs, p.funcs, f.params⟩ f.results Bi.length M1.length v f.body := ⟨Kj, oj, .inl (by omega), .inl (by omega), .inl (by omega), .inr (by omega), ⟨by omega, by omega, by omega⟩, ⟨by omega, by omega, by omega, by omega, by omega⟩, Nat.le_refl _⟩
 have jY := g1 f.params Bj.length (N + 4) (N + 2) (N + 3) w Bj T Bi.length M1.length v g7 Qm
 have Pm : ∀ k, k < Bi.length → k ≠ b → k ≠ N + 4 → Bj[k]? = Bi[k]? := fun k a b c => by rw [i3 k (by omega) (by omega), p3 k (by omega) c, p2 k a b]
 clear Qm o3 oj b3 K3 p3 p2
 refine af.go 160 ?_
 simp only [W, seval, c9, ie, e3, bj, y3, y4]
 refine ag jY ?_
 rintro _ _ ⟨B4, rfl, ⟨d1, d2, d3⟩, rfl⟩
 have dk : ∀ k, k < Bi.length → B4[k]? = Bj[k]? := fun k hk => d1.2.1 k (by omega) (by omega) (by omega) (.inl hk)
 have b4 : B4[b]? = some Z1 := (dk b (by omega)).trans bj
 have z1 : B4[N + 1]? = some [V.sl [] .full, V.sl [] .full] := by rw [dk _ (by omega), Pm _ (by omega) (by omega) (by omega)]; exact q1
 have s1 : ∀ X, (B4.set (N + 1) X)[N + 1]? = some X := fun X => List.getElem?_set_self (by omega)
 have sG : ∀ X k, k < N → (B4.set (N + 1) X)[k]? = B[k]? := fun X k hk => by rw [List.getElem?_set_ne (by omega), dk k (by omega), Pm k (by omega) (by omega) (by omega), q0 k hk]
 clear jY bj
 have Vv : ∀ x, cB p.structs p.funcs f.results f.body f.params = x → fC p.structs p.funcs f = (match x with
  | some b => if dY f.body = true then some ⟨f.name, f.params, f.results, b⟩ else none
  | none => none) := fun x hx => by rw [← hx]; rfl
 obtain ⟨rb, Pn⟩ : ∃ x, cB p.structs p.funcs f.results f.body f.params = x := ⟨_, rfl⟩
 rw [Pn] at d3 ⊢
 rw [Vv _ Pn] at h2
 clear Vv
 cases rb with
 | none =>
  have hr : r = (⟨[], []⟩, 52) := by rw [← cw, h2]
  refine af.go 160 ?_
  simp only [W, seval, c9, z1, Option.isSome_none, Bool.not_false]
  refine ct (v := ?_) (u := ?_) Tryz.func9 (by rfl) ?_ ?_ ?_
  rotate_left 2
  ·try simp only [W, seval, c9, s1]
   exact rfl
  ·try simp only [W, seval, c9, s1]
   exact rfl
  refine bad _ 52 (sG _) ?_
  exact hr
 | some l =>
  obtain ⟨u1, u2⟩ := d3 l rfl
  have Rp := fq _ _ _ _ _ _ Pn
  have Wj := g4 l Rp B4 T Bi.length M1.length v u1 (by omega)
  have Ec := Jj Rp
  rw [Ec] at Wj
  clear u2 d3
  refine af.go 160 ?_
  simp only [W, seval, c9, ie, Option.isSome_some, Bool.not_true, b4, y3, y4]
  refine ag Wj ?_
  rintro _ _ ⟨rfl, rfl⟩
  cases hen : dY f.body
  ·rw [hen] at h2
   have hr : r = (⟨[], []⟩, 52) := by rw [← cw, h2]; rfl
   refine af.go 160 ?_
   simp only [W, seval, c9, z1, Bool.not_false]
   refine ct (v := ?_) (u := ?_) Tryz.func9 (by rfl) ?_ ?_ ?_
   rotate_left 2
   ·try simp only [W, seval, c9, s1]
    exact rfl
   ·try simp only [W, seval, c9, s1]
    exact rfl
   refine bad _ 52 (sG _) ?_
   exact hr
  ·rw [hen] at h2
   dsimp only at h2
   rw [if_pos rfl] at h2
   dsimp only at h2
   refine af.go 160 ?_
   simp only [W, seval, c9, nZ, Bool.not_true]
   refine ih ⟨i + 1, fs ++ [⟨f.name, f.params, f.results, l⟩], Y ++ nu f v, B4⟩ ⟨au, h2, ?_, ?_, ?_, fun k hk hb hn => ?_, ⟨_, _, (dk _ (by omega)).trans Kj.c⟩, ?_, ?_⟩ (by dsimp only; omega) _ _ ?_ rfl
   ·show (fs ++ [_]).length = i + 1
    rw [List.length_append, h3]
    rfl
   ·show (Y ++ nu f v).length = (i + 1) * 4
    rw [List.length_append, h4]
    show i * 4 + 4 = _
    omega
   ·show M0.length ≤ B4.length
    omega
   ·show B4[k]? = _
    rw [dk k (by omega), Pm k (by omega) hb hn, h6 k hk hb hn]
   ·show B4[b]? = _
    rw [b4, Qn, List.append_assoc, ← hC, List.append_assoc]
   ·show bL 4 (xQ B4) (fs ++ [_]) (b + 1) B4.length (Y ++ nu f v)
    refine bL.snoc (sz := 4) (m := Bi.length) (f := xQ B4) rfl (by omega) (fun a ha => ⟨v, Bi.length, M1.length, ha, by omega, rfl, u1⟩) (h9.congr fun x _ a z r ha hz hf => hf.frame fun k _ _ => ?_) (by rw [h4, h3])
    rw [dk k (by omega), Pm k (by omega) (by omega) (by omega)]
   ·skip
    refine ay.env _ ?_
    simp only [cZ, seval]
end
theorem dR {f g : Int → Bool × Int} {n p : Int} (hf : aJ f n) (hp : 0 ≤ p) (h : (aY f g p).1 = true) : (f p).1 = true ∧ 0 ≤ (f p).2 ∧ (g (f p).2).1 = true := by
 obtain ⟨h1, h2⟩ := aW h
 have := hf.up p h1
 exact ⟨h1, by omega, h2⟩
theorem AB {g : Int → Bool × Int} {m d q : Int} (hg : aJ g m) (h : (aY (cG d) g q).1 = true) : q + 1 ≤ 60000 ∧ q + 1 ≤ (aY (cG d) g q).2 := by
 obtain ⟨h1, h2⟩ := aW h
 have h3 : bt d q = true := h1
 unfold bt at h3
 rw [Bool.and_eq_true, decide_eq_true_iff, decide_eq_true_iff] at h3
 refine ⟨h3.1, ?_⟩
 have h4 := hg.up (q + 1) h2
 unfold aY
 rw [if_neg (by rw [h1]; decide)]
 exact h4
def Pos {α : Type} (f : α → Int → Bool × Int) (x : α) : Prop := ∀ q, (f x q).1 = true → q + 1 ≤ 60000 ∧ q + 1 ≤ (f x q).2
theorem mW {α : Type} {f : α → Int → Bool × Int} : ∀ (l : List α) (p : Int), (∀ x ∈ l, Pos f x) → 0 ≤ p → (dB f l p).1 = true → (l = [] ∨ p + l.length ≤ 60000) ∧ ∀ x ∈ l, ∃ q, 0 ≤ q ∧ (f x q).1 = true
 | [], _, _, _, _ => ⟨.inl rfl, fun _ hx => absurd hx List.not_mem_nil⟩
 | x :: l, p, hc, hp, h => by
  obtain ⟨h1, h2⟩ := aW (f := f x) (g := dB f l) h
  obtain ⟨a1, a2⟩ := hc x List.mem_cons_self p h1
  obtain ⟨b1, b2⟩ := mW l _ (fun y hy => hc y (List.mem_cons_of_mem _ hy)) (by omega) h2
  refine ⟨.inr ?_, fun y hy => ?_⟩
  ·rcases b1 with rfl | b1
   ·simp; omega
   ·simp only [List.length_cons]; omega
  ·rcases List.mem_cons.1 hy with rfl | hy
   ·exact ⟨p, hp, h1⟩
   ·exact b2 y hy
theorem oC {α : Type} {f : α → Int → Bool × Int} {l : List α} {p : Int} (hc : ∀ x ∈ l, Pos f x) (hp : 0 ≤ p) (h : (dB f l p).1 = true) : l.length ≤ 60000 := by
 rcases (mW l p hc hp h).1 with rfl | h
 ·simp
 ·omega
theorem Po {k : Int} {t : List UInt8} {i : Int} {ty : az} {ns : List (List UInt8)} {ks : List aj} {d p : Int} (h : (pT (.mk k t i ty ns ks) d p).1 = true) : ks.length ≤ 30000 ∧ ∃ q, (eX ks (d + 1) q).1 = true := by
 unfold pT at h
 split at h
 ·cases h
 split at h
 ·cases h
 rename_i h2
 split at h
 ·cases h
 refine ⟨?_, _, h⟩
 have : nc k ≤ 30000 := by unfold nc; split <;> omega
 omega
mutual
theorem Pp : ∀ (x : aj) (d p : Int), (pT x d p).1 = true → r9 x
 | .mk k t i ty ns ks, d, p, h => by
  obtain ⟨h1, q, h2⟩ := Po h
  exact .mk _ h1 (wI ks _ q h2)
theorem wI : ∀ (l : List aj) (d p : Int), (eX l d p).1 = true → ∀ x ∈ l, r9 x
 | [], _, _, _, _, hx => absurd hx List.not_mem_nil
 | y :: l, d, p, h, x, hx => by
  unfold eX at h
  split at h
  ·cases h
  rename_i h1
  rcases List.mem_cons.1 hx with e | hx
  ·rw [e]; exact Pp y d p (by simpa using h1)
  ·exact wI l d _ h x hx
end
theorem rY {l : List aj} {d p : Int} (h : (fo l d p).1 = true) : l.length ≤ 60000 ∧ ∀ x ∈ l, r9 x := by
 obtain ⟨h1, h2⟩ := aW (f := fun p => eX l d p) h
 have h2 : decide (l.length ≤ 40) = true := h2
 have := of_decide_eq_true h2
 exact ⟨by omega, wI l d p h1⟩
theorem wJ : ∀ (n : Nat) (d : Int) (x : aF), Pos (fun x => iN n x d) x
 | 0, _, _ => fun _ h => by cases h
 | n + 1, d, s => by
  have hb := aJ.row (f := fun x => iN n x (d + 1)) (c := DB n) s.body fun x _ => aJ.st n x (d + 1)
  have he := aJ.row (f := fun x => iN n x (d + 1)) (c := DB n) s.dO fun x _ => aJ.st n x (d + 1)
  have fk : aJ (if s.kind = 1 then fun p => eV ak s.type (d + 1) p else cN true) (if s.kind = 1 then xB s.type else 0) := by
   by_cases hk : s.kind = 1
   ·rw [if_pos hk, if_pos hk]; exact aJ.ty s.type (d + 1)
   ·rw [if_neg hk, if_neg hk]; exact aJ.allow true
  have h := ((aJ.allow (iz s && decide (s.cases.length ≤ 40))).and (fk.and ((aJ.Rs (fun s d => aJ.st n s d) d s.cases []).and ((aJ.fo s.aG (d + 1)).and ((aJ.fo s.exprs (d + 1)).and (hb.and he))))))
  exact fun q hq => AB h hq
theorem GO {R : aF → Int → Int → Bool × Int} {c : aF → Int} (hR : ∀ s d, aJ (R s d) (c s)) (hP : ∀ d s, Pos (fun x => R x d) s) (d : Int) : ∀ (l : List cQ) (seen : List Int) (p : Int), 0 ≤ p → (sL R d seen l p).1 = true → ∀ k ∈ l, k.body.length ≤ 60000 ∧ ∀ y ∈ k.body, ∃ q, 0 ≤ q ∧ (R y (d + 2) q).1 = true
 | [], _, _, _, _, _, hk => absurd hk List.not_mem_nil
 | k :: l, seen, p, hp, h, x, hx => by
  rw [yx] at h
  obtain ⟨_, p1, h⟩ := dR (aJ.part (d + 1)) hp h
  obtain ⟨_, p2, h⟩ := dR (aJ.allow _) p1 h
  obtain ⟨h1, p3, h⟩ := dR (aJ.row (f := fun s => R s (d + 2)) (c := c) k.body fun s _ => hR s (d + 2)) p2 h
  rcases List.mem_cons.1 hx with e | hx
  ·rw [e]
   exact ⟨oC (f := fun s => R s (d + 2)) (fun y _ => hP _ y) p2 h1, (mW (f := fun s => R s (d + 2)) _ _ (fun y _ => hP _ y) p2 h1).2⟩
  ·exact GO hR hP d l _ _ p3 h x hx
theorem AD : ∀ (n : Nat) (x : aF) (d p : Int), 0 ≤ p → (iN n x d p).1 = true → qF x
 | 0, _, _, _, _, h => by cases h
 | n + 1, s, d, p, hp, h => by
  rw [Lh] at h
  have fk : ∃ m, aJ (if s.kind = 1 then fun p => eV ak s.type (d + 1) p else cN true) m := by
   by_cases hk : s.kind = 1
   ·rw [if_pos hk]; exact ⟨_, aJ.ty s.type (d + 1)⟩
   ·rw [if_neg hk]; exact ⟨_, aJ.allow true⟩
  obtain ⟨_, fk⟩ := fk
  obtain ⟨_, p1, h⟩ := dR (aJ.part d) hp h
  obtain ⟨hz, p2, h⟩ := dR (aJ.allow _) p1 h
  obtain ⟨_, p3, h⟩ := dR fk p2 h
  obtain ⟨hc, p4, h⟩ := dR (aJ.Rs (fun s d => aJ.st n s d) d s.cases []) p3 h
  obtain ⟨hl, p5, h⟩ := dR (aJ.fo s.aG (d + 1)) p4 h
  obtain ⟨hx, p6, h⟩ := dR (aJ.fo s.exprs (d + 1)) p5 h
  obtain ⟨hb, p7, he⟩ := dR (aJ.row (f := fun x => iN n x (d + 1)) (c := DB n) s.body fun x _ => aJ.st n x (d + 1)) p6 h
  have hz : (iz s && decide (s.cases.length ≤ 40)) = true := hz
  rw [Bool.and_eq_true, decide_eq_true_iff] at hz
  have up : ∀ (l : List aF) (p : Int), 0 ≤ p → (dB (fun x => iN n x (d + 1)) l p).1 = true → l.length ≤ 60000 ∧ ∀ y ∈ l, qF y := fun l p hp h =>
   ⟨oC (f := fun x => iN n x (d + 1)) (fun y _ => wJ n _ y) hp h, fun y hy => by
    obtain ⟨q, hq, h⟩ := (mW (f := fun x => iN n x (d + 1)) _ _ (fun y _ => wJ n _ y) hp h).2 y hy
    exact AD n y _ q hq h⟩
  have oF := GO (fun s d => aJ.st n s d) (fun d s => wJ n d s) d s.cases [] _ p3 hc
  exact .mk s (rY hl).1 (rY hx).1 (by omega) (up _ _ p6 hb).1 (up _ _ p7 he).1 (rY hl).2 (rY hx).2 (up _ _ p6 hb).2 (up _ _ p7 he).2 (fun c hc => (oF c hc).1) fun c hc y hy => by
   obtain ⟨q, hq, h⟩ := (oF c hc).2 y hy
   exact AD n y _ q hq h
theorem Mf {α : Type} (nm : α → List UInt8) : ∀ (l : List α) (n : List UInt8), n ∉ l.map nm → fD nm l n = none
 | [], _, _ => rfl
 | x :: l, n, h => by
  unfold fD
  rw [if_neg (fun e => h (by rw [← e]; simp))]
  exact Mf nm l n fun hm => h (by simp [List.mem_cons] at hm ⊢; exact .inr hm)
theorem GP {l : List (List UInt8)} : ∀ (j : Nat), j ≤ l.length → gk j l = true → ∀ i (h : i < l.length), i < j → l[i] ∉ l.take i
 | 0, _, _, _, _, hi => absurd hi (Nat.not_lt_zero _)
 | j + 1, hj, h, i, hl, hi => by
  rw [vJ j l (by omega)] at h
  simp only [Bool.and_eq_true, Bool.not_eq_true'] at h
  by_cases e : i = j
  ·subst e
   intro hm
   rw [List.contains_iff_mem.2 hm] at h
   cases h.2
  ·exact GP j (by omega) h.1.1 i hl (by omega)
theorem GQ {jz : Nat} {l : List bI} {p : Int} (h : (ER jz l p).1 = true) (hm : jz ≤ 60000) : l.length ≤ 60000 ∧ (∀ x ∈ l, TW x.type) ∧ ∀ i (h : i < l.length), fD bI.name (l.take i) (l[i]).name = none := by
 obtain ⟨h1, h2⟩ := aW (f := dB (fun x : bI => aY (cG 0) (fun p => eV ak x.type 0 p)) l) h
 have h2 : (decide (l.length ≤ jz) && gk l.length (l.map bI.name)) = true := h2
 rw [Bool.and_eq_true, decide_eq_true_iff] at h2
 refine ⟨by omega, fun x hx => TW.yB (EW h x hx).2, fun i hi => Mf _ _ _ ?_⟩
 have := GP (l := l.map bI.name) l.length (by simp) h2.2 i (by simpa using hi) hi
 rw [← List.map_take] at this
 simpa using this
theorem mm {n : Nat} {x : oV} (h : (MG n x 0).1 = true) (hn : yA x) : nx x.structs x.funcs ∧ ∀ f ∈ x.funcs, FnG x.structs x.funcs f := by
 have wX := Gr h hn
 obtain ⟨h1, p1, h2⟩ := dR (f := dB Io x.structs) (aJ.row (f := Io) (c := Ur) x.structs fun s _ => aJ.su s) (Int.le_refl _) h
 have MW : ∀ s ∈ x.structs, Pos Io s := fun s _ q hq => AB ((aJ.allow (ak s.name)).and (aJ.pa 60 s.fields)) hq
 have hfp : ∀ f ∈ x.funcs, Pos (JC n) f := fun f _ q hq => AB ((aJ.allow (ak f.name)).and ((aJ.pa 20 f.params).and ((aJ.allow (decide (1 ≤ f.results.length) && decide (f.results.length ≤ 20))).and ((aJ.row (f := fun t p => eV ak t 0 p) (c := xB) f.results fun t _ => aJ.ty t 0).and
  (aJ.row (f := fun s => iN n s 0) (c := DB n) f.body fun s _ => aJ.st n s 0))))) hq
 have DP := (mW _ _ hfp p1 h2).2
 have PI := (mW _ _ MW (Int.le_refl _) h1).2
 have key : ∀ f ∈ x.funcs, (f.params.length ≤ 60000 ∧ f.results.length ≤ 60000 ∧ (∀ p ∈ f.params, TW p.type) ∧ ∀ t ∈ f.results, TW t) ∧ (∀ i (h : i < f.params.length), fD bI.name (f.params.take i) (f.params[i]).name = none) ∧ f.body.length ≤ 60000 ∧ ∀ s ∈ f.body, qF s := fun f hf => by
  obtain ⟨q, hq, h⟩ := DP f hf
  obtain ⟨_, q1, h⟩ := dR (aJ.part 0) hq h
  obtain ⟨_, q2, h⟩ := dR (aJ.allow (ak f.name)) q1 h
  obtain ⟨tJ, q3, h⟩ := dR (aJ.pa 20 f.params) q2 h
  obtain ⟨SG, q4, h⟩ := dR (aJ.allow _) q3 h
  obtain ⟨hrt, q5, h⟩ := dR (aJ.row (f := fun t p => eV ak t 0 p) (c := xB) f.results fun t _ => aJ.ty t 0) q4 h
  have SG : (decide (1 ≤ f.results.length) && decide (f.results.length ≤ 20)) = true := SG
  rw [Bool.and_eq_true, decide_eq_true_iff, decide_eq_true_iff] at SG
  obtain ⟨a1, a2, a3⟩ := GQ tJ (by omega)
  have up := mW (f := fun s => iN n s 0) _ _ (fun y _ => wJ n _ y) q5 h
  refine ⟨⟨a1, by omega, a2, fun t ht => TW.yB ((wX.2 f hf).2.2.2.1 t ht)⟩, a3, oC (f := fun s => iN n s 0) (fun y _ => wJ n _ y) q5 h, fun s hs => ?_⟩
  obtain ⟨q, hq, h⟩ := up.2 s hs
  exact AD n s _ q hq h
 have hE : nx x.structs x.funcs := ⟨oC MW (Int.le_refl _) h1, oC hfp p1 h2, fun s hs => by
  obtain ⟨q, hq, h⟩ := PI s hs
  obtain ⟨_, q1, h⟩ := dR (aJ.part 0) hq h
  obtain ⟨_, q2, h⟩ := dR (aJ.allow (ak s.name)) q1 h
  obtain ⟨a1, a2, _⟩ := GQ h (by omega)
  exact ⟨a1, a2⟩, fun f hf => (key f hf).1⟩
 refine ⟨hE, fun f hf => ?_⟩
 obtain ⟨⟨b1, b2, b3, b4⟩, b5, b6, b7⟩ := key f hf
 have jX := (wX.2 f hf).2.2.2.2
 exact ⟨I9 hE jX b7 b6, Jf b7 b6, O8 fun s hs => Y9 (b7 s hs), fun l e => L3 l (Fj.all (fun y hy => uC.shb (jX y hy) (b7 y hy)) e) (by have := congrArg List.length e; rw [dj, dj, List.length_map, List.length_map] at this; omega), b5, b1, b3, b7, b6⟩
set_option linter.defProp false
def c8 := by
 have c := aN Tryz.f8 (by conv => lhs; cbv)
 dsimp only [KK, fj, eR, eS, List.map_cons, List.map_nil, List.toList_toArray] at c
 exact c
theorem b8 : bK Tryz.prog 8 Tryz.f8 59 := ⟨Tryz.func8, by kernel_rfl⟩
def c22 := by
 have c := aN Tryz.f22 (by conv => lhs; cbv)
 dsimp only [KK, fj, eR, eS, List.map_cons, List.map_nil, List.toList_toArray] at c
 exact c
theorem b22 : bK Tryz.prog 22 Tryz.f22 40 := ⟨Tryz.func22, by kernel_rfl⟩
theorem VE : Gl (AT 4 bO) = true := by kernel_rfl
theorem VF : Gl (AT 2 bO) = true := by kernel_rfl
theorem Zp : jr true (AT 4 bO) = (AT 4 (.mk 4 [] []), 0) := by kernel_rfl
theorem Zq : jr true (AT 2 bO) = (⟨[], []⟩, 52) := by kernel_rfl
theorem VG (k : Int) : yA (AT k bO) := by
 intro f hf
 obtain rfl := List.mem_singleton.1 hf
 simp [iC, qt, ng, sN, rD]
theorem Pq (B : List (List V)) (T : List (Nat × Nat)) : aD Tryz.prog av 9 [l7 (AT 4 bO)] ⟨B, T⟩ (aB (.bZ [l7 (AT 4 (.mk 4 [] [])), .d (.int .i64 0)]) ⟨B, T⟩) := by
 obtain ⟨h1, h2⟩ := mm VE (VG 4)
 have := wH (B := B) (T := T) (fun _ => h1) (fun _ => h2) (rb := true) (fun B T => VE ▸ vR (AT 4 bO) B T)
 rwa [Zp] at this
theorem Pr (B : List (List V)) (T : List (Nat × Nat)) : aD Tryz.prog av 9 [l7 (AT 2 bO)] ⟨B, T⟩ (aB (.bZ [l7 ⟨[], []⟩, .d (.int .i64 52)]) ⟨B, T⟩) := by
 obtain ⟨h1, h2⟩ := mm VF (VG 2)
 have := wH (B := B) (T := T) (fun _ => h1) (fun _ => h2) (rb := true) (fun B T => VF ▸ vR (AT 2 bO) B T)
 rwa [Zq] at this
def W3 : cR := ⟨[102], [⟨[97], .mk 4 [] []⟩], [.mk 4 [] []], [.mk 6 [] bO [] [.mk 6 [43] 0 bO [] [.mk 1 [97] 0 bO [] [], .mk 2 [] 1 (.mk 4 [] []) [] []]] [] [] []]⟩
theorem Sb : (AT 4 (.mk 4 [] [])).funcs = [W3] := rfl
set_option maxHeartbeats 4000000 in
theorem Sc (S : Mem) : aD Tryz.prog av 22 [xD W3] S (aB (.d (.int .i64 4)) S) := by
 refine aD.same (v := .d (.int .i64 4)) ?_ rfl rfl S
 unfold xD W3
 simp only [List.map_cons, List.map_nil, bY, cP, aF.exprs, aj.kids]
 refine b22.go 200 rfl fun _ => ?_
 simp only [W, seval, c22, List.map_cons, List.map_nil]
 refine af.ret Tryz.func22 rfl (Left.empty ?_)
 exact ⟨rfl, rfl⟩
set_option maxHeartbeats 8000000 in
theorem Fv (S : Mem) : aD Tryz.prog av 8 [] S (aB (.d (.bool true)) S) := by
 refine aD.same (v := .d (.bool true)) ?_ rfl rfl S
 have hP := aD.Ge IK (args := [.sl (Cg SN) .full]) (by simp [ud, wk]) rfl
 have hQ := aD.Ge IL (args := [.sl (Cg SO) .full]) (by simp [ud, wk]) rfl
 have hC := fun B => Pq B []
 have hD := fun B => Pr B []
 have hO := Sc
 have hn : (az.mk 0 [] []) = bO := rfl
 rw [hn] at hP hQ
 unfold l7 at hP hQ hC hD
 rw [Sb] at hC
 unfold xD at hO
 have hl : decide ((([W3].length : Nat) : Int) = 1) = true := rfl
 refine b8.go 60 rfl fun _ => ?_
 simp only [W, seval, c8, bX, bH, Nat.reduceMul]
 refine ag (hP _) ?_
 rintro _ _ ⟨rfl, rfl⟩
 refine af.go 60 ?_
 simp only [W, seval, c8, bX, bH, Nat.reduceMul]
 refine ag (hQ _) ?_
 rintro _ _ ⟨rfl, rfl⟩
 refine af.go 60 ?_
 simp only [W, seval, c8, bX, bH, Nat.reduceMul]
 refine ag (hC _) ?_
 rintro _ _ ⟨rfl, rfl⟩
 refine af.go 60 ?_
 simp only [W, seval, c8, bX, bH, Nat.reduceMul]
 refine ag (hD _) ?_
 rintro _ _ ⟨rfl, rfl⟩
 refine af.go 160 ?_
 simp only [W, seval, c8, bX, bH, Nat.reduceMul, hl, qs]
 refine ag (hO _) ?_
 rintro _ _ ⟨rfl, rfl⟩
 refine af.go 160 ?_
 simp only [W, seval, c8]
 refine af.ret Tryz.func8 rfl (Left.empty ?_)
 exact ⟨rfl, rfl⟩
def Sd := by
 have c := aN Tryz.f47 (by conv => lhs; cbv)
 dsimp only [KK, fj, eR, eS, List.map_cons, List.map_nil, List.toList_toArray] at c
 exact c
theorem b47 : bK Tryz.prog 47 Tryz.f47 27 := ⟨Tryz.func47, by kernel_rfl⟩
def Ti (l : List aj) : Prop := ∀ S : Mem, aD Tryz.prog av 47 [.d (.sl (l.map eH))] S (aB (.d (.sl ((aM l).map eH))) S)
theorem wK (rows : List (List D)) (tk : Go.Ab.Tok) (l : List V) : List.mapM mE (.sl rows tk :: l) = (List.mapM mE l).map (.sl rows :: ·) := by
 simp only [List.mapM_cons, mE]
 cases List.mapM mE l <;> rfl
theorem bQ : ∀ l : List aj, aM l = l.map bJ
 | [] => by simp [aM]
 | x :: l => by simp [aM, bQ l]
set_option maxHeartbeats 4000000 in
theorem tV (l : List aj) (h : ∀ x ∈ l, Ti x.kids) (hl : l.length ≤ 60000) : Ti l := by
 intro S
 refine aD.same (v := .d (.sl ((aM l).map eH))) ?_ rfl rfl S
 rw [bQ]
 refine b47.go 30 rfl fun bh => ?_
 simp only [eI] at bh
 simp only [W, seval, Sd]
 refine af.token 3 [] (by rfl) 8 (by omega) rfl ?_
 simp only [ko]
 refine af.go 60 ?_
 simp only [W, seval, Sd]
 refine af.ir (fun i : Nat => (bu 27 [(3, .sl (((l.take i).map bJ).map eH) (.own 0)), (6, .d (.sl (l.map eH))), (7, .d (.int .i64 l.length)), (8, .d (.int .i64 i))], ⟨[], [(i, 8)]⟩)) (fun i => i ≤ l.length) (fun i => l.length - i) 0 (Nat.zero_le _) ?_ rfl ?_
 ·skip
  refine ay.env _ ?_
  simp only [cZ, seval]
  all_goals rfl
 intro i h1 ih
 dsimp only at ih ⊢
 by_cases au : i < l.length
 ·have hw := aI ((i : Int) + 1) (by omega)
  have aH : decide ((i : Int) < (l.length : Int)) = true := decide_eq_true (by omega)
  have hg := List.getElem?_eq_getElem au
  obtain ⟨x, hx⟩ : ∃ x, l[i] = x := ⟨_, rfl⟩
  have Zr := h l[i] (List.getElem_mem au)
  rw [hx] at hg Zr
  have De : ((l.take i).map bJ).map eH ++ [eH (bJ x)] = ((l.take (i + 1)).map bJ).map eH := by
   rw [List.take_succ_eq_append_getElem au, hx]
   simp
  have xm : min i l.length = i := by omega
  have ek : (i + 1) * 128 ≤ 140737488355328 := by omega
  have MN : cV 8 [eH (bJ x)] = true := by rw [cP]; rfl
  have hs : eH (bJ x) = [.int .i64 x.kind, .str x.text, .int .u64 x.int, .int .i64 (if x.kind = 2 then bO else x.type).kind, .str (if x.kind = 2 then bO else x.type).name, .sl ((if x.kind = 2 then bO else x.type).elem.map ej), .sl (gu x.names), .sl ((aM x.kids).map eH)] := by
   cases x
   unfold bJ
   rw [cP]
   rfl
  rw [hs] at De MN
  by_cases hk : x.kind = 2
  ·rw [if_pos hk] at De MN
   simp only [bO, az.kind, az.name, az.elem, List.map_nil] at De MN
   refine af.go 100 ?_
   simp only [W, seval, Sd, List.getElem?_map, hg, aH, cP, decide_eq_true hk]
   refine ag (Zr _) ?_
   rintro _ _ ⟨rfl, rfl⟩
   refine af.go 160 ?_
   simp only [W, seval, Sd, hw, ek, MN, De, bX, bH, wK, List.length_map, List.length_take, xm, Nat.reduceMul]
   refine ih (i + 1) au (by omega) _ _ _ _ rfl ⟨Nat.zero_le _, Nat.zero_le _⟩ (fun vs hv => absurd hv List.not_mem_nil) ?_
   refine cC.env _ ?_
   simp only [yq, seval]
   all_goals rfl
  ·rw [if_neg hk] at De MN
   refine af.go 100 ?_
   simp only [W, seval, Sd, List.getElem?_map, hg, aH, cP, decide_eq_false hk]
   refine ag (Zr _) ?_
   rintro _ _ ⟨rfl, rfl⟩
   refine af.go 160 ?_
   simp only [W, seval, Sd, hw, ek, MN, De, bX, bH, wK, List.length_map, List.length_take, xm, Nat.reduceMul]
   refine ih (i + 1) au (by omega) _ _ _ _ rfl ⟨Nat.zero_le _, Nat.zero_le _⟩ (fun vs hv => absurd hv List.not_mem_nil) ?_
   refine cC.env _ ?_
   simp only [yq, seval]
   all_goals rfl
 ·have aH : decide ((i : Int) < (l.length : Int)) = false := decide_eq_false (by omega)
  obtain rfl : i = l.length := by omega
  rw [List.take_length]
  refine af.go 100 ?_
  simp only [W, seval, Sd, aH]
  refine af.ret Tryz.func47 rfl (Left.empty ?_)
  exact ⟨rfl, rfl⟩
def DF := by
 have c := aN Tryz.f17 (by conv => lhs; cbv)
 dsimp only [KK, fj, eR, eS, List.map_cons, List.map_nil, List.toList_toArray] at c
 exact c
theorem b17 : bK Tryz.prog 17 Tryz.f17 56 := ⟨Tryz.func17, by kernel_rfl⟩
theorem Dm {x : aj} (h : r9 x) : Ti x.kids := by
 induction h with
 | mk x h1 h2 ih => exact tV _ ih (by omega)
theorem wL {l : List aj} (h : ∀ x ∈ l, r9 x) (hl : l.length ≤ 60000) : Ti l := tV l (fun x hx => Dm (h x hx)) hl
def Jk (l : List aF) : Prop := ∀ S : Mem, aD Tryz.prog av 17 [.d (.sl (l.map dL))] S (aB (.d (.sl ((cx l).map dL))) S)
set_option maxHeartbeats 4000000 in
theorem tW (l : List aF) (h : ∀ s ∈ l, Ti s.aG ∧ Ti s.exprs ∧ Jk s.body ∧ Jk s.dO ∧ (∀ c ∈ s.cases, Jk c.body) ∧ s.cases.length ≤ 60000) (hl : l.length ≤ 60000) : Jk l := by
 intro S
 refine aD.same (v := .d (.sl ((cx l).map dL))) ?_ rfl rfl S
 rw [dj]
 refine b17.go 30 rfl fun bh => ?_
 simp only [eI] at bh
 simp only [W, seval, DF]
 refine af.token 3 [] (by rfl) 10 (by omega) rfl ?_
 simp only [ko]
 refine af.go 60 ?_
 simp only [W, seval, DF]
 refine af.PL (fun i : Nat => (bu 56 [(3, .sl (((l.take i).map mC).map dL) (.own 0)), (9, .d (.sl (l.map dL))), (10, .d (.int .i64 l.length)), (11, .d (.int .i64 i))], ⟨[], [(i, 10)]⟩)) (fun i => i ≤ l.length) (fun i => l.length - i) 0 (Nat.zero_le _) ?_ rfl ?_
 ·skip
  refine ay.env _ ?_
  simp only [cZ, seval]
  all_goals rfl
 intro i h1 ih
 dsimp only at ih ⊢
 by_cases au : i < l.length
 ·have hw := aI ((i : Int) + 1) (by omega)
  have aH : decide ((i : Int) < (l.length : Int)) = true := decide_eq_true (by omega)
  have hg := List.getElem?_eq_getElem au
  obtain ⟨s, hs⟩ : ∃ s, l[i] = s := ⟨_, rfl⟩
  obtain ⟨q1, q2, q3, q4, q5, q6⟩ := h l[i] (List.getElem_mem au)
  rw [hs] at hg q1 q2 q3 q4 q5 q6
  have De : ((l.take i).map mC).map dL ++ [dL (mC s)] = ((l.take (i + 1)).map mC).map dL := by
   rw [List.take_succ_eq_append_getElem au, hs]
   simp
  have xm : min i l.length = i := by omega
  have ek : (i + 1) * 200 ≤ 140737488355328 := by omega
  have MN : cV 10 [dL (mC s)] = true := by rw [bY]; rfl
  have IB : dL (mC s) = [.int .i64 s.kind, .sl (gu s.names), .int .i64 s.type.kind, .str s.type.name, .sl (s.type.elem.map ej), .sl ((aM s.aG).map eH), .sl ((aM s.exprs).map eH), .sl ((cx s.body).map dL), .sl ((cx s.dO).map dL), .sl ((jm s.cases).map jJ)] := by
   cases s
   unfold mC
   rw [bY]
   rfl
  rw [IB] at De MN
  refine af.go 100 ?_
  simp only [W, seval, DF, List.getElem?_map, hg, aH, bY]
  refine af.bp 13 [] [0] (by kernel_rfl) (by kernel_rfl) (by kernel_rfl) (by kernel_rfl) (by kernel_rfl) (by kernel_rfl) (by kernel_rfl) ?_
  simp (maxSteps := 4000000) only [W, seval, DF, xw, List.getElem?_map, hg, aH, bY]
  refine bf (fun Z => q1 _) ?_
  simp (maxSteps := 4000000) only [W, seval, DF, xw, List.getElem?_map, hg, aH, bY]
  refine bf (fun Z => q2 _) ?_
  simp (maxSteps := 4000000) only [W, seval, DF, xw, List.getElem?_map, hg, aH, bY]
  refine bf (fun Z => q3 _) ?_
  simp (maxSteps := 4000000) only [W, seval, DF, xw, List.getElem?_map, hg, aH, bY]
  refine bf (fun Z => q4 _) ?_
  simp (maxSteps := 4000000) only [W, seval, DF, xw, List.getElem?_map, hg, aH, bY]
  obtain ⟨r0, M7⟩ : ∃ r0, r0 = [V.d (.int .i64 s.kind), .d (.sl (gu s.names)), .d (.int .i64 s.type.kind), .d (.str s.type.name), .d (.sl (s.type.elem.map ej)), .d (.sl ((aM s.aG).map eH)), .d (.sl ((aM s.exprs).map eH)), .d (.sl ((cx s.body).map dL)), .d (.sl ((cx s.dO).map dL)), .d (.sl (s.cases.map jJ))] := ⟨_, rfl⟩
  refine af.go 100 ?_
  simp only [W, seval, DF]
  refine af.token 6 [] (by rfl) 2 (by omega) rfl ?_
  simp only [ko]
  refine af.ir (fun j : Nat => (bu 56 [(6, .sl (((s.cases.take j).map E7).map jJ) (.own 1)), (32, .d (.sl (s.cases.map jJ))), (33, .d (.int .i64 s.cases.length)), (34, .d (.int .i64 j)), (5, .ptr 0 0), (3, .sl (((l.take i).map mC).map dL) (.own 0)), (9, .d (.sl (l.map dL))), (10, .d (.int .i64 l.length)), (11, .d (.int .i64 i))], ⟨[r0], [(i, 10), (j, 2)]⟩)) (fun j => j ≤ s.cases.length) (fun j => s.cases.length - j) 0 (Nat.zero_le _) ?_ (by rw [M7]; rfl) ?_
  ·skip
   refine ay.env _ ?_
   simp only [cZ, seval]
   all_goals rfl
  intro j g1 nE
  dsimp only at nE ⊢
  by_cases uI : j < s.cases.length
  ·have oQ := aI ((j : Int) + 1) (by omega)
   have qB : decide ((j : Int) < (s.cases.length : Int)) = true := decide_eq_true (by omega)
   have MO := List.getElem?_eq_getElem uI
   obtain ⟨c, hc⟩ : ∃ c, s.cases[j] = c := ⟨_, rfl⟩
   have q := q5 s.cases[j] (List.getElem_mem uI)
   rw [hc] at MO q
   have Wt : ((s.cases.take j).map E7).map jJ ++ [jJ (E7 c)] = ((s.cases.take (j + 1)).map E7).map jJ := by
    rw [List.take_succ_eq_append_getElem uI, hc]
    simp
   have hbc : jJ (E7 c) = [.int .u64 c.int, .sl ((cx c.body).map dL)] := by
    cases c
    unfold E7
    rw [gr]
    rfl
   have VH : min j s.cases.length = j := by omega
   have VI : (j + 1) * 32 ≤ 140737488355328 := by omega
   have hr2 : cV 2 [jJ (E7 c)] = true := by rw [gr]; rfl
   rw [hbc] at Wt hr2
   refine af.go 100 ?_
   simp only [W, seval, DF, List.getElem?_map, MO, qB, gr]
   refine af.bp 9 [] [1] (by kernel_rfl) (by kernel_rfl) (by kernel_rfl) (by kernel_rfl) (by kernel_rfl) (by kernel_rfl) (by kernel_rfl) ?_
   simp (maxSteps := 4000000) only [W, seval, DF, xw, List.getElem?_map, MO, qB, gr]
   refine bf (fun Z => q _) ?_
   simp (maxSteps := 4000000) only [W, seval, DF, xw, List.getElem?_map, MO, qB, gr, bX, bH]
   refine Or.inr ?_
   simp (maxSteps := 4000000) only [W, seval, DF, xw, List.length_take, VH, VI, hr2, Wt]
   refine af.go 60 ?_
   simp only [W, seval, DF, oQ]
   refine nE (j + 1) uI (by omega) _ _ _ _ rfl ⟨Nat.zero_le _, Nat.zero_le _⟩ (fun vs hv => by rw [List.mem_singleton.1 hv, M7]; rfl) ?_
   refine cC.env _ ?_
   simp only [yq, seval]
   exact ⟨rfl, rfl, rfl⟩
  ·have qB : decide ((j : Int) < (s.cases.length : Int)) = false := decide_eq_false (by omega)
   obtain rfl : j = s.cases.length := by omega
   rw [List.take_length]
   subst M7
   rw [kQ] at De MN
   refine af.go 200 ?_
   simp only [W, seval, DF, qB, hw, ek, MN, De, bX, bH, wK, List.length_map, List.length_take, xm, Nat.reduceMul]
   refine ih (i + 1) au (by omega) _ [] _ [(i + 1, 10)] [(s.cases.length, 2)] rfl ⟨Nat.zero_le _, Nat.zero_le _⟩ (fun vs hv => absurd hv List.not_mem_nil) ?_
   refine cC.env _ ?_
   simp only [yq, seval]
   all_goals rfl
 ·have aH : decide ((i : Int) < (l.length : Int)) = false := decide_eq_false (by omega)
  obtain rfl : i = l.length := by omega
  rw [List.take_length]
  refine af.go 100 ?_
  simp only [W, seval, DF, aH]
  refine af.ret Tryz.func17 rfl (Left.empty ?_)
  exact ⟨rfl, rfl⟩
theorem r9.same {x : aj} (h : r9 x) : ∀ y, bJ y = bJ x → r9 y := by
 induction h with
 | mk x h1 h2 ih =>
  intro y e
  cases x with
  | mk k t i ty ns ks =>
   cases y with
   | mk k' t' i' SW SX SY =>
    unfold bJ at e
    have e := (aj.mk.inj e).2.2.2.2.2
    rw [bQ, bQ] at e
    have l := congrArg List.length e
    rw [List.length_map, List.length_map] at l
    refine .mk _ ?_ fun y hy => ?_
    ·show SY.length ≤ 30000
     rw [l]
     exact h1
    ·obtain ⟨x, hx, e2⟩ := jv e hy
     exact ih x hx y e2.symm
theorem r9.all {l l' : List aj} (h : ∀ x ∈ l, r9 x) (e : aM l' = aM l) : l'.length = l.length ∧ ∀ y ∈ l', r9 y := by
 rw [bQ, bQ] at e
 have len := congrArg List.length e
 rw [List.length_map, List.length_map] at len
 refine ⟨len, fun y hy => ?_⟩
 obtain ⟨x, hx, e2⟩ := jv e hy
 exact (h x hx).same y e2.symm
theorem qF.same {s : aF} (h : qF s) : ∀ s', mC s' = mC s → qF s' := by
 induction h with
 | mk s a1 a2 a3 a4 a5 a6 a7 a8 a9 DD Fg i8 i9 i11 =>
  intro s' e
  cases s with
  | mk k ns ty ls es b e0 cs =>
   cases s' with
   | mk k' SX SW Wx RG b' e' LB =>
    unfold mC at e
    obtain ⟨_, _, _, e1, e2, e3, e4, e5⟩ := aF.mk.inj e
    obtain ⟨l1, k1⟩ := r9.all a6 e1
    obtain ⟨l2, k2⟩ := r9.all a7 e2
    have sub : ∀ (l l' : List aF), cx l' = cx l → (∀ x ∈ l, ∀ y, mC y = mC x → qF y) → l'.length = l.length ∧ ∀ y ∈ l', qF y := fun l l' e hi => by
     rw [dj, dj] at e
     have len := congrArg List.length e
     rw [List.length_map, List.length_map] at len
     exact ⟨len, fun y hy => by obtain ⟨x, hx, e2⟩ := jv e hy; exact hi x hx y e2.symm⟩
    obtain ⟨l3, k3⟩ := sub _ _ e3 i8
    obtain ⟨l4, k4⟩ := sub _ _ e4 i9
    rw [kQ, kQ] at e5
    have l5 := congrArg List.length e5
    rw [List.length_map, List.length_map] at l5
    have kc : ∀ c ∈ LB, c.body.length ≤ 60000 ∧ ∀ y ∈ c.body, qF y := fun c hc => by
     obtain ⟨x, hx, e6⟩ := jv e5 hc
     have e7 : cx c.body = cx x.body := by
      cases c; cases x
      unfold E7 at e6
      exact (cQ.mk.inj e6).2.symm
     obtain ⟨q1, q2⟩ := sub _ _ e7 (i11 x hx)
     exact ⟨by rw [q1]; exact DD x hx, q2⟩
    exact .mk _ (by show Wx.length ≤ _; rw [l1]; exact a1) (by show RG.length ≤ _; rw [l2]; exact a2) (by show LB.length ≤ _; rw [l5]; exact a3) (by show b'.length ≤ _; rw [l3]; exact a4) (by show e'.length ≤ _; rw [l4]; exact a5) k1 k2 k3 k4 (fun c hc => (kc c hc).1) fun c hc => (kc c hc).2
theorem qF.all {l l' : List aF} (h : ∀ s ∈ l, qF s) (e : cx l' = cx l) : l'.length = l.length ∧ ∀ y ∈ l', qF y := by
 rw [dj, dj] at e
 have len := congrArg List.length e
 rw [List.length_map, List.length_map] at len
 exact ⟨len, fun y hy => by obtain ⟨x, hx, e2⟩ := jv e hy; exact (h x hx).same y e2.symm⟩
theorem Dq {s : aF} (h : qF s) : Jk s.body ∧ Jk s.dO ∧ ∀ c ∈ s.cases, Jk c.body := by
 induction h with
 | mk s a1 a2 a3 a4 a5 a6 a7 a8 a9 DD Fg i8 i9 i11 =>
  have key : ∀ l : List aF, (∀ y ∈ l, qF y) → (∀ y ∈ l, Jk y.body ∧ Jk y.dO ∧ ∀ c ∈ y.cases, Jk c.body) → l.length ≤ 60000 → Jk l := fun l a b c =>
   tW l (fun y hy => by
    obtain ⟨k1, k2, k3⟩ := b y hy
    refine ⟨?_, ?_, k1, k2, k3, by have := (a y hy).cases; omega⟩ <;> (cases a y hy with | mk _ e1 e2 e3 e4 e5 e6 e7 e8 e9 OG RQ => exact wL (by assumption) (by omega))) c
  exact ⟨key _ a8 i8 a4, key _ a9 i9 a5, fun c hc => key _ (Fg c hc) (i11 c hc) (DD c hc)⟩
theorem Fw {l : List aF} (h : ∀ s ∈ l, qF s) (hl : l.length ≤ 60000) : Jk l :=
 tW l (fun y hy => by
  obtain ⟨k1, k2, k3⟩ := Dq (h y hy)
  refine ⟨?_, ?_, k1, k2, k3, by have := (h y hy).cases; omega⟩ <;> (cases h y hy with | mk _ e1 e2 e3 e4 e5 e6 e7 e8 e9 OG RQ => exact wL (by assumption) (by omega))) hl
theorem dF {α : Type} {f : α → α} : ∀ {l : List α}, (∀ x ∈ l, f x = x) → l.map f = l
 | [], _ => rfl
 | x :: l, h => by rw [List.map_cons, h x List.mem_cons_self, dF fun y hy => h y (List.mem_cons_of_mem _ hy)]
theorem jE.bare {d : Int} {x : aj} (h : jE d x) : bJ x = x := by
 induction h with
 | JE d t h1 h2 => unfold bJ; rw [aM]; rfl
 | num d i h1 h2 h3 => unfold bJ; rw [aM]; rfl
 | UO d i h1 h2 h3 => unfold bJ; rw [aM]; rfl
 | Rz d k y h1 h2 h3 ih => unfold bJ; rw [if_neg (by omega), bQ, dF (by simpa using ih)]
 | bin d t y z h1 h2 h3 h4 Se Fh => unfold bJ; rw [if_neg (by decide), bQ, dF (by simpa using ⟨Se, Fh⟩)]
 | SQ d t ks h1 h2 h3 ih => unfold bJ; rw [if_neg (by decide), bQ, dF ih]
 | SR d k y h1 h2 h3 h4 ih => unfold bJ; rw [if_neg (by decide), bQ, dF (by simpa using ih)]
 | SS d t y h1 h2 h3 ih => unfold bJ; rw [if_neg (by decide), bQ, dF (by simpa using ih)]
 | idx d y z h1 h2 h3 nE Se => unfold bJ; rw [if_neg (by decide), bQ, dF (by simpa using ⟨nE, Se⟩)]
 | cut d y z v h1 h2 h3 h4 nE Se Fh => unfold bJ; rw [if_neg (by decide), bQ, dF (by simpa using ⟨nE, Se, Fh⟩)]
 | len d y h1 h2 ih => unfold bJ; rw [if_neg (by decide), bQ, dF (by simpa using ih)]
 | app d y z h1 h2 h3 nE Se => unfold bJ; rw [if_neg (by decide), bQ, dF (by simpa using ⟨nE, Se⟩)]
 | str d n ns ks h1 h2 h3 h4 h5 ih => unfold bJ; rw [if_neg (by decide), bQ, dF ih]
 | SU d t ks h1 h2 h3 ih => unfold bJ; rw [if_neg (by decide), bQ, dF ih]
theorem uC.bare {d : Int} {s : aF} (h : uC d s) : mC s = s := by
 have he : ∀ {d : Int} {l : List aj}, (∀ x ∈ l, jE d x) → aM l = l := fun h => by rw [bQ, dF fun x hx => (h x hx).bare]
 have hs : ∀ {l : List aF}, (∀ x ∈ l, mC x = x) → cx l = l := fun h => by rw [dj, dF h]
 induction h with
 | var d n t h1 h2 h3 => unfold mC; rw [aM, cx, jm]
 | set d ls es h1 h2 h3 h4 h5 h6 => unfold mC; rw [he h5, he h6, cx, jm]
 | iff d x b e h1 h2 h3 h4 h5 i4 i5 => unfold mC; rw [aM, he (d := d + 1) (by simpa using h2), hs i4, hs i5, jm]
 | Wv d x b h1 h2 h3 h4 i4 => unfold mC; rw [aM, he (d := d + 1) (by simpa using h2), hs i4, cx, jm]
 | Ww d x e cs h1 h2 h3 h4 h5 h6 i4 i6 =>
  unfold mC
  rw [aM, he (d := d + 1) (by simpa using h2), hs i4, cx, kQ, dF fun c hc => by
   have := hs (i6 c hc)
   cases c
   unfold E7
   exact congrArg _ this]
 | ret d es h1 h2 h3 => unfold mC; rw [aM, he h3, cx, jm]
def Mg (f : cR) : cR := ⟨f.name, f.params, f.results, cx f.body⟩
theorem wM {su : List cM} {fu : List cR} : ∀ {l fs : List cR}, (∀ f ∈ l, cx f.body = f.body) → l.mapM (fC su fu) = some fs → fs.map Mg = l ∧ fs.length = l.length ∧ ∀ g ∈ fs, ∃ f ∈ l, cx g.body = cx f.body
 | [], fs, _, h => by
  rw [List.mapM_nil] at h
  obtain rfl := Option.some.inj h
  exact ⟨rfl, rfl, fun _ h => absurd h List.not_mem_nil⟩
 | f :: l, fs, hb, h => by
  have e := yU (fC su fu) f l []
  have e0 : (Option.map (([] : List cR) ++ ·) ((f :: l).mapM (fC su fu))) = (f :: l).mapM (fC su fu) := by cases (f :: l).mapM (fC su fu) <;> rfl
  rw [e0, h] at e
  cases hg : fC su fu f with
  | none => rw [hg] at e; cases e
  | some y =>
   rw [hg] at e
   cases hm : l.mapM (fC su fu) with
   | none => rw [hm] at e; cases e
   | some ys =>
    rw [hm] at e
    obtain rfl := Option.some.inj e
    obtain ⟨r1, r2, r3⟩ := wM (fun f hf => hb f (List.mem_cons_of_mem _ hf)) hm
    have hy : Mg y = f ∧ cx y.body = cx f.body := by
     unfold fC at hg
     split at hg
     ·rename_i b Nx
      split at hg
      ·obtain rfl := Option.some.inj hg
       have := fq _ _ _ _ _ _ Nx
       refine ⟨?_, this⟩
       unfold Mg
       dsimp only
       rw [this, hb f List.mem_cons_self]
      ·cases hg
     ·cases hg
    refine ⟨?_, ?_, fun g hg => ?_⟩
    ·show Mg y :: ys.map Mg = f :: l
     rw [hy.1, r1]
    ·show ys.length + 1 = l.length + 1
     rw [r2]
    ·rcases List.mem_cons.1 hg with rfl | hg
     ·exact ⟨f, List.mem_cons_self, hy.2⟩
     ·obtain ⟨x, hx, e⟩ := r3 g hg
      exact ⟨x, List.mem_cons_of_mem _ hx, e⟩
def Zs := by
 have c := aN Tryz.f36 (by conv => lhs; cbv)
 dsimp only [KK, fj, eR, eS, List.map_cons, List.map_nil, List.toList_toArray] at c
 exact c
theorem b36 : bK Tryz.prog 36 Tryz.f36 17 := ⟨Tryz.func36, by kernel_rfl⟩
def Zt := by
 have c := aN Tryz.f38 (by conv => lhs; cbv)
 dsimp only [KK, fj, eR, eS, List.map_cons, List.map_nil, List.toList_toArray] at c
 exact c
theorem b38 : bK Tryz.prog 38 Tryz.f38 19 := ⟨Tryz.func38, by kernel_rfl⟩
def Sf := by
 have c := aN Tryz.f40 (by conv => lhs; cbv)
 dsimp only [KK, fj, eR, eS, List.map_cons, List.map_nil, List.toList_toArray] at c
 exact c
theorem b40 : bK Tryz.prog 40 Tryz.f40 33 := ⟨Tryz.func40, by kernel_rfl⟩
def W4 := by
 have c := aN Tryz.f15 (by conv => lhs; cbv)
 dsimp only [KK, fj, eR, eS, List.map_cons, List.map_nil, List.toList_toArray] at c
 exact c
theorem b15 : bK Tryz.prog 15 Tryz.f15 24 := ⟨Tryz.func15, by kernel_rfl⟩
set_option maxHeartbeats 1000000 in
theorem yV (x y : bI) (S : Mem) : aD Tryz.prog av 36 [AS x, AS y] S (aB (.d (.bool (xH x y))) S) := by
 refine aD.same (v := .d (.bool (xH x y))) ?_ rfl rfl S
 unfold xH
 have fk := gW x.type y.type
 unfold aT at fk
 unfold AS
 cases h1 : decide (x.name = y.name)
 ·refine b36.go 200 rfl fun _ => ?_
  simp only [W, seval, Zs, h1]
  refine af.ret Tryz.func36 rfl (Left.empty ?_)
  exact ⟨rfl, rfl⟩
 refine b36.go 200 rfl fun _ => ?_
 simp only [W, seval, Zs, h1]
 refine ag (fk _) ?_
 rintro _ _ ⟨rfl, rfl⟩
 refine af.go 200 ?_
 simp only [W, seval, Zs]
 refine af.ret Tryz.func36 rfl (Left.empty ?_)
 exact ⟨rfl, rfl⟩
set_option maxHeartbeats 1000000 in
theorem Jl (x y : cM) (a : Nat) (B : List (List V)) (T : List (Nat × Nat)) (ha : B[a]? = some [.func 36 [] []]) : aD Tryz.prog av 38 [xC x, xC y, .ptr a 0] ⟨B, T⟩ (aB (.d (.bool (EY x y))) ⟨B, T⟩) := by
 obtain ⟨N, hn⟩ : ∃ N, B.length = N := ⟨_, rfl⟩
 have vj : a < N := by have := (List.getElem?_eq_some_iff.1 ha).1; omega
 unfold EY
 have tJ := fun B T => nj 36 [] [] xH x.fields y.fields B T (fun p _ q _ J => yV p q _)
 unfold xC
 cases h1 : decide (x.name = y.name)
 ·refine b38.go 200 rfl fun bh => ?_
  simp only [eI] at bh
  simp only [W, seval, Zt, h1, hn, vj, ha]
  refine af.ret Tryz.func38 rfl (Left.box ?_)
  exact ⟨rfl, rfl⟩
 refine b38.go 200 rfl fun bh => ?_
 simp only [eI] at bh
 simp only [W, seval, Zt, h1, hn, vj, ha]
 refine ag (tJ _ _) ?_
 rintro _ _ ⟨rfl, rfl⟩
 refine af.go 200 ?_
 simp only [W, seval, Zt, hn, vj]
 refine af.ret Tryz.func38 rfl (Left.box ?_)
 exact ⟨rfl, rfl⟩
set_option maxHeartbeats 1000000 in
theorem Jm (x y : cR) (a : Nat) (B : List (List V)) (T : List (Nat × Nat)) (ha : B[a]? = some [.func 36 [] []]) : aD Tryz.prog av 40 [xD x, xD y, .ptr a 0] ⟨B, T⟩ (aB (.d (.bool (IS x y))) ⟨B, T⟩) := by
 obtain ⟨N, hn⟩ : ∃ N, B.length = N := ⟨_, rfl⟩
 have vj : a < N := by have := (List.getElem?_eq_some_iff.1 ha).1; omega
 unfold IS
 have tJ := fun B T => nj 36 [] [] xH x.params y.params B T (fun p _ q _ J => yV p q _)
 have SG := fun B T => kH 37 [] [] w7 x.results y.results B T (fun p _ q _ J => gW p q _)
 have z8 := fun B T => iI 43 [] [] nB x.body y.body B T (fun p _ q _ J => tN p q _)
 unfold xD
 cases h1 : decide (x.name = y.name)
 ·refine b40.go 200 rfl fun bh => ?_
  simp only [eI] at bh
  simp only [W, seval, Sf, h1, hn, vj, ha]
  refine af.ret Tryz.func40 rfl (Left.box ?_)
  exact ⟨rfl, rfl⟩
 refine b40.go 200 rfl fun bh => ?_
 simp only [eI] at bh
 simp only [W, seval, Sf, h1, hn, vj, ha]
 refine ag (tJ _ _) ?_
 rintro _ _ ⟨rfl, rfl⟩
 cases h2 : fP xH x.params y.params
 ·refine af.go 200 ?_
  simp only [W, seval, Sf, hn, vj, h2]
  refine af.ret Tryz.func40 rfl (Left.box ?_)
  exact ⟨rfl, rfl⟩
 refine af.go 200 ?_
 simp only [W, seval, Sf, hn, vj, h2]
 refine ag (SG _ _) ?_
 rintro _ _ ⟨rfl, rfl⟩
 cases h3 : fP w7 x.results y.results
 ·refine af.go 200 ?_
  simp only [W, seval, Sf, hn, vj, h3]
  refine af.ret Tryz.func40 rfl (Left.box ?_)
  exact ⟨rfl, rfl⟩
 refine af.go 200 ?_
 simp only [W, seval, Sf, hn, vj, h3]
 refine ag (z8 _ _) ?_
 rintro _ _ ⟨rfl, rfl⟩
 refine af.go 200 ?_
 simp only [W, seval, Sf, hn, vj]
 refine af.ret Tryz.func40 rfl (Left.box ?_)
 exact ⟨rfl, rfl⟩
set_option maxHeartbeats 1000000 in
theorem GR (p q : oV) (S : Mem) : aD Tryz.prog av 15 [l7 p, l7 q] S (aB (.d (.bool (LC p q))) S) := by
 refine aD.same (v := .d (.bool (LC p q))) ?_ rfl rfl S
 unfold LC
 have Th := fun B T (h : ∀ J, (B ++ J)[2]? = some [.func 36 [] []]) => sR 38 [] [.ptr 2 0] EY p.structs q.structs B T (fun x _ y _ J => Jl x y 2 _ T (h J))
 have VC := fun B T (h : ∀ J, (B ++ J)[2]? = some [.func 36 [] []]) => v9 40 [] [.ptr 2 0] IS p.funcs q.funcs B T (fun x _ y _ J => Jm x y 2 _ T (h J))
 unfold l7
 refine b15.go 200 rfl fun _ => ?_
 simp only [W, seval, W4]
 refine ag (Th _ _ (fun J => rfl)) ?_
 rintro _ _ ⟨rfl, rfl⟩
 cases h2 : fP EY p.structs q.structs
 ·refine af.go 200 ?_
  simp only [W, seval, W4, h2]
  refine af.ret Tryz.func15 rfl (Left.empty ?_)
  exact ⟨rfl, rfl⟩
 refine af.go 200 ?_
 simp only [W, seval, W4, h2]
 refine ag (VC _ _ (fun J => rfl)) ?_
 rintro _ _ ⟨rfl, rfl⟩
 refine af.go 200 ?_
 simp only [W, seval, W4]
 refine af.ret Tryz.func15 rfl (Left.empty ?_)
 exact ⟨rfl, rfl⟩
mutual
theorem oD : ∀ t : az, w7 t t = true
 | .mk k n es => by
  rw [w7, yW es]
  simp
theorem yW : ∀ l : List az, qv l l = true
 | [] => by rw [qv]
 | t :: l => by
  rw [qv, oD t, yW l]
  rfl
end
mutual
theorem Mh : ∀ x : aj, DC x x = true
 | .mk k t i ty ns ks => by
  rw [DC, oD ty, o7 ks]
  simp
theorem o7 : ∀ l : List aj, uh l l = true
 | [] => by rw [uh]
 | t :: l => by
  rw [uh, Mh t, o7 l]
  rfl
end
mutual
theorem yX : ∀ x : aF, nB x x = true
 | .mk k ns ty ls es b e cs => by
  rw [nB, oD ty, o7 ls, o7 es, mX b, mX e, wN cs]
  simp
theorem mX : ∀ l : List aF, nk l l = true
 | [] => by rw [nk]
 | t :: l => by
  rw [nk, yX t, mX l]
  rfl
theorem Jn : ∀ c : cQ, xG c c = true
 | .mk i b => by
  rw [xG, mX b]
  simp
theorem wN : ∀ l : List cQ, pW l l = true
 | [] => by rw [pW]
 | t :: l => by
  rw [pW, Jn t, wN l]
  rfl
end
theorem kR {α : Type} (e : α → α → Bool) (h : ∀ x, e x x = true) : ∀ l : List α, fP e l l = true
 | [] => rfl
 | x :: l => by
  rw [fP, h x, kR e h l]
  rfl
theorem Jo (p : oV) : LC p p = true := by
 have tJ : ∀ x, xH x x = true := fun x => by simp [xH, oD]
 have Th : ∀ x, EY x x = true := fun x => by simp [EY, kR _ tJ]
 have VC : ∀ x, IS x x = true := fun x => by simp [IS, kR _ tJ, kR _ oD, kR _ yX]
 simp [LC, kR _ Th, kR _ VC]
def VJ := by
 have c := aN Tryz.f53 (by conv => lhs; cbv)
 dsimp only [KK, fj, eR, eS, List.map_cons, List.map_nil, List.toList_toArray] at c
 exact c
theorem b53 : bK Tryz.prog 53 Tryz.f53 31 := ⟨Tryz.func53, by kernel_rfl⟩
def Dr := by
 have c := aN Tryz.f100 (by conv => lhs; cbv)
 dsimp only [KK, fj, eR, eS, List.map_cons, List.map_nil, List.toList_toArray] at c
 exact c
theorem Zu : bK Tryz.prog 100 Tryz.f100 50 := ⟨Tryz.func100, by kernel_rfl⟩
def VK := by
 have c := aN Tryz.f52 (by conv => lhs; cbv)
 dsimp only [KK, fj, eR, eS, List.map_cons, List.map_nil, List.toList_toArray] at c
 exact c
theorem b52 : bK Tryz.prog 52 Tryz.f52 31 := ⟨Tryz.func52, by kernel_rfl⟩
def cA (n : Int) : Int := IntKind.i64.wrap n
mutual
def GS : az → Int → Int
 | .mk _ _ es, m => Jp es 1 m
def Jp : List az → Int → Int → Int
 | [], n, _ => n
 | e :: es, n, m => if n ≤ m then Jp es (cA (n + GS e (cA (m - n)))) m else n
end
def AE (t : az) (n m : Int) : Int := if fm t = true then n else cA (n + GS t (cA (m - n)))
mutual
def Zv : aj → Int → Int → Int
 | .mk _ _ _ ty _ ks, n, m => cA (AE ty (cA (n + 1)) m + yY ks 0 (cA (m - AE ty (cA (n + 1)) m)))
def yY : List aj → Int → Int → Int
 | [], n, _ => n
 | x :: l, n, m => if n ≤ m then yY l (Zv x n m) m else n
end
def JI : List bI → Int → Int → Int
 | [], n, _ => n
 | x :: l, n, m => if n ≤ m then JI l (cA (cA (n + 1) + GS x.type (cA (m - n)))) m else n
theorem Mi (t : az) (m : Int) : GS t m = Jp t.elem 1 m := by cases t; rw [GS]; rfl
theorem Mj (x : aj) (n m : Int) : Zv x n m = cA (AE x.type (cA (n + 1)) m + yY x.kids 0 (cA (m - AE x.type (cA (n + 1)) m))) := by cases x; rw [Zv]; rfl
theorem Ds (t : az) (S : Mem) : aD Tryz.prog av 99 [aT t] S (aB (.d (.bool (fm t))) S) := Ok t S.boxes S.aL
def Pt (t : az) : Prop := ∀ (m : Int) (S : Mem), aD Tryz.prog av 53 [aT t, .d (.int .i64 m)] S (aB (.d (.int .i64 (GS t m))) S)
set_option maxHeartbeats 1000000 in
theorem Jq (t : az) (h : ∀ x ∈ t.elem, Pt x) : Pt t := by
 intro m S
 refine aD.same (v := .d (.int .i64 (GS t m))) ?_ rfl rfl S
 generalize cw : GS t m = res
 rw [Mi] at cw
 unfold aT
 refine b53.go 30 rfl fun bh => ?_
 simp only [eI] at bh
 simp only [W, seval, VJ]
 have hf : Fits ⟨[[.d (.int .i64 t.kind), .d (.str t.name), .d (.sl (t.elem.map ej))]], []⟩ := fun vs o9 => by
  simp only [List.mem_cons, List.not_mem_nil, or_false] at o9
  subst o9
  rfl
 refine af.ir (fun a : Nat × Int => (bu 31 [(1, .d (.int .i64 m)), (2, .ptr 0 0), (5, .d (.int .i64 a.2)), (6, .d (.int .i64 a.1))], ⟨[[.d (.int .i64 t.kind), .d (.str t.name), .d (.sl (t.elem.map ej))]], []⟩)) (fun a => a.1 ≤ t.elem.length ∧ Jp (t.elem.drop a.1) a.2 m = res) (fun a => t.elem.length - a.1) (0, 1) ⟨by omega, cw⟩ ?_ rfl ?_
 ·skip
  refine ay.env _ ?_
  simp only [cZ, seval]
 rintro ⟨i, q⟩ ⟨h1, h2⟩ ih
 dsimp only at h1 h2 ih ⊢
 by_cases au : i < t.elem.length
 ·have hw := aI ((i : Int) + 1) (by omega)
  have aH : decide ((i : Int) < (t.elem.length : Int)) = true := decide_eq_true (by omega)
  have hg := List.getElem?_eq_getElem au
  have DG := h t.elem[i] (List.getElem_mem au)
  rw [bW au] at h2
  obtain ⟨x, hx⟩ : ∃ x, t.elem[i] = x := ⟨_, rfl⟩
  rw [hx] at hg h2 DG
  rw [Jp] at h2
  unfold Pt aT at DG
  cases hle : decide (q ≤ m)
  ·rw [if_neg (of_decide_eq_false hle)] at h2
   refine af.go 200 ?_
   simp only [W, seval, VJ, aH, hle]
   refine af.ret Tryz.func53 rfl (Left.empty ?_)
   rw [h2]
   exact ⟨rfl, rfl⟩
  ·rw [if_pos (of_decide_eq_true hle)] at h2
   refine af.go 200 ?_
   simp only [W, seval, VJ, List.getElem?_map, hg, aH, hle, cO]
   refine ag (DG _ _) ?_
   rintro _ _ ⟨rfl, rfl⟩
   refine af.go 200 ?_
   simp only [W, seval, VJ, hw]
   refine ih (i + 1, cA (q + GS x (cA (m - q)))) ⟨au, h2⟩ (by dsimp only; omega) _ _ [] _ rfl ⟨Nat.zero_le _, Nat.zero_le _⟩ hf ?_
   refine cC.env _ ?_
   simp only [yq, seval, cA]
   exact rfl
 ·have aH : decide ((i : Int) < (t.elem.length : Int)) = false := decide_eq_false (by omega)
  rw [List.drop_eq_nil_of_le (by omega), Jp] at h2
  refine af.go 200 ?_
  simp only [W, seval, VJ, aH]
  refine af.ret Tryz.func53 rfl (Left.empty ?_)
  rw [h2]
  exact ⟨rfl, rfl⟩
mutual
theorem rZ : ∀ t : az, Pt t
 | .mk k n es => Jq (.mk k n es) (Dt es)
theorem Dt : ∀ l : List az, ∀ x ∈ l, Pt x
 | [], _, h => absurd h List.not_mem_nil
 | y :: l, x, h => by
  rcases List.mem_cons.1 h with e | e
  ·rw [e]; exact rZ y
  ·exact Dt l x e
end
set_option maxHeartbeats 1000000 in
theorem wO (l : List bI) (m : Int) (S : Mem) : aD Tryz.prog av 52 [.d (.sl (l.map gI)), .d (.int .i64 m)] S (aB (.d (.int .i64 (JI l 0 m))) S) := by
 refine aD.same (v := .d (.int .i64 (JI l 0 m))) ?_ rfl rfl S
 generalize cw : JI l 0 m = res
 refine b52.go 30 rfl fun bh => ?_
 simp only [eI] at bh
 simp only [W, seval, VK]
 refine af.cJ (fun a : Nat × Int => (bu 31 [(0, .d (.sl (l.map gI))), (1, .d (.int .i64 m)), (5, .d (.int .i64 a.2)), (6, .d (.int .i64 a.1))], ⟨[], []⟩)) (fun a => a.1 ≤ l.length ∧ JI (l.drop a.1) a.2 m = res) (fun a => l.length - a.1) (0, 0) ⟨by omega, cw⟩ ?_ rfl ?_
 ·skip
  refine ay.env _ ?_
  simp only [cZ, seval]
 rintro ⟨i, q⟩ ⟨h1, h2⟩ ih
 dsimp only at h1 h2 ih ⊢
 by_cases au : i < l.length
 ·have hw := aI ((i : Int) + 1) (by omega)
  have aH : decide ((i : Int) < (l.length : Int)) = true := decide_eq_true (by omega)
  have hg := List.getElem?_eq_getElem au
  rw [bW au] at h2
  obtain ⟨x, hx⟩ : ∃ x, l[i] = x := ⟨_, rfl⟩
  rw [hx] at hg h2
  rw [JI] at h2
  have DG := rZ x.type
  unfold Pt aT at DG
  cases hle : decide (q ≤ m)
  ·rw [if_neg (of_decide_eq_false hle)] at h2
   refine af.go 200 ?_
   simp only [W, seval, VK, aH, hle]
   refine af.ret Tryz.func52 rfl (Left.empty ?_)
   rw [h2]
   exact ⟨rfl, rfl⟩
  ·rw [if_pos (of_decide_eq_true hle)] at h2
   refine af.go 200 ?_
   simp only [W, seval, VK, List.getElem?_map, hg, aH, hle, qq]
   refine ag (DG _ _) ?_
   rintro _ _ ⟨rfl, rfl⟩
   refine af.go 200 ?_
   simp only [W, seval, VK, hw]
   refine ih (i + 1, cA (cA (q + 1) + GS x.type (cA (m - q)))) ⟨au, h2⟩ (by dsimp only; omega) _ _ ?_ rfl
   refine ay.env _ ?_
   simp only [cZ, seval, cA]
 ·have aH : decide ((i : Int) < (l.length : Int)) = false := decide_eq_false (by omega)
  rw [List.drop_eq_nil_of_le (by omega), JI] at h2
  refine af.go 200 ?_
  simp only [W, seval, VK, aH]
  refine af.ret Tryz.func52 rfl (Left.empty ?_)
  rw [h2]
  exact ⟨rfl, rfl⟩
def VL (l : List aj) : Prop := ∀ (m : Int) (S : Mem), aD Tryz.prog av 100 [.d (.sl (l.map eH)), .d (.int .i64 m)] S (aB (.d (.int .i64 (yY l 0 m))) S)
set_option maxHeartbeats 1000000 in
theorem tX (l : List aj) (h : ∀ x ∈ l, VL x.kids) : VL l := by
 intro m S
 refine aD.same (v := .d (.int .i64 (yY l 0 m))) ?_ rfl rfl S
 generalize cw : yY l 0 m = res
 refine Zu.go 30 rfl fun bh => ?_
 simp only [eI] at bh
 simp only [W, seval, Dr]
 refine af.cJ (fun a : Nat × Int => (bu 50 [(0, .d (.sl (l.map eH))), (1, .d (.int .i64 m)), (5, .d (.int .i64 a.2)), (6, .d (.int .i64 a.1))], ⟨[], []⟩)) (fun a => a.1 ≤ l.length ∧ yY (l.drop a.1) a.2 m = res) (fun a => l.length - a.1) (0, 0) ⟨by omega, cw⟩ ?_ rfl ?_
 ·skip
  refine ay.env _ ?_
  simp only [cZ, seval]
 rintro ⟨i, q⟩ ⟨h1, h2⟩ ih
 dsimp only at h1 h2 ih ⊢
 by_cases au : i < l.length
 ·have hw := aI ((i : Int) + 1) (by omega)
  have aH : decide ((i : Int) < (l.length : Int)) = true := decide_eq_true (by omega)
  have hg := List.getElem?_eq_getElem au
  have Ic := h l[i] (List.getElem_mem au)
  rw [bW au] at h2
  obtain ⟨x, hx⟩ : ∃ x, l[i] = x := ⟨_, rfl⟩
  rw [hx] at hg h2 Ic
  rw [yY] at h2
  have DG := rZ x.type
  unfold Pt aT at DG
  have hz := Ds x.type
  unfold aT at hz
  cases hle : decide (q ≤ m)
  ·rw [if_neg (of_decide_eq_false hle)] at h2
   refine af.go 200 ?_
   simp only [W, seval, Dr, aH, hle]
   refine af.ret Tryz.func100 rfl (Left.empty ?_)
   rw [h2]
   exact ⟨rfl, rfl⟩
  ·rw [if_pos (of_decide_eq_true hle), Mj] at h2
   refine af.go 200 ?_
   simp only [W, seval, Dr, List.getElem?_map, hg, aH, hle, cP]
   refine ag (hz _) ?_
   rintro _ _ ⟨rfl, rfl⟩
   cases DL : fm x.type
   case' false =>
    have ht : AE x.type (cA (q + 1)) m = cA (cA (q + 1) + GS x.type (cA (m - cA (q + 1)))) := if_neg (by rw [DL]; decide)
    simp only [cA] at ht
    refine af.go 200 ?_
    simp only [W, seval, Dr, List.getElem?_map, hg, DL, cP]
    refine ag (DG _ _) ?_
    rintro _ _ ⟨rfl, rfl⟩
    refine af.go 200 ?_
    simp only [W, seval, Dr, List.getElem?_map, hg, cP]
   case' true =>
    have ht : AE x.type (cA (q + 1)) m = cA (q + 1) := if_pos DL
    simp only [cA] at ht
    refine af.go 200 ?_
    simp only [W, seval, Dr, List.getElem?_map, hg, DL, cP]
   all_goals
    refine ag (Ic _ _) ?_
    rintro _ _ ⟨rfl, rfl⟩
    refine af.go 200 ?_
    simp only [W, seval, Dr, hw]
    refine ih (i + 1, cA (AE x.type (cA (q + 1)) m + yY x.kids 0 (cA (m - AE x.type (cA (q + 1)) m)))) ⟨au, h2⟩ (by dsimp only; omega) _ _ ?_ rfl
    refine ay.env _ ?_
    simp only [cZ, seval, cA, ht]
 ·have aH : decide ((i : Int) < (l.length : Int)) = false := decide_eq_false (by omega)
  rw [List.drop_eq_nil_of_le (by omega), yY] at h2
  refine af.go 200 ?_
  simp only [W, seval, Dr, aH]
  refine af.ret Tryz.func100 rfl (Left.empty ?_)
  rw [h2]
  exact ⟨rfl, rfl⟩
mutual
theorem Fx : ∀ t : aj, VL t.kids
 | .mk _ _ _ _ _ es => tX es (qC es)
theorem qC : ∀ l : List aj, ∀ x ∈ l, VL x.kids
 | [], _, h => absurd h List.not_mem_nil
 | y :: l, x, h => by
  rcases List.mem_cons.1 h with e | e
  ·rw [e]; exact Fx y
  ·exact qC l x e
end
theorem yZ (l : List aj) : VL l := tX l (qC l)
def AF := by
 have c := aN Tryz.f54 (by conv => lhs; cbv)
 dsimp only [KK, fj, eR, eS, List.map_cons, List.map_nil, List.toList_toArray] at c
 exact c
theorem b54 : bK Tryz.prog 54 Tryz.f54 113 := ⟨Tryz.func54, by kernel_rfl⟩
def DH := by
 have c := aN Tryz.f20 (by conv => lhs; cbv)
 dsimp only [KK, fj, eR, eS, List.map_cons, List.map_nil, List.toList_toArray] at c
 exact c
theorem b20 : bK Tryz.prog 20 Tryz.f20 113 := ⟨Tryz.func20, by kernel_rfl⟩
def c7 := by
 have c := aN Tryz.f7 (by conv => lhs; cbv)
 dsimp only [KK, fj, eR, eS, List.map_cons, List.map_nil, List.toList_toArray] at c
 exact c
theorem b7 : bK Tryz.prog 7 Tryz.f7 6 := ⟨Tryz.func7, by kernel_rfl⟩
mutual
def AG : List aF → Int → Int → Int
 | [], n, _ => n
 | s :: l, n, m => if n ≤ m then AG l (Zw s n m) m else n
def Zw : aF → Int → Int → Int
 | .mk _ _ ty ls es b e cs, n, m =>
  Qs cs (cA (cA (cA (cA (AE ty (cA (n + 1)) m + yY ls 0 (cA (m - AE ty (cA (n + 1)) m))) + yY es 0 (cA (m - AE ty (cA (n + 1)) m))) + AG b 0 (cA (m - cA (cA (AE ty (cA (n + 1)) m + yY ls 0 (cA (m - AE ty (cA (n + 1)) m))) + yY es 0 (cA (m - AE ty (cA (n + 1)) m)))))) + AG e 0 (cA (m - cA (cA (AE ty (cA (n + 1)) m + yY ls 0 (cA (m - AE ty (cA (n + 1)) m))) + yY es 0 (cA (m - AE ty (cA (n + 1)) m))))))) m
def Qs : List cQ → Int → Int → Int
 | [], n, _ => n
 | .mk _ b :: l, n, m => if n ≤ m then Qs l (cA (cA (n + 1) + AG b 0 (cA (m - n)))) m else n
end
theorem Mk (k : cQ) (l : List cQ) (n m : Int) : Qs (k :: l) n m = if n ≤ m then Qs l (cA (cA (n + 1) + AG k.body 0 (cA (m - n)))) m else n := by cases k; rw [Qs]; rfl
theorem Sg (s : aF) (n m n2 n3 : Int) (h2 : AE s.type (cA (n + 1)) m = n2) (h3 : cA (cA (n2 + yY s.aG 0 (cA (m - n2))) + yY s.exprs 0 (cA (m - n2))) = n3) :
 Zw s n m = Qs s.cases (cA (cA (n3 + AG s.body 0 (cA (m - n3))) + AG s.dO 0 (cA (m - n3)))) m := by
 subst h2
 subst h3
 cases s
 rw [Zw]
 rfl
def JJ (l : List aF) : Prop := ∀ (m : Int) (S : Mem), aD Tryz.prog av 54 [.d (.sl (l.map dL)), .d (.int .i64 m)] S (aB (.d (.int .i64 (AG l 0 m))) S)
set_option maxHeartbeats 4000000 in
theorem lA (l : List aF) (h : ∀ x ∈ l, JJ x.body ∧ JJ x.dO ∧ ∀ k ∈ x.cases, JJ k.body) : JJ l := by
 intro m S
 refine aD.same (v := .d (.int .i64 (AG l 0 m))) ?_ rfl rfl S
 generalize cw : AG l 0 m = res
 refine b54.go 30 rfl fun bh => ?_
 simp only [eI] at bh
 simp only [W, seval, AF]
 refine af.cJ (fun a : Nat × Int => (bu 113 [(0, .d (.sl (l.map dL))), (1, .d (.int .i64 m)), (5, .d (.int .i64 a.2)), (6, .d (.int .i64 a.1))], ⟨[], []⟩)) (fun a => a.1 ≤ l.length ∧ AG (l.drop a.1) a.2 m = res) (fun a => l.length - a.1) (0, 0) ⟨by omega, cw⟩ ?_ rfl ?_
 ·skip
  refine ay.env _ ?_
  simp only [cZ, seval]
 rintro ⟨i, q⟩ ⟨h1, h2⟩ ih
 dsimp only at h1 h2 ih ⊢
 by_cases au : i < l.length
 ·have hw := aI ((i : Int) + 1) (by omega)
  have aH : decide ((i : Int) < (l.length : Int)) = true := decide_eq_true (by omega)
  have hg := List.getElem?_eq_getElem au
  have Ic := h l[i] (List.getElem_mem au)
  rw [bW au] at h2
  obtain ⟨x, hx⟩ : ∃ x, l[i] = x := ⟨_, rfl⟩
  rw [hx] at hg h2 Ic
  obtain ⟨hxb, Xk, Sx⟩ := Ic
  have DG := rZ x.type
  unfold Pt aT at DG
  have hz := Ds x.type
  unfold aT at hz
  rw [AG] at h2
  cases hle : decide (q ≤ m)
  ·rw [if_neg (of_decide_eq_false hle)] at h2
   refine af.go 200 ?_
   simp only [W, seval, AF, aH, hle]
   refine af.ret Tryz.func54 rfl (Left.empty ?_)
   rw [h2]
   exact ⟨rfl, rfl⟩
  rw [if_pos (of_decide_eq_true hle)] at h2
  obtain ⟨n2, Sh⟩ : ∃ n2, AE x.type (cA (q + 1)) m = n2 := ⟨_, rfl⟩
  obtain ⟨n3, VM⟩ : ∃ n3, cA (cA (n2 + yY x.aG 0 (cA (m - n2))) + yY x.exprs 0 (cA (m - n2))) = n3 := ⟨_, rfl⟩
  obtain ⟨n4, VN⟩ : ∃ n4, cA (cA (n3 + AG x.body 0 (cA (m - n3))) + AG x.dO 0 (cA (m - n3))) = n4 := ⟨_, rfl⟩
  rw [Sg x q m n2 n3 Sh VM, VN] at h2
  refine af.go 200 ?_
  simp only [W, seval, AF, List.getElem?_map, hg, aH, hle, bY]
  refine ag (hz _) ?_
  rintro _ _ ⟨rfl, rfl⟩
  cases DL : fm x.type
  case' false =>
   have ht : cA (cA (q + 1) + GS x.type (cA (m - cA (q + 1)))) = n2 := by rw [← Sh]; exact (if_neg (by rw [DL]; decide)).symm
   simp only [cA] at ht
   refine af.go 200 ?_
   simp only [W, seval, AF, List.getElem?_map, hg, DL, bY]
   refine ag (DG _ _) ?_
   rintro _ _ ⟨rfl, rfl⟩
   refine af.go 200 ?_
   simp only [W, seval, AF, List.getElem?_map, hg, bY, ht]
  case' true =>
   have ht : cA (q + 1) = n2 := by rw [← Sh]; exact (if_pos DL).symm
   simp only [cA] at ht
   refine af.go 200 ?_
   simp only [W, seval, AF, List.getElem?_map, hg, DL, bY, ht]
  all_goals
   clear ht Sh hle hz DG
   simp only [cA] at VM VN
   refine af.draw (by kernel_rfl) (by kernel_rfl) (oO 60 _ _ ?_)
   simp only [W, seval, AF, List.getElem?_map, hg, bY, au]
   refine ⟨_, yZ x.aG _ _, ?_⟩
   simp only [W, seval, AF, List.getElem?_map, hg, bY, au]
   refine ⟨_, yZ x.exprs _ _, ?_⟩
   simp only [W, seval, AF, List.getElem?_map, hg, bY, au, VM]
   refine af.go 20 ?_
   simp only [W, seval, AF, VM]
   refine af.draw (by kernel_rfl) (by kernel_rfl) (oO 60 _ _ ?_)
   simp only [W, seval, AF, List.getElem?_map, hg, bY, au]
   refine ⟨_, hxb _ _, ?_⟩
   simp only [W, seval, AF, List.getElem?_map, hg, bY, au]
   refine ⟨_, Xk _ _, ?_⟩
   simp only [W, seval, AF, List.getElem?_map, hg, bY, au, VN]
   refine af.go 20 ?_
   simp only [W, seval, AF, VN]
   clear VM VN
   refine af.cJ (fun b : Nat × Int => (bu 113 [(0, .d (.sl (l.map dL))), (1, .d (.int .i64 m)), (5, .d (.int .i64 b.2)), (6, .d (.int .i64 i)), (7, .d (.int .i64 b.1))], ⟨[], []⟩)) (fun b => b.1 ≤ x.cases.length ∧ AG (l.drop (i + 1)) (Qs (x.cases.drop b.1) b.2 m) m = res) (fun b => x.cases.length - b.1) (0, n4) ⟨by omega, h2⟩ ?_ rfl ?_
   ·skip
    refine ay.env _ ?_
    simp only [cZ, seval]
   rintro ⟨j, r⟩ ⟨g1, g2⟩ nE
   dsimp only at g1 g2 nE ⊢
   by_cases uI : j < x.cases.length
   ·have MO := List.getElem?_eq_getElem uI
    have hkx := Sx x.cases[j] (List.getElem_mem uI)
    rw [bW uI] at g2
    obtain ⟨k, hk⟩ : ∃ k, x.cases[j] = k := ⟨_, rfl⟩
    rw [hk] at MO g2 hkx
    rw [Mk] at g2
    have qB : decide ((j : Int) < (x.cases.length : Int)) = true := decide_eq_true (by omega)
    cases Ma : decide (r ≤ m)
    ·rw [if_neg (of_decide_eq_false Ma)] at g2
     refine af.go 200 ?_
     simp only [W, seval, AF, List.getElem?_map, hg, qB, Ma, bY, hw]
     refine ih (i + 1, r) ⟨au, g2⟩ (by dsimp only; omega) _ _ ?_ rfl
     refine ay.env _ ?_
     simp only [cZ, seval]
    ·rw [if_pos (of_decide_eq_true Ma)] at g2
     refine af.go 200 ?_
     simp only [W, seval, AF, List.getElem?_map, hg, qB, Ma, bY, MO, gr]
     refine ag (hkx _ _) ?_
     rintro _ _ ⟨rfl, rfl⟩
     refine af.small fun ET => ?_
     have jY : x.cases.length ≤ 9223372036854775807 := by
      have := (mH _).1 ET 86 (by simp [bu, aK])
      simpa [bu, aK, lk, sm] using this
     clear ET
     have oQ := aI ((j : Int) + 1) (by omega)
     refine af.go 200 ?_
     simp only [W, seval, AF, oQ]
     refine nE (j + 1, cA (cA (r + 1) + AG k.body 0 (cA (m - r)))) ⟨uI, g2⟩ (by dsimp only; omega) _ _ ?_ rfl
     refine ay.env _ ?_
     simp only [cZ, seval, cA]
   ·have qB : decide ((j : Int) < (x.cases.length : Int)) = false := decide_eq_false (by omega)
    have qd : x.cases.drop j = [] := List.drop_eq_nil_of_le (by omega)
    rw [qd, Qs] at g2
    refine af.go 200 ?_
    simp only [W, seval, AF, List.getElem?_map, hg, qB, bY, hw]
    refine ih (i + 1, r) ⟨au, g2⟩ (by dsimp only; omega) _ _ ?_ rfl
    refine ay.env _ ?_
    simp only [cZ, seval]
 ·have aH : decide ((i : Int) < (l.length : Int)) = false := decide_eq_false (by omega)
  rw [List.drop_eq_nil_of_le (by omega), AG] at h2
  refine af.go 200 ?_
  simp only [W, seval, AF, aH]
  refine af.ret Tryz.func54 rfl (Left.empty ?_)
  rw [h2]
  exact ⟨rfl, rfl⟩
mutual
theorem Pu : ∀ s : aF, JJ s.body ∧ JJ s.dO ∧ ∀ k ∈ s.cases, JJ k.body
 | .mk _ _ _ _ _ b e cs => ⟨lA b (r6 b), lA e (r6 e), GU cs⟩
theorem r6 : ∀ l : List aF, ∀ x ∈ l, JJ x.body ∧ JJ x.dO ∧ ∀ k ∈ x.cases, JJ k.body
 | [], _, h => absurd h List.not_mem_nil
 | y :: l, x, h => by
  rcases List.mem_cons.1 h with e | e
  ·rw [e]; exact Pu y
  ·exact r6 l x e
theorem GU : ∀ l : List cQ, ∀ k ∈ l, JJ k.body
 | [], _, h => absurd h List.not_mem_nil
 | .mk i b :: l, x, h => by
  rcases List.mem_cons.1 h with e | e
  ·rw [e]; exact lA b (r6 b)
  ·exact GU l x e
end
theorem Jr (l : List aF) : JJ l := lA l (r6 l)
def Qt : List az → Int → Int → Int
 | [], n, _ => n
 | t :: l, n, m => if n ≤ m then Qt l (cA (n + GS t (cA (m - n)))) m else n
def Du : List cM → Int → Int → Int
 | [], n, _ => n
 | s :: l, n, m => if n ≤ m then Du l (cA (n + JI s.fields 0 (cA (m - n)))) m else n
def Zx (f : cR) (n m : Int) : Int := cA (Qt f.results (cA (n + JI f.params 0 (cA (m - n)))) m + AG f.body 0 (cA (m - Qt f.results (cA (n + JI f.params 0 (cA (m - n)))) m)))
def Dv : List cR → Int → Int → Int
 | [], n, _ => n
 | f :: l, n, m => if n ≤ m then Dv l (Zx f n m) m else n
def Tj (p : oV) (m : Int) : Int :=
 if m < Dv p.funcs (Du p.structs (cA ((p.structs.length : Int) + p.funcs.length)) m) m then cA (m + 1) else Dv p.funcs (Du p.structs (cA ((p.structs.length : Int) + p.funcs.length)) m) m
set_option maxHeartbeats 4000000 in
theorem Dw (pr : oV) (m : Int) (S : Mem) : aD Tryz.prog av 20 [l7 pr, .d (.int .i64 m)] S (aB (.d (.int .i64 (Tj pr m))) S) := by
 refine aD.same (v := .d (.int .i64 (Tj pr m))) ?_ rfl rfl S
 generalize cw : Tj pr m = res
 obtain ⟨n0, JU⟩ : ∃ n, cA ((pr.structs.length : Int) + pr.funcs.length) = n := ⟨_, rfl⟩
 obtain ⟨n1, hn1⟩ : ∃ n, Du pr.structs n0 m = n := ⟨_, rfl⟩
 obtain ⟨n2, Sh⟩ : ∃ n, Dv pr.funcs n1 m = n := ⟨_, rfl⟩
 have MD : (if m < n2 then cA (m + 1) else n2) = res := by rw [← cw, ← Sh, ← hn1, ← JU]; rfl
 simp only [cA] at JU MD
 unfold l7
 refine b20.go 30 rfl fun bh => ?_
 simp only [eI] at bh
 simp only [W, seval, DH, JU]
 have hf : Fits ⟨[[.d (.sl (pr.structs.map fJ)), .d (.sl (pr.funcs.map fK))]], []⟩ := fun vs o9 => by
  simp only [List.mem_cons, List.not_mem_nil, or_false] at o9
  subst o9
  rfl
 have Qu : ∀ cr : List V, gC (bu 113 [(1, .d (.int .i64 m)), (2, .ptr 0 0), (5, .d (.int .i64 n1)), (7, .d (.int .i64 0))]) cr →
  af Tryz.prog av (0, 0) 20 [.code (.loop (kF Tryz.f20 24)), .inBlock 2, .code (kF Tryz.f20 51)] cr ⟨[[.d (.sl (pr.structs.map fJ)), .d (.sl (pr.funcs.map fK))]], []⟩ (Ab.Left ⟨[], []⟩ (aB (.d (.int .i64 res)) ⟨[], []⟩)) := by
  intro cr Kf
  refine af.fX Kf ?_
  refine af.ir (fun a : Nat × Int => (bu 113 [(1, .d (.int .i64 m)), (2, .ptr 0 0), (5, .d (.int .i64 a.2)), (7, .d (.int .i64 a.1))], ⟨[[.d (.sl (pr.structs.map fJ)), .d (.sl (pr.funcs.map fK))]], []⟩)) (fun a => a.1 ≤ pr.funcs.length ∧ Dv (pr.funcs.drop a.1) a.2 m = n2) (fun a => pr.funcs.length - a.1) (0, n1) ⟨by omega, Sh⟩ ?_ rfl ?_
  ·skip
   refine ay.env _ ?_
   simp only [cZ, seval]
  rintro ⟨i, q⟩ ⟨h1, h2⟩ ih
  dsimp only at h1 h2 ih ⊢
  by_cases au : i < pr.funcs.length
  case' pos =>
   have aH : decide ((i : Int) < (pr.funcs.length : Int)) = true := decide_eq_true (by omega)
   by_cases hle : q ≤ m
   case' pos =>
    have Ac : decide (q ≤ m) = true := decide_eq_true hle
    have hw := aI ((i : Int) + 1) (by omega)
    have hg := List.getElem?_eq_getElem au
    rw [bW au, Dv, if_pos hle] at h2
    obtain ⟨x, hx⟩ : ∃ x, pr.funcs[i] = x := ⟨_, rfl⟩
    rw [hx] at hg h2
    obtain ⟨p1, Ug⟩ : ∃ n, cA (q + JI x.params 0 (cA (m - q))) = n := ⟨_, rfl⟩
    obtain ⟨p2, PX⟩ : ∃ n, Qt x.results p1 m = n := ⟨_, rfl⟩
    obtain ⟨p3, WJ⟩ : ∃ n, cA (p2 + AG x.body 0 (cA (m - p2))) = n := ⟨_, rfl⟩
    have WN : Zx x q m = p3 := by unfold Zx; rw [Ug, PX, WJ]
    rw [WN] at h2
    simp only [cA] at Ug WJ
    refine af.go 200 ?_
    simp only [W, seval, DH, List.getElem?_map, hg, aH, Ac, qs]
    refine ag (wO x.params _ _) ?_
    rintro _ _ ⟨rfl, rfl⟩
    refine af.go 200 ?_
    simp only [W, seval, DH, Ug]
    refine af.ir (fun a : Nat × Int => (bu 113 [(1, .d (.int .i64 m)), (2, .ptr 0 0), (5, .d (.int .i64 a.2)), (7, .d (.int .i64 i)), (8, .d (.int .i64 a.1))], ⟨[[.d (.sl (pr.structs.map fJ)), .d (.sl (pr.funcs.map fK))]], []⟩)) (fun a => a.1 ≤ x.results.length ∧ Qt (x.results.drop a.1) a.2 m = p2) (fun a => x.results.length - a.1) (0, p1) ⟨by omega, PX⟩ ?_ rfl ?_
    ·skip
     refine ay.env _ ?_
     simp only [cZ, seval]
    rintro ⟨j, r⟩ ⟨g1, g2⟩ nE
    dsimp only at g1 g2 nE ⊢
    by_cases uI : j < x.results.length
    case' pos =>
     have qB : decide ((j : Int) < (x.results.length : Int)) = true := decide_eq_true (by omega)
     by_cases Ma : r ≤ m
     case' pos =>
      have Si : decide (r ≤ m) = true := decide_eq_true Ma
      have MO := List.getElem?_eq_getElem uI
      rw [bW uI, Qt, if_pos Ma] at g2
      obtain ⟨k, hk⟩ : ∃ k, x.results[j] = k := ⟨_, rfl⟩
      rw [hk] at MO g2
      have DG := rZ k
      unfold Pt aT at DG
      refine af.go 200 ?_
      simp only [W, seval, DH, List.getElem?_map, hg, MO, qB, Si, qs, cO]
      refine ag (DG _ _) ?_
      rintro _ _ ⟨rfl, rfl⟩
      refine af.small fun ET => ?_
      have jY : x.results.length ≤ 9223372036854775807 := by
       have := (mH _).1 ET 70 (by simp [bu, aK])
       simpa [bu, aK, lk, sm] using this
      clear ET
      have oQ := aI ((j : Int) + 1) (by omega)
      refine af.go 200 ?_
      simp only [W, seval, DH, oQ]
      refine nE (j + 1, cA (r + GS k (cA (m - r)))) ⟨uI, g2⟩ (by dsimp only; omega) _ _ [] _ rfl ⟨Nat.zero_le _, Nat.zero_le _⟩ hf ?_
      refine cC.env _ ?_
      simp only [yq, seval, cA]
      exact rfl
     case' neg =>
      have Si : decide (r ≤ m) = false := decide_eq_false Ma
      rw [bW uI, Qt, if_neg Ma] at g2
      refine af.go 200 ?_
      simp only [W, seval, DH, List.getElem?_map, hg, qB, Si, qs]
    case' neg =>
     have qB : decide ((j : Int) < (x.results.length : Int)) = false := decide_eq_false (by omega)
     have qd : x.results.drop j = [] := List.drop_eq_nil_of_le (by omega)
     rw [qd, Qt] at g2
     refine af.go 200 ?_
     simp only [W, seval, DH, List.getElem?_map, hg, qB, qs]
    iterate 2
     subst g2
     refine ag (Jr x.body _ _) ?_
     rintro _ _ ⟨rfl, rfl⟩
     refine af.go 200 ?_
     simp only [W, seval, DH, WJ, hw]
     refine ih (i + 1, p3) ⟨au, h2⟩ (by dsimp only; omega) _ _ [] _ rfl ⟨Nat.zero_le _, Nat.zero_le _⟩ hf ?_
     refine cC.env _ ?_
     simp only [yq, seval]
     exact rfl
   case' neg =>
    have Ac : decide (q ≤ m) = false := decide_eq_false hle
    rw [bW au, Dv, if_neg hle] at h2
    refine af.go 40 ?_
    simp only [W, seval, DH, aH, Ac]
  case' neg =>
   have aH : decide ((i : Int) < (pr.funcs.length : Int)) = false := decide_eq_false (by omega)
   have qd : pr.funcs.drop i = [] := List.drop_eq_nil_of_le (by omega)
   rw [qd, Dv] at h2
   refine af.go 40 ?_
   simp only [W, seval, DH, aH]
  all_goals
   subst h2
   by_cases hm : m < q
   ·have S7 : decide (m < q) = true := decide_eq_true hm
    rw [if_pos hm] at MD
    simp only [W, seval, DH, S7]
    refine af.ret Tryz.func20 rfl (Left.empty ?_)
    rw [← MD]
    exact ⟨rfl, rfl⟩
   ·have S7 : decide (m < q) = false := decide_eq_false hm
    rw [if_neg hm] at MD
    simp only [W, seval, DH, S7]
    refine af.ret Tryz.func20 rfl (Left.empty ?_)
    rw [← MD]
    exact ⟨rfl, rfl⟩
 refine af.ir (fun a : Nat × Int => (bu 113 [(1, .d (.int .i64 m)), (2, .ptr 0 0), (5, .d (.int .i64 a.2)), (6, .d (.int .i64 a.1))], ⟨[[.d (.sl (pr.structs.map fJ)), .d (.sl (pr.funcs.map fK))]], []⟩)) (fun a => a.1 ≤ pr.structs.length ∧ Du (pr.structs.drop a.1) a.2 m = n1) (fun a => pr.structs.length - a.1) (0, n0) ⟨by omega, hn1⟩ ?_ rfl ?_
 ·skip
  refine ay.env _ ?_
  simp only [cZ, seval]
 rintro ⟨i, q⟩ ⟨h1, h2⟩ ih
 dsimp only at h1 h2 ih ⊢
 by_cases au : i < pr.structs.length
 case' pos =>
  have aH : decide ((i : Int) < (pr.structs.length : Int)) = true := decide_eq_true (by omega)
  by_cases hle : q ≤ m
  case' pos =>
   have Ac : decide (q ≤ m) = true := decide_eq_true hle
   have hw := aI ((i : Int) + 1) (by omega)
   have hg := List.getElem?_eq_getElem au
   rw [bW au, Du, if_pos hle] at h2
   obtain ⟨x, hx⟩ : ∃ x, pr.structs[i] = x := ⟨_, rfl⟩
   rw [hx] at hg h2
   refine af.go 200 ?_
   simp only [W, seval, DH, List.getElem?_map, hg, aH, Ac, K8]
   refine ag (wO x.fields _ _) ?_
   rintro _ _ ⟨rfl, rfl⟩
   refine af.go 200 ?_
   simp only [W, seval, DH, hw]
   refine ih (i + 1, cA (q + JI x.fields 0 (cA (m - q)))) ⟨au, h2⟩ (by dsimp only; omega) _ _ [] _ rfl ⟨Nat.zero_le _, Nat.zero_le _⟩ hf ?_
   refine cC.env _ ?_
   simp only [yq, seval, cA]
   exact rfl
  case' neg =>
   have Ac : decide (q ≤ m) = false := decide_eq_false hle
   rw [bW au, Du, if_neg hle] at h2
   subst h2
   refine af.go 200 ?_
   simp only [W, seval, DH, aH, Ac]
   refine Qu _ ?_
   refine ay.env _ ?_
   simp only [cZ, seval]
 case' neg =>
  have aH : decide ((i : Int) < (pr.structs.length : Int)) = false := decide_eq_false (by omega)
  rw [List.drop_eq_nil_of_le (by omega), Du] at h2
  subst h2
  refine af.go 200 ?_
  simp only [W, seval, DH, aH]
  refine Qu _ ?_
  refine ay.env _ ?_
  simp only [cZ, seval]
theorem Ml (pr : oV) (S : Mem) : aD Tryz.prog av 7 [l7 pr] S (aB (.d (.bool (decide (2500 < Tj pr 2500)))) S) := by
 refine aD.same (v := .d (.bool (decide (2500 < Tj pr 2500)))) ?_ rfl rfl S
 have h := Dw pr 2500
 unfold l7 at h ⊢
 refine b7.go 200 rfl fun _ => ?_
 simp only [W, seval, c7]
 refine ag (h _) ?_
 rintro _ _ ⟨rfl, rfl⟩
 refine af.go 200 ?_
 simp only [W, seval, c7]
 refine af.ret Tryz.func7 rfl (Left.empty ?_)
 exact ⟨rfl, rfl⟩
def c5 := by
 have c := aN Tryz.f5 (by conv => lhs; cbv)
 dsimp only [KK, fj, eR, eS, List.map_cons, List.map_nil, List.toList_toArray] at c
 exact c
theorem b5 : bK Tryz.prog 5 Tryz.f5 54 := ⟨Tryz.func5, by kernel_rfl⟩
theorem AH (p : oV) : (Gl p = false ∧ jr (Gl p) p = (⟨[], []⟩, 2)) ∨ (Gl p = true ∧ jr (Gl p) p = (⟨[], []⟩, 52)) ∨ (Gl p = true ∧ ∃ fs, p.funcs.mapM (fC p.structs p.funcs) = some fs ∧ jr (Gl p) p = (⟨p.structs, fs⟩, 0)) := by
 cases hr : Gl p with
 | false => exact .inl ⟨rfl, rfl⟩
 | true =>
  right
  unfold jr
  rw [if_pos rfl]
  cases hh : sX p.structs p.funcs with
  | false => exact .inl ⟨rfl, if_neg (by decide)⟩
  | true =>
   rw [if_pos rfl]
   cases hm : p.funcs.mapM (fC p.structs p.funcs) with
   | none => exact .inl ⟨rfl, rfl⟩
   | some fs => exact .inr ⟨rfl, fs, rfl, rfl⟩
theorem Pv (p : oV) (hn : yA p) (B : List (List V)) (T : List (Nat × Nat)) : aD Tryz.prog av 9 [l7 p] ⟨B, T⟩ (aB (.bZ [l7 (jr (Gl p) p).1, .d (.int .i64 (jr (Gl p) p).2)]) ⟨B, T⟩) :=
 wH (fun h => (mm h hn).1) (fun h => (mm h hn).2) (vR p)
theorem Js (S : Mem) : aD Tryz.prog av 15 [.agg [.d (.sl []), .d (.sl [])], .agg [.sl [] .full, .sl [] .full]] S (aB (.d (.bool true)) S) :=
 aD.Ge (v := .d (.bool true)) ((GR ⟨[], []⟩ ⟨[], []⟩ ⟨[], []⟩).only) (by simp [ud, wk, l7]) rfl S
set_option maxHeartbeats 8000000 in
theorem Mm (p : oV) (hn : yA p) : aD Tryz.prog av 5 [l7 p] ⟨[], []⟩ (aB (.d (.bool true)) ⟨[], []⟩) := by
 have hG := Ml p
 have hR := vR p
 have hC := Pv p hn
 have hS0 := Js
 have hS1 : ∀ S : Mem, aD Tryz.prog av 15 [.agg [.d (.sl (p.structs.map fJ)), .sl (p.funcs.map fK) (.own 0)], .agg [.d (.sl (p.structs.map fJ)), .d (.sl (p.funcs.map fK))]] S (aB (.d (.bool true)) S) := fun S =>
  aD.Ge (v := .d (.bool true)) (Jo p ▸ (GR p p ⟨[], []⟩).only) (by simp [ud, wk, l7]) rfl S
 have oF := AH p
 generalize jr (Gl p) p = r at hC oF
 unfold l7 at hG hR hC ⊢
 refine b5.go 60 rfl fun bh => ?_
 simp only [eI] at bh
 simp only [W, seval, c5]
 refine ag (Fv _) ?_
 rintro _ _ ⟨rfl, rfl⟩
 refine af.go 60 ?_
 simp only [W, seval, c5, Bool.not_true]
 refine ag (hG _) ?_
 rintro _ _ ⟨rfl, rfl⟩
 cases hgr : decide (2500 < Tj p 2500)
 case true =>
  refine af.go 60 ?_
  simp only [W, seval, c5]
  refine af.ret Tryz.func5 rfl (Left.empty ?_)
  exact ⟨rfl, rfl⟩
 refine af.go 60 ?_
 simp only [W, seval, c5]
 refine ag (hC _ _) ?_
 rintro _ _ ⟨rfl, rfl⟩
 rcases oF with ⟨Pn, rfl⟩ | ⟨Pn, rfl⟩ | ⟨Pn, fs, hm, rfl⟩
 ·rw [Pn] at hR
  refine af.go 160 ?_
  simp only [W, seval, c5]
  refine ag (hS0 _) ?_
  rintro _ _ ⟨rfl, rfl⟩
  refine af.go 160 ?_
  simp only [W, seval, c5]
  refine ag (hR _ _) ?_
  rintro _ _ ⟨rfl, rfl⟩
  refine af.go 160 ?_
  simp only [W, seval, c5]
  refine af.ret Tryz.func5 rfl (Left.empty ?_)
  exact ⟨rfl, rfl⟩
 ·rw [Pn] at hR
  refine af.go 160 ?_
  simp only [W, seval, c5]
  refine ag (hS0 _) ?_
  rintro _ _ ⟨rfl, rfl⟩
  refine af.go 160 ?_
  simp only [W, seval, c5]
  refine ag (hR _ _) ?_
  rintro _ _ ⟨rfl, rfl⟩
  refine af.go 160 ?_
  simp only [W, seval, c5]
  refine af.ret Tryz.func5 rfl (Left.empty ?_)
  exact ⟨rfl, rfl⟩
 have MD : (MG (SizeOf.sizeOf p.funcs) p 0).1 = true := Pn
 have wX := Gr MD hn
 obtain ⟨hT, hF⟩ := mm MD hn
 obtain ⟨b1, b2, b3⟩ := wM (fun f hf => by rw [dj, dF fun s hs => ((wX.2 f hf).2.2.2.2 s hs).bare]) hm
 have xk := hT.fu
 have IB : ∀ f ∈ fs, Jk f.body := fun g hg => by
  obtain ⟨f, hf, e⟩ := b3 g hg
  obtain ⟨e1, e2⟩ := qF.all (hF f hf).sh e
  have := (hF f hf).sl
  exact Fw e2 (by omega)
 clear hC hR hG hm b3
 refine af.go 160 ?_
 simp only [W, seval, c5]
 refine af.LG 2 1 _ [] (by rfl) (by rfl) 4 (by omega) rfl ?_
 refine af.ir (fun i : Nat => (bu 54 [(36, .d (.int .i64 i)), (35, .d (.int .i64 fs.length)), (34, .d (.sl (fs.map fK))), (5, .ptr 2 0), (1, .ptr 0 0)], ⟨[[.d (.sl (p.structs.map fJ)), .d (.sl (p.funcs.map fK))], [.d (.sl (p.structs.map fJ)), .d (.sl (fs.map fK))], [.d (.sl (p.structs.map fJ)), .sl (((fs.take i).map Mg).map fK) (.own 0)]], [(i, 4)]⟩)) (fun i => i ≤ fs.length) (fun i => fs.length - i) 0 (Nat.zero_le _) ?_ rfl ?_
 ·skip
  refine ay.env _ ?_
  simp only [cZ, seval]
 intro i h1 ih
 dsimp only at ih ⊢
 by_cases au : i < fs.length
 ·have hw := aI ((i : Int) + 1) (by omega)
  have aH : decide ((i : Int) < (fs.length : Int)) = true := decide_eq_true (by omega)
  have hg := List.getElem?_eq_getElem au
  obtain ⟨f, hf⟩ : ∃ f, fs[i] = f := ⟨_, rfl⟩
  have hb := IB fs[i] (List.getElem_mem au)
  rw [hf] at hg hb
  have De : ((fs.take i).map Mg).map fK ++ [fK (Mg f)] = ((fs.take (i + 1)).map Mg).map fK := by
   rw [List.take_succ_eq_append_getElem au, hf]
   simp
  have xm : min i fs.length = i := by omega
  have ek : (i + 1) * 88 ≤ 140737488355328 := by omega
  have hr4 : cV 4 [fK (Mg f)] = true := rfl
  have hbf : fK (Mg f) = [.str f.name, .sl (f.params.map gI), .sl (f.results.map ej), .sl ((cx f.body).map dL)] := rfl
  rw [hbf] at De hr4
  refine af.go 100 ?_
  simp only [W, seval, c5, List.getElem?_map, hg, aH, qs]
  refine ag (hb _) ?_
  rintro _ _ ⟨rfl, rfl⟩
  refine af.go 160 ?_
  simp only [W, seval, c5, hw, ek, hr4, De, bX, bH, List.length_map, List.length_take, xm, Nat.reduceMul]
  refine ih (i + 1) au (by omega) _ _ _ _ rfl ⟨Nat.zero_le _, Nat.zero_le _⟩ (fun vs hv => ?_) ?_
  ·simp only [List.mem_cons, List.not_mem_nil, or_false] at hv
   rcases hv with rfl | rfl | rfl <;> rfl
  ·skip
   refine cC.env _ ?_
   simp only [yq, seval]
   exact ⟨rfl, rfl⟩
 ·have aH : decide ((i : Int) < (fs.length : Int)) = false := decide_eq_false (by omega)
  obtain rfl : i = fs.length := by omega
  rw [List.take_length, b1]
  refine af.go 100 ?_
  simp only [W, seval, c5, aH]
  refine ag (hS1 _) ?_
  rintro _ _ ⟨rfl, rfl⟩
  refine af.go 60 ?_
  simp only [W, seval, c5]
  refine af.ret Tryz.func5 rfl (Left.empty ?_)
  exact ⟨rfl, rfl⟩
end Go.Proofs.YtnfnbjjnjjdjdaaGreatDoor
namespace Go.Ab
open Go.ChangeShapes Go.WideShapes Go.ChangeAt Go.RowKit Go.Av
def Pw (T : TypeId → List D → Prop) : List Field → List D → Prop
 | [], ds => ds = []
 | f :: fs, ds => ∃ a b, ds = a ++ b ∧ T f.type a ∧ Pw T fs b
def qG (P : Program) : Nat → TypeId → List D → Prop
 | 0, _, _ => False
 | n + 1, t, ds => match P.underlying t with
  | some .bool => ∃ b, ds = [.bool b]
  | some (.int k) => ∃ m, ds = [.int k m] ∧ (Lit.int k m).wf = true
  | some .string => ∃ s, ds = [.str s] ∧ s.length ≤ 9223372036854775807
  | some (.slice e) => ∃ rows, ds = [.sl rows] ∧ rows.length ≤ 9223372036854775807 ∧ ∀ r ∈ rows, qG P n e r
  | some (.struct fs) => Pw (qG P n) fs.toList ds
  | _ => False
def wP (P : Program) : List Field → Nat → Option Nat
 | [], o => some o
 | f :: fs, o => if f.offset = o then wP P fs (o + P.cellsOf f.type) else none
def Fy (P : Program) (L : List TypeId) (t : TypeId) : Bool :=
 match P.underlying t with
 | some .bool => true
 | some (.int _) => true
 | some .string => true
 | some (.slice e) => L.contains e && decide (0 < P.cellsOf e)
 | some (.struct fs) => fs.toList.all (fun f => L.contains f.type) && wP P fs.toList 0 == some (P.cellsOf t)
 | _ => false
theorem Dx {α : Type} (Q : Nat → α → Prop) : ∀ len : Nat, (∀ i < len, ∃ a, Q i a) → ∃ l : List α, l.length = len ∧ ∀ i (hi : i < l.length), Q i l[i]
 | 0, _ => ⟨[], rfl, fun i hi => by cases hi⟩
 | n + 1, h => by
  obtain ⟨l, hl, hq⟩ := Dx Q n (fun i hi => h i (by omega))
  obtain ⟨a, ha⟩ := h n (by omega)
  refine ⟨l ++ [a], by simp [hl], fun i hi => ?_⟩
  by_cases Tu : i < l.length
  ·rw [List.getElem_append_left Tu]
   exact hq i Tu
  ·have : i = n := by simp at hi; omega
   subst this
   have yb : (l ++ [a])[i]'hi = a := by
    rw [List.getElem_append_right (by omega)]
    simp
   rw [yb]
   exact ha
theorem Mn {w : World} {a : Addr} {v : Value} (h : w.cell? a = some v) : a.block < w.heap.size ∧ a.spot = none := by
 unfold World.cell? at h
 cases hb : w.heap[a.block]? with
 | none => rw [hb] at h; cases h
 | some o =>
  refine ⟨(Array.getElem?_eq_some_iff.1 hb).1, ?_⟩
  rw [hb] at h
  cases o <;> simp at h
  obtain ⟨h1, _⟩ := h
  exact h1
section
variable {P : Program} {H : Type} {enc : TypeId × Value → H} {W : World} {sp : Nat → Bool} {held : Bool}
abbrev Jt (W : World) : Nat → Nat → Prop := fun g _ => W.heap.size ≤ g
def AI (P : Program) (W : World) (n : Nat) (t : TypeId) (cs : List Value) (ds : List D) : Prop := qG P n t ds ∧ ds.length = cs.length ∧ ∀ j (h : j < ds.length), DR (Jt W) W ds[j] (cs.getD j undef)
theorem tY (n : Nat) (cs : List Value) : ∀ (l : List Field) (o : Nat), wP P l o = some cs.length →
 (∀ f ∈ l, ∃ ds, AI P W n f.type ((cs.drop f.offset).take (P.cellsOf f.type)) ds) → o ≤ cs.length ∧ ∃ ds, Pw (qG P n) l ds ∧ ds.length = cs.length - o ∧ ∀ j (h : j < ds.length), DR (Jt W) W ds[j] (cs.getD (o + j) undef)
 | [], o, h, _ => by
  have : o = cs.length := Option.some.inj h
  exact ⟨by omega, [], rfl, by simp; omega, fun j h => by simp at h⟩
 | f :: fs, o, h, hf => by
  unfold wP at h
  split at h
  case isFalse => cases h
  rename_i ho
  obtain ⟨a, a1, a2, a3⟩ := hf f List.mem_cons_self
  obtain ⟨b0, b, b1, b2, b3⟩ := tY n cs fs _ h fun g hg => hf g (List.mem_cons_of_mem _ hg)
  rw [ho] at a2 a3
  have ha : a.length = P.cellsOf f.type := by rw [a2, List.length_take, List.length_drop]; omega
  refine ⟨by omega, a ++ b, ⟨a, b, rfl, a1, b1⟩, by rw [List.length_append, b2]; omega, fun j hj => ?_⟩
  rcases Nat.lt_or_ge j a.length with au | lC
  ·rw [List.getElem_append_left au]
   have := a3 j au
   rw [List.getD_eq_getElem?_getD, List.getElem?_take, if_pos (by omega), List.getElem?_drop] at this
   rw [List.getD_eq_getElem?_getD]
   exact this
  ·rw [List.getElem_append_right lC]
   have := b3 (j - a.length) (by rw [List.length_append] at hj; omega)
   rw [show o + P.cellsOf f.type + (j - a.length) = o + j by omega] at this
   exact this
theorem Sj (L : List TypeId) (hL : L.all (Fy P L) = true) : ∀ (fuel : Nat) (t : TypeId) (cs : List Value) (y : DataW H × List MemPlace), L.contains t = true → DataW.trod enc P W 0 sp held fuel t cs = some y → ∃ ds, AI P W fuel t cs ds := by
 intro fuel
 induction fuel with
 | zero => intro t cs y _ h; simp [DataW.trod] at h
 | succ n ih =>
  intro t cs y ht h
  have FG := List.all_eq_true.1 hL t (List.contains_iff_mem.1 ht)
  unfold Fy at FG
  split at FG
  ·rename_i hu
   obtain ⟨b, rfl, _⟩ := DataW.trod_bool hu h
   refine ⟨[.bool b], ?_, rfl, fun j hj => ?_⟩
   ·simp only [qG, hu]; exact ⟨b, rfl⟩
   ·have : j = 0 := by simp at hj; exact hj
    subst this; exact .bool b
  ·rename_i k hu
   obtain ⟨m, rfl, _, hw⟩ := DataW.trod_int hu h
   refine ⟨[.int k m], ?_, rfl, fun j hj => ?_⟩
   ·simp only [qG, hu]; exact ⟨m, rfl, hw⟩
   ·have : j = 0 := by simp at hj; exact hj
    subst this; exact .int k m
  ·rename_i hu
   obtain ⟨s, rfl, _, hs⟩ := DataW.trod_string hu h
   have mw : s.data.toList.length ≤ 9223372036854775807 := by
    have : s.data.toList.length = s.size := by rw [Array.length_toList]; rfl
    rw [this]
    exact hs
   refine ⟨[.str s.data.toList], ?_, rfl, fun j hj => ?_⟩
   ·simp only [qG, hu]; exact ⟨_, rfl, mw⟩
   ·have : j = 0 := by simp at hj; exact hj
    subst this
    have := DR.str (M := Jt W) (w := W) s.data.toList mw
    exact this
  ·rename_i e hu
   simp only [Bool.and_eq_true, decide_eq_true_eq] at FG
   obtain ⟨he, LF⟩ := FG
   rcases DataW.trod_slice hu h with ⟨rfl, _⟩ | ⟨a, len, cap, elems, rest, n', YY, rfl, _, _, hlc, zb, G2, hq, _⟩
   ·refine ⟨[.sl []], ?_, rfl, fun j hj => ?_⟩
    ·simp only [qG, hu]; exact ⟨[], rfl, by simp, by simp⟩
    ·have : j = 0 := by simp at hj; exact hj
     subst this
     exact .sl [] 1 none 0 (fun _ _ => undef) (by omega) (by simp) (by simp) (by omega) (fun h => absurd rfl h) (fun j h => by simp at h)
   ·obtain rfl : n = n' := by omega
    obtain ⟨rows, Xi, hrq⟩ := Dx (fun i (ds : List D) => ∃ ci, W.cells? 0 (a.add (i * P.cellsOf e)) (P.cellsOf e) = some ci ∧ AI P W n e ci ds) len (fun i hi => by
     have hqi := hq i hi
     rw [List.getElem?_eq_getElem (by omega), Option.bind_eq_some_iff] at hqi
     obtain ⟨ci, wo, jF⟩ := hqi
     obtain ⟨ds, Tw⟩ := ih e ci _ he jF
     exact ⟨ds, ci, wo, Tw⟩)
    subst Xi
    have wo : ∀ i (hi : i < rows.length), (rows[i]).length = P.cellsOf e ∧ ∀ q (h : q < (rows[i]).length), ∃ v, W.cell? (a.add (i * P.cellsOf e + q)) = some v ∧ DR (Jt W) W (rows[i])[q] v := by
     intro i hi
     obtain ⟨ci, h1, h2, h3, h4⟩ := hrq i hi
     have h5 := World.cells?_some h1
     have hlen : ci.length = P.cellsOf e := h5.2.1
     refine ⟨by omega, fun q hq => ?_⟩
     have h6 := h5.2.2 q (by omega)
     rw [Addr.add_add] at h6
     refine ⟨ci[q]'(by omega), by rw [h6]; simp, ?_⟩
     have h7 := h4 q hq
     rw [List.getD_eq_getElem?_getD, List.getElem?_eq_getElem (by omega)] at h7
     exact h7
    refine ⟨[.sl rows], ?_, rfl, fun j hj => ?_⟩
    ·simp only [qG, hu]
     refine ⟨rows, rfl, by have : maxLen = 9223372036854775807 := rfl; omega, fun r hr => ?_⟩
     obtain ⟨i, hi, rfl⟩ := List.mem_iff_getElem.1 hr
     obtain ⟨ci, _, h2, _⟩ := hrq i hi
     exact h2
    ·have : j = 0 := by simp at hj; exact hj
     subst this
     have nL : rows ≠ [] → a.block < W.heap.size ∧ a.spot = none := by
      intro bV
      have h0 : 0 < rows.length := by
       rcases Nat.eq_zero_or_pos rows.length with e' | e'
       ·exact absurd (List.eq_nil_of_length_eq_zero e') bV
       ·exact e'
      obtain ⟨MH, Ts⟩ := wo 0 h0
      obtain ⟨v, hv, _⟩ := Ts 0 (by omega)
      rw [show a.add (0 * P.cellsOf e + 0) = a by rw [Nat.zero_mul]; rfl] at hv
      exact Mn hv
     have := DR.sl (M := Jt W) (w := W) rows (P.cellsOf e) (some a) cap (fun i q => (W.cell? (a.add (i * P.cellsOf e + q))).getD undef) LF (fun r hr => by
      obtain ⟨i, hi, rfl⟩ := List.mem_iff_getElem.1 hr
      exact (wo i hi).1) hlc (by have : maxLen = 9223372036854775807 := rfl; omega) (fun bV => by
      obtain ⟨h1, h2⟩ := nL bV
      obtain ⟨g, off, spot⟩ := a
      simp only at h1 h2
      subst h2
      refine ⟨g, off, rfl, fun j hj q hq => ⟨by show ¬ W.heap.size ≤ g; omega, ?_⟩⟩
      obtain ⟨v, hv, _⟩ := (wo j hj).2 q hq
      rw [hv]
      rw [Addr.add_plain, ← Nat.add_assoc] at hv
      exact hv) (fun j hj q hq => by
      obtain ⟨v, hv, hd⟩ := (wo j hj).2 q hq
      rw [hv]
      exact hd)
     exact this
  ·rename_i fs hu
   simp only [Bool.and_eq_true] at FG
   obtain ⟨DP, Zy⟩ := FG
   obtain ⟨xs, n', YY, _, hl, Vt, hf⟩ := DataW.trod_struct hu h
   obtain rfl : n = n' := by omega
   have VO : wP P fs.toList 0 = some cs.length := by rw [hl]; exact eq_of_beq Zy
   obtain ⟨_, ds, h1, h2, h3⟩ := tY (W := W) n cs fs.toList 0 VO (fun f Te => by
    obtain ⟨i, hi, rfl⟩ := List.mem_iff_getElem.1 Te
    have jD : i < fs.size := by simpa using hi
    have := hf i fs[i] (by simp [jD])
    rw [List.getElem?_eq_getElem (by omega)] at this
    exact ih _ _ _ (List.all_eq_true.1 DP _ Te) this)
   refine ⟨ds, ?_, by omega, fun j hj => ?_⟩
   ·simp only [qG, hu]; exact h1
   ·have := h3 j hj
    rwa [Nat.zero_add] at this
  ·cases FG
end
def JK (W : World) (I : Inv) : Cx := ⟨W.heap.size, [], [], I, fun _ _ => False, fun _ _ h => h.elim⟩
theorem DR.first {W : World} {I : Inv} {x : D} {v : Value} (h : DR (Jt W) W x v) : DR (JK W I).M W x v := h.mono fun g k v _ hv => ⟨by
 rintro ((hm | hm) | ⟨t, i, off, ht, _⟩)
 ·exact hm
 ·simp [JK] at hm
 ·simp [JK] at ht, hv⟩
theorem dc.first {W : World} {I : Inv} (h2 : I.top ≤ W.heap.size) (hI : ∀ w', Below W.heap.size W w' → I.holds w') : dc (JK W I) W ⟨[], []⟩ :=
 ⟨⟨h2, Nat.le_refl _⟩, rfl, fun i b h => by simp [JK] at h, fun i j b h => by simp [JK] at h, rfl, fun t i h => by simp [JK] at h, fun t t' i i' g off sg h => by simp [JK] at h, hI⟩
theorem Ju {P : Program} {W : World} {I : Inv} {n : Nat} {t : TypeId} {cs : Array Value} {ds : List D} (h : AI P W n t cs.toList ds) : VR (JK W I) W (.agg (ds.map .d)) (.agg cs) := by
 obtain ⟨_, h2, h3⟩ := h
 have h2 : ds.length = cs.size := by simpa using h2
 have key : ∀ j, j < ds.length → ∃ h : j < ds.length, DR (JK W I).M W ds[j] (cs.getD j undef) := fun j hj => ⟨hj, by
  have := (h3 j hj).first (I := I)
  rw [List.getD_eq_getElem?_getD, Array.getElem?_toList] at this
  have e : cs.getD j undef = (cs[j]?).getD undef := by simp [Array.getD, show j < cs.size by omega]
  rw [e]
  exact this⟩
 refine .agg _ _ (by rw [List.length_map]; omega) (fun j hj => ?_) (fun j hj => ?_)
 ·rw [List.length_map] at hj
  obtain ⟨_, hd⟩ := key j hj
  rw [List.getElem_map]
  exact .d _ _ hd
 ·rw [List.length_map] at hj
  obtain ⟨_, hd⟩ := key j hj
  exact hd.one
theorem aD.law {P : Program} {I : Inv} {f : FuncId} {args : List V} {b : Bool} (h : aD P I f args ⟨[], []⟩ (fun v _ => v = .d (.bool b))) {W : World} {xs : Array Value} (h2 : I.top ≤ W.heap.size) (hI : ∀ w', Below W.heap.size W w' → I.holds w') (hs : xs.size = args.length) (hv : ∀ j (h : j < args.length), VR (JK W I) W args[j] (xs.getD j undef)) :
 Calls P f xs W fun e w' => e = .returned (.bool b) ∧ Below W.heap.size W w' := by
 refine (h.2 (JK W I) W xs hs hv (.first h2 hI) rfl).mono ?_
 rintro e w' ⟨v, x, S', c', rfl, rfl, _, hx, QT⟩
 cases QT with
 | d _ _ hd => cases hd with
  | bool _ => exact ⟨rfl, hx.below⟩
end Go.Ab
namespace Go.Proofs.YtnfnbjjnjjdjdaaGreatDoor
open Go.RowKit Go.Av Go.Ab
set_option maxRecDepth 100000
section
variable {n : Nat} {ds : List D}
theorem s7 (h : qG Tryz.prog n 9 ds) : ∃ s, ds = [.str s] ∧ s.length ≤ 9223372036854775807 := by
 cases n with
 | zero => exact h.elim
 | succ n =>
  unfold qG at h
  rw [Tryz.underlying9] at h
  exact h
theorem wQ {t : TypeId} {k : IntKind} (hu : Tryz.prog.underlying t = some (.int k)) (h : qG Tryz.prog n t ds) : ∃ m, ds = [.int k m] ∧ (Lit.int k m).wf = true := by
 cases n with
 | zero => exact h.elim
 | succ n =>
  unfold qG at h
  rw [hu] at h
  exact h
theorem mq {t e : TypeId} (hu : Tryz.prog.underlying t = some (.slice e)) {α : Type} (f : α → List D) (ih : ∀ m < n, ∀ r, qG Tryz.prog m e r → ∃ x, r = f x) (h : qG Tryz.prog n t ds) : ∃ l : List α, ds = [.sl (l.map f)] ∧ l.length ≤ 9223372036854775807 := by
 cases n with
 | zero => exact h.elim
 | succ n =>
  unfold qG at h
  rw [hu] at h
  obtain ⟨rows, rfl, hl, hr⟩ := h
  have : ∃ l : List α, rows = l.map f := by
   clear hl
   induction rows with
   | nil => exact ⟨[], rfl⟩
   | cons r rows ihr =>
    obtain ⟨x, hx⟩ := ih n (by omega) r (hr r List.mem_cons_self)
    obtain ⟨l, hl⟩ := ihr fun y hy => hr y (List.mem_cons_of_mem _ hy)
    exact ⟨x :: l, by rw [hx, hl]; rfl⟩
  obtain ⟨l, rfl⟩ := this
  exact ⟨l, rfl, by simpa using hl⟩
theorem gY {t : TypeId} {fs : Array Field} (hu : Tryz.prog.underlying t = some (.struct fs)) (h : qG Tryz.prog n t ds) : ∃ m, n = m + 1 ∧ Pw (qG Tryz.prog m) fs.toList ds := by
 cases n with
 | zero => exact h.elim
 | succ n =>
  unfold qG at h
  rw [hu] at h
  exact ⟨n, rfl, h⟩
end
theorem Qv {n : Nat} {ds : List D} (h : qG Tryz.prog n 47 ds) : ∃ l, ds = [.sl (gu l)] := by
 obtain ⟨l, rfl, _⟩ := mq Tryz.underlying47 (fun s : List UInt8 => [D.str s]) (fun m _ r hr => (s7 hr).imp fun _ h => h.1) h
 exact ⟨l, rfl⟩
theorem GV : ∀ (n : Nat) (ds : List D), qG Tryz.prog n 46 ds → ∃ t, ds = ej t := by
 intro n
 induction n using Nat.strongRecOn with
 | _ n ih =>
  intro ds h
  obtain ⟨m, rfl, h⟩ := gY Tryz.underlying46 h
  obtain ⟨a, _, rfl, ha, b, _, rfl, hb, c, _, rfl, hc, rfl⟩ := h
  obtain ⟨k, rfl, _⟩ := wQ Tryz.underlying3 ha
  obtain ⟨s, rfl, _⟩ := s7 hb
  obtain ⟨l, rfl, _⟩ := mq Tryz.underlying38 ej (fun q hq r hr => ih q (by omega) r hr) hc
  exact ⟨.mk k s l, by rw [cO]; rfl⟩
theorem Sk {n : Nat} {ds : List D} (h : qG Tryz.prog n 38 ds) : ∃ l : List az, ds = [.sl (l.map ej)] := by
 obtain ⟨l, rfl, _⟩ := mq Tryz.underlying38 ej (fun q _ r hr => GV q r hr) h
 exact ⟨l, rfl⟩
theorem Mo {n : Nat} {ds : List D} (h : qG Tryz.prog n 37 ds) : ∃ l : List bI, ds = [.sl (l.map gI)] := by
 obtain ⟨l, rfl, _⟩ := mq Tryz.underlying37 gI (fun q _ r hr => by
  obtain ⟨q', rfl, hr⟩ := gY Tryz.underlying71 hr
  obtain ⟨a, _, rfl, ha, b, _, rfl, hb, rfl⟩ := hr
  obtain ⟨s, rfl, _⟩ := s7 ha
  obtain ⟨t, rfl⟩ := GV _ _ hb
  exact ⟨⟨s, t⟩, by rw [cO]; rfl⟩) h
 exact ⟨l, rfl⟩
theorem Sl {n : Nat} {ds : List D} (h : qG Tryz.prog n 22 ds) : ∃ l : List cM, ds = [.sl (l.map fJ)] := by
 obtain ⟨l, rfl, _⟩ := mq Tryz.underlying22 fJ (fun q _ r hr => by
  obtain ⟨q', rfl, hr⟩ := gY Tryz.underlying67 hr
  obtain ⟨a, _, rfl, ha, b, _, rfl, hb, rfl⟩ := hr
  obtain ⟨s, rfl, _⟩ := s7 ha
  obtain ⟨t, rfl⟩ := Mo hb
  exact ⟨⟨s, t⟩, rfl⟩) h
 exact ⟨l, rfl⟩
def Mp : List TypeId := [3, 34, 9, 47, 46, 38, 50, 48, 53, 39, 96, 51, 71, 37, 67, 22, 41, 23, 25]
theorem Mq : Mp.all (Fy Tryz.prog Mp) = true := by kernel_rfl
end Go.Proofs.YtnfnbjjnjjdjdaaGreatDoor
namespace Go.Proofs.YtnfnbjjnjjdjdaaGreatDoor
open Go.RowKit Go.Av
set_option linter.unusedSimpArgs false
set_option linter.unusedVariables false
def Sm (i : Int) : Prop := 0 ≤ i ∧ i ≤ 18446744073709551615
theorem Zz : Sm 0 := ⟨by decide, by decide⟩
def WB (s : Ps) : Prop := ∀ w ∈ s.ws, Sm (w.int : Int)
theorem WB.dn {s s' : Ps} (h : WB s) (d : Dn s s') : WB s' := fun w hw => h w (d.sub w hw)
theorem WB.w {s : Ps} (h : WB s) : Sm (s.w.int : Int) := by
 unfold Ps.w
 cases hs : s.ws with
 | nil => exact Zz
 | cons w l => exact h w (by rw [hs]; exact List.mem_cons_self)
theorem s8 : ∀ l : List aj, ng l ↔ ∀ x ∈ l, sN x
 | [] => by simp [ng]
 | x :: l => by
  unfold ng
  rw [s8 l]
  simp
theorem Px (k : Int) (t : List UInt8) (i : Int) (ty : az) (ns : List (List UInt8)) (ks : List aj) : sN (.mk k t i ty ns ks) = (Sm i ∧ ∀ x ∈ ks, sN x) := by
 conv => lhs; unfold sN
 rw [s8]
 rfl
def NuE (E : EP) : Prop := ∀ s, WB s → sN (E s).1
theorem NuE.at {E : EP} (h : NuE E) {s s1 : Ps} {x : aj} (hs : WB s) (e : E s = (x, s1)) : sN x := by
 have := h s hs
 rw [e] at this
 exact this
end Go.Proofs.YtnfnbjjnjjdjdaaGreatDoor
namespace Go.Proofs.YtnfnbjjnjjdjdaaGreatDoor
open Go.RowKit Go.Av Go.Ab
structure AJ (f : Int → Bool × Int) (n : Int) : Prop where
 lo : -1 ≤ n
 hi : n ≤ 60000
 ok : ∀ p, 0 ≤ p → p ≤ 60000 → ((f p).1 = true ↔ 0 ≤ n ∧ p + n ≤ 60000)
 Ca : ∀ p, 0 ≤ p → p ≤ 60000 → (f p).1 = true → (f p).2 = p + n
theorem Mr (a b : Int) : -1 ≤ vW a b ∧ vW a b ≤ 60000 := by unfold vW; split <;> omega
theorem AJ.and {f g : Int → Bool × Int} {a b : Int} (hf : AJ f a) (hg : AJ g b) : AJ (aY f g) (vW a b) := by
 have key : ∀ p, 0 ≤ p → p ≤ 60000 → ((aY f g p).1 = true ↔ (0 ≤ a ∧ p + a ≤ 60000) ∧ 0 ≤ b ∧ p + a + b ≤ 60000) ∧ ((aY f g p).1 = true → (aY f g p).2 = p + a + b) := by
  intro p h1 h2
  unfold aY
  by_cases h : (f p).1 = false
  ·rw [if_pos h]
   have := hf.ok p h1 h2
   rw [h] at this
   exact ⟨⟨fun h => (by cases h), fun h => absurd (this.2 h.1) (by decide)⟩, fun h => (by cases h)⟩
  ·rw [if_neg h]
   have ht : (f p).1 = true := by simpa using h
   have h3 := (hf.ok p h1 h2).1 ht
   have h4 := hf.Ca p h1 h2 ht
   rw [h4]
   have h5 := hg.ok (p + a) (by omega) h3.2
   exact ⟨⟨fun h => ⟨h3, h5.1 h⟩, fun h => h5.2 h.2⟩, fun h => hg.Ca (p + a) (by omega) h3.2 h⟩
 obtain ⟨h1, h2⟩ := Mr a b
 refine ⟨h1, h2, fun p h3 h4 => ?_, fun p h3 h4 h5 => ?_⟩
 ·rw [(key p h3 h4).1]
  unfold vW
  split <;> omega
 ·have h6 := (key p h3 h4).1.1 h5
  rw [(key p h3 h4).2 h5]
  unfold vW
  rw [if_neg (by omega)]
  omega
theorem AJ.bad {f : Int → Bool × Int} (h : ∀ p, 0 ≤ p → p ≤ 60000 → (f p).1 = false) : AJ f (-1) :=
 ⟨by omega, by omega, fun p h1 h2 => by rw [h p h1 h2]; exact ⟨fun h => (by cases h), fun h => absurd h.1 (by omega)⟩, fun p h1 h2 h3 => by rw [h p h1 h2] at h3; cases h3⟩
theorem AJ.allow (b : Bool) : AJ (cN b) (if b = true then 0 else -1) := by
 cases b
 ·exact AJ.bad fun p _ _ => rfl
 ·refine ⟨by decide, by decide, fun p h1 h2 => ?_, fun p h1 h2 h3 => ?_⟩
  ·rw [if_pos rfl]
   exact ⟨fun _ => ⟨Int.le_refl _, by omega⟩, fun _ => rfl⟩
  ·rw [if_pos rfl]
   show p = p + 0
   omega
theorem AJ.part (d : Int) : AJ (cG d) (if 60 < d then -1 else 1) := by
 by_cases h : 60 < d
 ·rw [if_pos h]
  refine AJ.bad fun p _ _ => ?_
  show (decide (p + 1 ≤ 60000) && decide (d ≤ 60)) = false
  rw [decide_eq_false (by omega : ¬ d ≤ 60), Bool.and_false]
 ·rw [if_neg h]
  refine ⟨by decide, by decide, fun p h1 h2 => ?_, fun p _ _ _ => rfl⟩
  show (decide (p + 1 ≤ 60000) && decide (d ≤ 60)) = true ↔ _
  rw [decide_eq_true (by omega : d ≤ 60), Bool.and_true, decide_eq_true_iff]
  omega
def VP {α : Type} (c : α → Int) : List α → Int
 | [] => 0
 | x :: l => vW (c x) (VP c l)
theorem AJ.row {α : Type} {f : α → Int → Bool × Int} {c : α → Int} : ∀ (l : List α), (∀ x ∈ l, AJ (f x) (c x)) → AJ (dB f l) (VP c l)
 | [], _ => ⟨show (-1 : Int) ≤ 0 by decide, show (0 : Int) ≤ 60000 by decide, fun p _ h => ⟨fun _ => ⟨Int.le_refl _, by show p + 0 ≤ 60000; omega⟩, fun _ => rfl⟩, fun p _ _ _ => by show p = p + 0; omega⟩
 | x :: l, h => (h x List.mem_cons_self).and (AJ.row l fun y hy => h y (List.mem_cons_of_mem _ hy))
theorem AJ.congr {f g : Int → Bool × Int} {n : Int} (h : AJ g n) (h1 : ∀ p, 0 ≤ p → p ≤ 60000 → (f p).1 = (g p).1 ∧ ((f p).1 = true → (f p).2 = (g p).2)) : AJ f n :=
 ⟨h.lo, h.hi, fun p h2 h3 => by rw [(h1 p h2 h3).1]; exact h.ok p h2 h3, fun p h2 h3 h4 => by rw [(h1 p h2 h3).2 h4]; exact h.Ca p h2 h3 (by rw [← (h1 p h2 h3).1]; exact h4)⟩
def zM (b : Bool) : Int := if b = true then 0 else -1
set_option maxRecDepth 100000
set_option linter.unusedVariables false
theorem GW {m : Int} (h : (Lit.int .u64 m).wf = true) : Sm m := by
 have h1 : IntKind.u64.min = 0 ∧ IntKind.u64.max = 18446744073709551615 := by decide
 simp only [Lit.wf, h1, Bool.and_eq_true, decide_eq_true_eq] at h
 exact h
theorem Jv (l : List aF) (h : ∀ x ∈ l, qt x) : iC l := by
 induction l with
 | nil => rw [iC]; trivial
 | cons x l ih => rw [vU]; exact ⟨h x List.mem_cons_self, ih fun y hy => h y (List.mem_cons_of_mem _ hy)⟩
theorem Jw (l : List cQ) (h : ∀ c ∈ l, Sm c.int ∧ iC c.body) : rD l := by
 induction l with
 | nil => rw [rD]; trivial
 | cons c l ih =>
  obtain ⟨i, b⟩ := c
  rw [vV]
  have := h _ List.mem_cons_self
  exact ⟨this.1, this.2, ih fun y hy => h y (List.mem_cons_of_mem _ hy)⟩
theorem Sn : ∀ (n : Nat) (ds : List D), qG Tryz.prog n 50 ds → ∃ x : {x : aj // sN x}, ds = eH x.1 := by
 intro n
 induction n using Nat.strongRecOn with
 | _ n ih =>
  intro ds h
  obtain ⟨m, rfl, h⟩ := gY Tryz.underlying50 h
  obtain ⟨a, _, rfl, ha, b, _, rfl, hb, c, _, rfl, hc, d, _, rfl, hd, e, _, rfl, he, f, _, rfl, hf, rfl⟩ := h
  obtain ⟨k, rfl, _⟩ := wQ Tryz.underlying3 ha
  obtain ⟨s, rfl, _⟩ := s7 hb
  obtain ⟨i, rfl, hi⟩ := wQ Tryz.underlying34 hc
  obtain ⟨t, rfl⟩ := GV _ _ hd
  obtain ⟨ns, rfl⟩ := Qv he
  obtain ⟨l, rfl, _⟩ := mq Tryz.underlying48 (fun x : {x : aj // sN x} => eH x.1) (fun q hq r hr => ih q (by omega) r hr) hf
  refine ⟨⟨.mk k s i t ns (l.map (·.1)), ?_⟩, by rw [cP, cO]; simp [aj.kind, aj.text, aj.int, aj.type, aj.names, aj.kids] <;> rfl⟩
  rw [Px]
  refine ⟨GW hi, fun x hx => ?_⟩
  obtain ⟨y, _, rfl⟩ := List.mem_map.1 hx
  exact y.2
theorem GX {n : Nat} {ds : List D} (h : qG Tryz.prog n 48 ds) : ∃ l : List aj, ng l ∧ ds = [.sl (l.map eH)] := by
 obtain ⟨l, rfl, _⟩ := mq Tryz.underlying48 (fun x : {x : aj // sN x} => eH x.1) (fun q _ r hr => Sn q r hr) h
 refine ⟨l.map (·.1), ?_, by simp⟩
 rw [s8]
 intro x hx
 obtain ⟨y, _, rfl⟩ := List.mem_map.1 hx
 exact y.2
theorem uJ (l : List {x : aF // qt x}) : iC (l.map (·.1)) := Jv _ fun x hx => by
 obtain ⟨y, _, rfl⟩ := List.mem_map.1 hx
 exact y.2
theorem So : ∀ (n : Nat) (ds : List D), qG Tryz.prog n 53 ds → ∃ x : {x : aF // qt x}, ds = dL x.1 := by
 intro n
 induction n using Nat.strongRecOn with
 | _ n ih =>
  intro ds h
  obtain ⟨m, rfl, h⟩ := gY Tryz.underlying53 h
  obtain ⟨a, _, rfl, ha, b, _, rfl, hb, c, _, rfl, hc, d, _, rfl, hd, e, _, rfl, he, f, _, rfl, hf, g, _, rfl, hg, i, _, rfl, hi, rfl⟩ := h
  obtain ⟨k, rfl, _⟩ := wQ Tryz.underlying3 ha
  obtain ⟨ns, rfl⟩ := Qv hb
  obtain ⟨t, rfl⟩ := GV _ _ hc
  obtain ⟨ls, nl, rfl⟩ := GX hd
  obtain ⟨es, ne, rfl⟩ := GX he
  obtain ⟨bo, rfl, _⟩ := mq Tryz.underlying39 (fun x : {x : aF // qt x} => dL x.1) (fun q hq r hr => ih q (by omega) r hr) hf
  obtain ⟨el, rfl, _⟩ := mq Tryz.underlying39 (fun x : {x : aF // qt x} => dL x.1) (fun q hq r hr => ih q (by omega) r hr) hg
  obtain ⟨cs, rfl, _⟩ := mq Tryz.underlying51 (fun c : {c : cQ // Sm c.int ∧ iC c.body} => jJ c.1) (fun q hq r hr => by
   obtain ⟨q', rfl, hr⟩ := gY Tryz.underlying96 hr
   obtain ⟨a, _, rfl, ha, b, _, rfl, hb, rfl⟩ := hr
   obtain ⟨k, rfl, hk⟩ := wQ Tryz.underlying34 ha
   obtain ⟨l, rfl, _⟩ := mq Tryz.underlying39 (fun x : {x : aF // qt x} => dL x.1) (fun q2 SL r hr => ih q2 (by omega) r hr) hb
   have hl := uJ l
   exact ⟨⟨.mk k (l.map fun y : {x : aF // qt x} => y.1), GW hk, hl⟩, by rw [gr]; simp [cQ.int, cQ.body]⟩) hi
  refine ⟨⟨.mk k ns t ls es (bo.map (·.1)) (el.map (·.1)) (cs.map (·.1)), ?_⟩, by rw [bY, cO]; simp [aF.kind, aF.names, aF.type, aF.aG, aF.exprs, aF.body, aF.dO, aF.cases] <;> rfl⟩
  rw [qt]
  refine ⟨nl, ne, uJ bo, uJ el, Jw _ fun c hc => ?_⟩
  obtain ⟨y, _, rfl⟩ := List.mem_map.1 hc
  exact y.2
theorem Py {n : Nat} {ds : List D} (h : qG Tryz.prog n 39 ds) : ∃ l : List aF, iC l ∧ ds = [.sl (l.map dL)] := by
 obtain ⟨l, rfl, _⟩ := mq Tryz.underlying39 (fun x : {x : aF // qt x} => dL x.1) (fun q _ r hr => So q r hr) h
 exact ⟨l.map (·.1), uJ l, by simp⟩
theorem Sp {n : Nat} {ds : List D} (h : qG Tryz.prog n 25 ds) : ∃ p : oV, yA p ∧ ds = [.sl (p.structs.map fJ), .sl (p.funcs.map fK)] := by
 obtain ⟨q', rfl, h⟩ := gY Tryz.underlying25 h
 obtain ⟨a, _, rfl, ha, b, _, rfl, hb, rfl⟩ := h
 obtain ⟨s, rfl⟩ := Sl ha
 obtain ⟨l, rfl, _⟩ := mq Tryz.underlying23 (fun f : {f : cR // iC f.body} => fK f.1) (fun q _ r hr => by
  obtain ⟨q', rfl, hr⟩ := gY Tryz.underlying41 hr
  obtain ⟨a, _, rfl, ha, b, _, rfl, hb, c, _, rfl, hc, d, _, rfl, hd, rfl⟩ := hr
  obtain ⟨s, rfl, _⟩ := s7 ha
  obtain ⟨ps, rfl⟩ := Mo hb
  obtain ⟨rs, rfl⟩ := Sk hc
  obtain ⟨bo, nb, rfl⟩ := Py hd
  exact ⟨⟨⟨s, ps, rs, bo⟩, nb⟩, rfl⟩) hb
 refine ⟨⟨s, l.map (·.1)⟩, fun f hf => ?_, by simp⟩
 obtain ⟨y, _, rfl⟩ := List.mem_map.1 hf
 exact y.2
end Go.Proofs.YtnfnbjjnjjdjdaaGreatDoor
namespace Go.Proofs.YtnfnbjjnjjdjdaaGreatDoor
open Go.ChangeShapes Go.WideShapes Go.ChangeAt Go.RowKit Go.Av
theorem laidOut : laidOutB Tryz.prog = true := by kernel_rfl
theorem Ms {H : Type} {enc : TypeId × Value → H} {t : TypeId} {W W' : World} {v : Value} {d : DataW H} {ps : List MemPlace} (hr : Tryz.prog.readableRec t = true) (aA : t < Tryz.prog.types.size)
 (h : DataW.Trod enc Tryz.prog W 0 (fun _ => true) true t v d ps) (hb : Below W.heap.size W W') (au : ∀ x ∈ ps, x.block < W.heap.size) : DataW.Trod enc Tryz.prog W' 0 (fun b => decide (b < W.heap.size)) true t v d ps :=
 Below.trod laidOut hr aA h hb au
end Go.Proofs.YtnfnbjjnjjdjdaaGreatDoor
namespace Go.Av
def wR {H : Type} (zs : List (List UInt8)) : DataW H := .agg (zs.map fun z => .lit (.string z))
theorem wS {H : Type} {enc : TypeId × Value → H} {P : Program} {w : World} {base : Nat} {sp : Nat → Bool} {held : Bool} {fuel : Nat} {t e : TypeId} {n : Nat} {cs : List Value} {zs : List (List UInt8)} {p : List MemPlace}
 (ht : P.underlying t = some (.array n e)) (he : P.underlying e = some .string) (ZA : P.cellsOf e = 1) (ZB : P.cellsOf t = n)
 (h : DataW.trod enc P w base sp held fuel t cs = some (wR zs, p)) : cs = zs.map fun z => Value.string ⟨z.toArray⟩ := by
 cases fuel with
 | zero => simp [DataW.trod] at h
 | succ fuel =>
  simp only [DataW.trod, ht, ZA, ZB, Nat.mul_one] at h
  split at h
  ·rename_i hl
   obtain ⟨xs, hm, hx⟩ := Option.map_eq_some_iff.1 h
   have Nw : xs.map (·.1) = zs.map fun z => (DataW.lit (.string z) : DataW H) := by
    have := congrArg Prod.fst hx
    simpa [wR] using this
   have Vt : xs.length = n := by simpa using Lib.mapM_length hm
   have Xl : zs.length = n := by
    have := congrArg List.length Nw
    simp at this
    omega
   apply List.ext_getElem?
   intro i
   by_cases hi : i < n
   ·obtain ⟨b, hb, hf⟩ := Lib.mapM_at hm i i (by simp [hi])
    obtain ⟨z, hc, rfl, _⟩ := DataW.trod_string he hf
    have h1 : cs[i]? = some (.string z) := by
     have := congrArg (·[0]?) hc
     simpa [List.getElem?_take, List.getElem?_drop] using this
    have h2 : (xs.map (·.1))[i]? = some (DataW.lit (.string z.data.toList) : DataW H) := by simp [hb]
    rw [Nw] at h2
    simp only [List.getElem?_map, Option.map_eq_some_iff, DataW.lit.injEq, Lit.string.injEq] at h2
    obtain ⟨z', r8, e⟩ := h2
    have ez : z = ⟨z'.toArray⟩ := by
     apply ByteArray.ext
     rw [e]
    simp [h1, r8, ez]
   ·rw [List.getElem?_eq_none (by omega), List.getElem?_eq_none (by simp; omega)]
  ·cases h
theorem p9 {P : Program} {W : World} {name : String} {zs : List (List UInt8)} {rest : List (String × DataW Unit)} {ps : List MemPlace} {g : Nat} {t e : TypeId} {n : Nat}
 (hg : P.globalNamed name = some g) (fk : (P.globals[g]?).map (·.type) = some t) (ht : P.underlying t = some (.array n e)) (he : P.underlying e = some .string) (ZA : P.cellsOf e = 1) (ZB : P.cellsOf t = n)
 (h : DataW.LaidVars P W ((name, wR zs) :: rest) ps) : (∃ u fr, W.heap[g]? = some (.cells (zs.map fun z => Value.string ⟨z.toArray⟩).toArray u fr)) ∧ ∃ q, DataW.LaidVars P W rest q := by
 obtain ⟨g', t', cs, fuel, p, q, hg', gw, Mt, hd, hr, _⟩ := h
 obtain rfl := Option.some.inj (hg.symm.trans hg')
 obtain rfl := Option.some.inj (fk.symm.trans gw)
 refine ⟨?_, q, hr⟩
 have oF := wS ht he ZA ZB hd
 have ecs : cs = (zs.map fun z => Value.string ⟨z.toArray⟩).toArray := by rw [← oF]
 unfold World.var? at Mt
 rw [hg, Option.bind_some] at Mt
 split at Mt
 ·rename_i c u fr hh
  obtain rfl := Option.some.inj Mt
  exact ⟨u, fr, by rw [hh, ecs]⟩
 ·cases Mt
end Go.Av
namespace Go.Proofs.YtnfnbjjnjjdjdaaGreatDoor.gotypeBare
open Go.ChangeShapes Go.WideShapes Go.ChangeAt Go.RowKit Go.Av Go.Ab
open Go.ChangeMaps (open_string shut_string)
set_option linter.unusedVariables false
theorem own : ownKnob Tryz.prog.godebug = none := by kernel_rfl
theorem Ew {W : World} (h : laidMetH Tryz.prog Rows.gotypeBareRow.laid W) : pq W := by
 have h' : laidMet Tryz.prog Rows.gotypeBareRow.laid W := h
 obtain ⟨ps, hv, _⟩ := h'
 obtain ⟨⟨u, fr, h1⟩, ps2, Jy⟩ := p9 (zs := eg) (g := 0) (t := 189) (e := 9) (n := 29) (by kernel_rfl) (by kernel_rfl) Tryz.underlying189 Tryz.underlying9 (by kernel_rfl) (by kernel_rfl) hv
 obtain ⟨⟨u2, AO, h2⟩, _⟩ := p9 (zs := kY) (g := 1) (t := 198) (e := 9) (n := 22) (by kernel_rfl) (by kernel_rfl) Tryz.underlying198 Tryz.underlying9 (by kernel_rfl) (by kernel_rfl) Jy
 exact ⟨⟨u, fr, h1⟩, ⟨u2, AO, h2⟩⟩
noncomputable def s9 (os : Os) : World := World.laidAll Tryz.prog os Rows.gotypeBareRow.laid
theorem Mu (os : Os) : laidMet Tryz.prog Rows.gotypeBareRow.laid ((s9 os).forCall (fun _ _ => 0) ⟨#[], #[Value.agg #[.slice none 0 0, .slice none 0 0]], []⟩).memory :=
 laidMet_laidAll _ (by kernel_rfl) (by kernel_rfl)
theorem reads (os : Os) {H : Type} (enc : TypeId × Value → H) : ∃ places, DataW.whole enc Tryz.prog ((s9 os).forCall (fun _ _ => 0) ⟨#[], #[Value.agg #[.slice none 0 0, .slice none 0 0]], []⟩).memory Tryz.f5.params.toList Rows.gotypeBareSpec.vars false #[Value.agg #[.slice none 0 0, .slice none 0 0]].toList 8 = some ([.agg [.nil, .nil]], [], places) :=
 ⟨[], by kernel_rfl⟩
set_option maxRecDepth 100000 in
theorem lifted (os : Os) (started : os.Started) (H : Type) (enc : TypeId × Value → H) (F : Stop.Interp) :
 ReturnsInHanded {} Tryz.checked os 5 .any ((OpenSpec.ofChange Rows.gotypeBareSpec).preRow enc Tryz.prog Tryz.f5 Rows.gotypeBareRow.domain false Rows.gotypeBareRow.laid) (((OpenSpec.ofChange Rows.gotypeBareSpec).at F).post enc Tryz.prog Tryz.f5 false true false false) := by
 obtain ⟨places, hx⟩ := reads os enc
 refine returnsInHanded_of_row (C := Tryz.checked) (s := OpenSpec.ofChange Rows.gotypeBareSpec) own started (by kernel_rfl) Tryz.func5
  (witness_row_at (enc := enc) (C := Tryz.checked) false (s9 os) #[Value.agg #[.slice none 0 0, .slice none 0 0]] (World.laidAll_os _ _ _) (by kernel_rfl) (by kernel_rfl) (by kernel_rfl)
   (OpenSpec.preRow_of_cond 8 hx (by kernel_rfl) (fun k hk => by cases hk) (by kernel_rfl) (Mu os))) ?_
 intro W base args ds gs before Sq hW _ _ _ hL _ _
 have ZC := hW
 obtain ⟨p, q, Nz, hV, rfl, Xd, ZP⟩ := hW
 have hA : DataW.TrodAll enc Tryz.prog W 0 (fun _ => true) true Tryz.f5.params.toList args.toList ds p := Nz
 rw [Tryz.params5] at hA Sq
 obtain ⟨v0, Tn, d0, ds0, p0, q0, hargs, rfl, rfl, h0, r0⟩ := trodAll_cons hA
 obtain ⟨rfl, rfl, rfl⟩ := trodAll_nil r0
 obtain rfl : args = #[v0] := by cases args; simp_all
 obtain ⟨rfl, rfl⟩ := trodVars_none hV
 have au : ∀ x ∈ (p0 ++ []), x.block < W.heap.size := fun x hx => by simpa using ZC.lt x (by simpa using hx)
 obtain ⟨c0, rfl, _⟩ := okWide_struct Tryz.underlying25 (Sq 0 25 v0 rfl rfl)
 obtain ⟨u0, g0⟩ := h0
 obtain ⟨y0, o0⟩ := Sj (W := W) (enc := enc) Mp Mq u0 25 c0.toList _ (by kernel_rfl) g0
 have h0 := (⟨u0, g0⟩ : DataW.Trod enc Tryz.prog W 0 (fun _ => true) true 25 (.agg c0) d0 p0)
 have q0 := Ju (I := av) o0
 obtain ⟨x0, JU, rfl⟩ := Sp o0.1
 clear Nz Sq
 simp only [List.append_nil] at ZC
 have hmx : maxLen = 9223372036854775807 := rfl
 have hT := Ew hL
 refine ((aD.only (Mm x0 JU)).law (W := W) (xs := #[.agg c0]) (show 1 + 0 + 1 ≤ W.heap.size by have := hT.size; omega) (fun w hb => hT.below hb) rfl (fun j hj => ?_)).mono fun e W' ⟨he, bel⟩ => ?_
 ·match j, hj with
  | 0, _ => exact q0
 subst he
 exact ⟨_, rfl, _, _, _, [], _, [], ZC, trodAll_mk1 (shut_bool Tryz.underlying4 _), (trodAll_cons_mk (Ms (by kernel_rfl) (of_decide_eq_true (by kernel_rfl)) h0 bel (fun x hx => au x (by simp [hx]))) trodAll_mk0), rfl, bel.frame _, fun h => by cases h⟩
theorem said : Rows.GotypeBareSaid :=
 OpenClaim.holds_of_cond 5 Tryz.f5 rfl rfl rfl rfl rfl rfl rfl ⟨rfl, rfl, rfl, rfl, rfl⟩ rfl rfl rfl rfl rfl (by kernel_rfl) Tryz.func5 (by kernel_rfl)
  (of_decide_eq_true (by kernel_rfl)) (by unfold Func.isWrapper; first | (rw [if_pos (by decide +kernel)]; kernel_rfl) | (rw [if_neg (by decide +kernel)]; exact ⟨rfl, rfl⟩))
  (fun os started H enc _ F => by rw [OpenClaim.pre_eq_preRow]; exact lifted os started H enc F)
theorem plain (f : FuncId) (fn : Func) (hf : Tryz.pinned.checked.prog.funcNamed "avocet/avocetlaw27.GotypeBare" = some f) (ZK : Tryz.pinned.checked.prog.funcs[f]? = some fn) :
 false = Tryz.pinned.checked.prog.looks [] ∧ ∀ (j : Nat) t, fn.params[j]? = some t → Tryz.pinned.checked.prog.wantsStandIn t = false := by
 obtain rfl : f = 5 := Option.some.inj ((show Tryz.prog.funcNamed "avocet/avocetlaw27.GotypeBare" = some 5 by kernel_rfl).symm.trans hf) |>.symm
 obtain rfl : fn = Tryz.f5 := (Option.some.inj (Tryz.func5.symm.trans ZK)).symm
 refine ⟨by kernel_rfl, fun j t ht => ?_⟩
 rw [Tryz.params5] at ht
 have hm := Array.mem_of_getElem? ht
 have : t = 25 := by simpa using hm
 subst this
 exact (show Tryz.prog.wantsStandIn 25 = false by kernel_rfl)
theorem proved : Rows.GotypeBareCardSaid :=
 Claim7.holds_tied_plain_at .later [] _ _ _ _ said (fun _ h => by cases h) (by kernel_rfl) (fun _ h => by cases h) gotypeBare_row_tie rfl ⟨rfl, rfl⟩ (by kernel_rfl) rfl plain (by kernel_rfl)
#print axioms proved
end Go.Proofs.YtnfnbjjnjjdjdaaGreatDoor.gotypeBare
