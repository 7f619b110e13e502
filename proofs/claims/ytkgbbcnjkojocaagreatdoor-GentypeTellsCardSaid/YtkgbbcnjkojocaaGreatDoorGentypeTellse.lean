/- GentypeTells: whatever the schema and the place, the program and the document tell the same types and structs. Part 5 of 5 of the proof. -/
import Derived.Test.YtkgbbcnjkojocaaGreatDoorGentypeTellsd
import Derived.OpenShut
import Derived.ChangeArms
import Derived.Test.YtkgbbcnjkojocaaGreatDoorRows
import Derived.Lib.LaidTab
import Derived.LaidLaws
import Derived.WalkKit
import Derived.ProofKit
import Derived.ShutString
import Derived.Deep.DeepHandedRow
import Derived.Carry
import Derived.Test.YtkgbbcnjkojocaaGreatDoorCards
import Derived.Test.YtkgbbcnjkojocaaGreatDoorTie
import Derived.Lay
namespace Go.Ab
open Go.RowKit Go.Av
theorem ARun.bxTok2 {P : Program} {I : Inv} {z : Nat × Nat} {fn : FuncId} {k : List Item} {env : List V} {R : V → Mem → Prop} {B : List (List V)} {T : List (Nat × Nat)} {x : V} (i sz : Nat) (h0 : 0 < sz) (hi : B[i]? = some [x, .sl [] .full])
 (h : ARun P I z fn k env ⟨B.set i [x, .sl [] (.own T.length)], T ++ [(0, sz)]⟩ R) : ARun P I z fn k env ⟨B, T⟩ R := by
 intro b a0 c w c0 w0 h1 h2 h3 h4 h5 h6 hI
 have hiB := (List.getElem?_eq_some_iff.1 hi).1
 have hlen : B.length = c.ρ.length := h5.len
 obtain ⟨b0, hb0⟩ : ∃ b0, c.ρ[i]? = some b0 := ⟨_, List.getElem?_eq_getElem (by omega)⟩
 have hT0 := h5.tyOfBox hb0 hi (by intro ks us he; cases he)
 obtain ⟨_, o, ho, vs', e1, e2⟩ := h5.box i b0 hb0
 obtain ⟨cs, Ty, hh, e2, e3⟩ := e2.of_ty ho hT0
 have e1 : B[i]? = some vs' := e1
 rw [hi] at e1
 obtain rfl := Option.some.inj e1
 have hv : VR c w (.sl [] .full) (cs.getD 1 undef) := (e3 1 (by simp)).1
 obtain ⟨c', r1, r2, r3⟩ := h5.token hv sz h0 (by simp)
 refine h b a0 c' w c0 w0 h1 h2 h3 (h4.ext r2) ?_ (h6.trans r2) ⟨r2.I.trans hI.1, hI.2⟩
 refine r1.tell (S := ⟨B, T ++ [(0, sz)]⟩) (r2.keeps.ρ i b0 hb0) (hT0.imp fun T => r2.keeps.ty b0 T) hi (vs := [x, .sl [] (.own T.length)]) (by simp) fun cs2 T2 hh2 hcs j hj => ?_
 obtain ⟨rfl, _⟩ : cs = cs2 ∧ True := by
  rw [hh] at hh2
  have := Option.some.inj hh2
  simp at this
  exact ⟨this.1, trivial⟩
 match j with
 | 0 => exact hcs 0 (by simp)
 | 1 => exact r3
 | j + 2 =>
  simp only [List.length_cons, List.length_nil] at hj
  omega
end Go.Ab
namespace Go.Proofs.YtkgbbcnjkojocaaGreatDoor
open Go.RowKit Go.Av Go.Ab
set_option linter.unusedSimpArgs false
set_option linter.unusedVariables false
set_option maxRecDepth 100000
set_option linter.defProp false
def b9 := KB Tryz.func9 123
set_option maxHeartbeats 16000000 in
theorem rStructs_ab (s : ScT) (hs : SmS s) (B : List (List V)) (T : List (Nat × Nat)) : AFn Tryz.prog TabI 9 [scV s] ⟨B, T⟩ (Same (StR s) ⟨B, T⟩) := by
 obtain ⟨N, hn⟩ : ∃ N, B.length = N := ⟨_, rfl⟩
 obtain ⟨M, hM⟩ : ∃ M, T.length = M := ⟨_, rfl⟩
 have hr := fun B T => rightD_ab s hs B T
 unfold StR scV at *
 cases e3 : rightP rjJ zjJ s
 ·rw [if_neg (by decide)]
  rw [e3] at hr
  refine enS b9 fun hsm => ?_
  simp only [smw] at hsm
  simp only [W, seval, b9, hn]
  refine callN (hr _ _) ?_
  refine goN ?_
  simp only [W, seval, b9, hn]
  refine retN b9 (Left.box ?_)
  exact ⟨rfl, rfl⟩
 rw [if_pos rfl]
 rw [e3] at hr
 have ho := rightP_ord e3
 have hl := (ordered_kids ho).1
 have hk := kids_ord ho
 have hss := hs.2
 obtain ⟨l, root⟩ := s
 dsimp only at *
 obtain ⟨f, hf0⟩ : ∃ f, l.length + 1 = f := ⟨_, rfl⟩
 rw [hf0] at hk ⊢
 rw [show strsN nameL numL l f (List.range l.length) = suN l f l.length from rfl]
 refine enS b9 fun hsm => ?_
 simp only [smw] at hsm
 simp only [W, seval, b9, hn]
 refine callN (hr _ _) ?_
 refine goN ?_
 simp only [W, seval, b9, hn]
 refine ARun.token 4 [] (by rfl) 2 (by omega) rfl ?_
 simp only [envS_put, hM]
 refine goN ?_
 simp only [W, seval, b9, hn]
 refine ARun.fits fun hf => ?_
 refine ARun.loopA (fun i : Nat => (envS 123 [(1, .ptr N 0), (4, .sl ((suN l f i).map suD) (.own M)), (5, .d (.int .i64 (i : Int)))], ⟨B ++ [[.d (.sl (l.map ndD)), .d (.int .i64 root)]], T ++ [((suN l f i).length, 2)]⟩)) (fun i => i ≤ l.length) (fun i => l.length - i) 0 (by omega) envA rfl ?_
 rintro i h1 ih
 dsimp only at h1 ih ⊢
 by_cases hlt : i < l.length
 case neg =>
  have e2 : decide ((i : Int) < (l.length : Int)) = false := decide_eq_false (by omega)
  obtain rfl : i = l.length := by omega
  refine goN ?_
  simp only [W, seval, b9, hn, e2, List.length_map]
  refine retN b9 (Left.all ?_)
  refine ⟨?_, rfl⟩
  clear ih
  simp only [fnw, seval]
  simp [hM, wk, wkL]
 have e2 : decide ((i : Int) < (l.length : Int)) = true := decide_eq_true (by omega)
 have hw := wrap_in ((i : Int) + 1) (by omega)
 have hsn := fun B T => rnm_ab l root hss hl i hlt B T
 have hle := suN_len l f i
 have hki := hk i hlt
 have hsx : SmN (ndN l i) := by rw [ndN_at hlt]; exact hss _ (List.getElem_mem hlt)
 have hg := nd_row (l := l) (m := (i : Int)) (by omega) (by omega)
 rw [ndD_eq] at hg
 simp only [Int.toNat_natCast] at hg
 have hti : (i : Int) < (l.length : Int) := by omega
 have hhas : hasN (ndN l i) = (decide ((ndN l i).kind = 9) || (decide ((ndN l i).kind = 12) || decide ((ndN l i).kind = 13))) := rfl
 obtain ⟨sn, hsn0⟩ : ∃ n, snN l i = n := ⟨_, rfl⟩
 rw [hsn0] at hsn
 obtain ⟨x, hx⟩ : ∃ x, ndN l i = x := ⟨_, rfl⟩
 rw [hx] at hg hki hsx hhas
 obtain ⟨kd, hkd⟩ : ∃ kd, x.kind = kd := ⟨_, rfl⟩
 rw [hkd] at hg hhas
 obtain ⟨Y, hY⟩ : ∃ Y : List V, [.d (.int .i64 kd), .d (.str x.name), .d (.sl (ssD x.aliases)), .d (.sl (x.fields.map fdD)), .d (.sl (ssD x.symbols)), .d (.bool x.has), .d (.str x.dflt), .d (.int .i64 x.size), .d (.int .i64 x.items), .d (.sl (isD x.branches))] = Y := ⟨_, rfl⟩
 have hY0 : ∃ Y', Y = .d (.int .i64 kd) :: Y' := ⟨_, hY.symm⟩
 have hend : ∀ (fs : List PaT) (tk : Go.Ab.Tok) (K : List (Nat × Nat)), (hasN x = true → fs = fldsN l f i) → ARun Tryz.prog TabI (N, M) 9 [.code (kF Tryz.f9 75), .inBlock 1, .code (kF Tryz.f9 80), .inLoop (kF Tryz.f9 17), .inBlock 0, .code (kF Tryz.f9 81)]
  (envS 123 [(1, .ptr N 0), (4, .sl ((suN l f i).map suD) (.own M)), (5, .d (.int .i64 (i : Int))), (6, .ptr (N + 1) 0), (7, .ptr (N + 2) 0)]) ⟨B ++ [[.d (.sl (l.map ndD)), .d (.int .i64 root)], Y, [.d (.str sn), .sl (fs.map paD) tk]], T ++ ((suN l f i).length, 2) :: K⟩
  (Ab.Left ⟨B, T⟩ (Same (.tup [.d (.sl ((suN l f l.length).map suD)), .d (.int .i64 0)]) ⟨B, T⟩)) := by
  intro fs tk K hfs
  clear hsn hki hk hr
  have hT1 : (T ++ ((suN l f i).length, 2) :: K)[M]? = some ((suN l f i).length, 2) := by rw [← hM, List.getElem?_append_right (Nat.le_refl _), Nat.sub_self]; rfl
  have hT2 : ∀ q, (T ++ ((suN l f i).length, 2) :: K).set M q = T ++ q :: K := fun q => by rw [← hM, List.set_append_right _ _ (Nat.le_refl _), Nat.sub_self]; rfl
  have hB0 : ∀ (X : List V) (Y Z : List V) q, (⟨B ++ [X, Y, Z], T ++ q :: K⟩ : Mem) = ⟨(B ++ [X]) ++ [Y, Z], (T ++ [q]) ++ K⟩ := fun X Y Z q => by simp
  have hcap : ((suN l f i).length + 1) * 40 ≤ 140737488355328 := by omega
  have hr2 : rowsSz 2 [[D.str sn, .sl (fs.map paD)]] = true := rfl
  rw [← hx] at hhas hfs
  cases hh : hasN (ndN l i)
  ·rw [hh] at hhas
   have hh3 := hhas.symm
   simp only [Bool.or_eq_false_iff] at hh3
   obtain ⟨e9, e12, e13⟩ := hh3
   have hsu := suN_no (f := f) hh
   subst hY
   refine goN ?_
   simp only [W, seval, b9, hn, e9, e12, e13, hw]
   rw [hB0]
   refine ih (i + 1) (by omega) (by omega) _ _ _ _ _ (by rw [hsu]) ⟨by simp; omega, by simp; omega⟩ (hf.toks (by simp)) ?_
   refine AgreeF.env _ ?_
   simp only [agf, seval, hn, hsu]
   exact ⟨decide_eq_true (by simp; omega), decide_eq_true (by simp; omega)⟩
  ·have hsu := suN_yes (f := f) hh
   rw [← hfs hh, hsn0] at hsu
   rw [hh] at hhas
   have hfin : ∀ c9 c12 c13 : Bool, (c9 || (c12 || c13)) = true → decide (kd = 9) = c9 → decide (kd = 12) = c12 → decide (kd = 13) = c13 → ARun Tryz.prog TabI (N, M) 9 [.code (kF Tryz.f9 75), .inBlock 1, .code (kF Tryz.f9 80), .inLoop (kF Tryz.f9 17), .inBlock 0, .code (kF Tryz.f9 81)]
    (envS 123 [(1, .ptr N 0), (4, .sl ((suN l f i).map suD) (.own M)), (5, .d (.int .i64 (i : Int))), (6, .ptr (N + 1) 0), (7, .ptr (N + 2) 0)]) ⟨B ++ [[.d (.sl (l.map ndD)), .d (.int .i64 root)], Y, [.d (.str sn), .sl (fs.map paD) tk]], T ++ ((suN l f i).length, 2) :: K⟩
    (Ab.Left ⟨B, T⟩ (Same (.tup [.d (.sl ((suN l f l.length).map suD)), .d (.int .i64 0)]) ⟨B, T⟩)) := by
    intro c9 c12 c13 hc e9 e12 e13
    subst hY
    cases c9 <;> cases c12 <;> cases c13 <;> first
     | exact absurd hc (by decide)
     | skip
    all_goals
     refine goN ?_
     simp only [W, seval, b9, hn, e9, e12, e13, hw, hT1, hT2, hcap, hr2, suD_snoc, Nat.reduceMul, mapX_nil, mapX_cons, mapX_sl, List.length_map, ← hsu]
     rw [hB0]
     refine ih (i + 1) (by omega) (by omega) _ _ _ _ _ (by rw [hsu]; simp) ⟨by simp; omega, by simp; omega⟩ (hf.toks (by simp)) ?_
     refine AgreeF.env _ ?_
     simp only [agf, seval, hn]
     exact ⟨decide_eq_true (by simp; omega), decide_eq_true (by simp; omega)⟩
   exact hfin _ _ _ hhas.symm rfl rfl rfl
 subst hY
 clear hr hY0
 by_cases k9 : kd = 9
 ·subst k9
  have hfe : fldsN l f i = x.fields.map (flN l f) := by
   unfold fldsN fldN
   rw [hx, hkd, if_pos rfl]
   rfl
  have hlf : x.fields.length ≤ 2500 := hsx.2.1
  refine goN ?_
  simp only [W, seval, b9, hn, e2, hg, hlt, hti, List.length_map, decide_true, decide_false]
  refine callN (hsn _ _) ?_
  refine goN ?_
  simp only [W, seval, b9, hn, decide_true, decide_false]
  refine ARun.bxTok2 (x := .d (.str sn)) (N + 2) 4 (by omega) (by subst hn; simp [List.getElem?_append_right]) ?_
  have hl1 : List.length (T ++ [((suN l f i).length, 2)]) = M + 1 := by simp [hM]
  rw [hl1, show ∀ X Y Z W : List V, (B ++ [X, Y, Z]).set (N + 2) W = B ++ [X, Y, W] from fun X Y Z W => by subst hn; rw [List.set_append_right _ _ (by omega), show B.length + 2 - B.length = 2 by omega]; rfl, List.append_assoc, List.singleton_append]
  refine ARun.loopW (fun j : Nat => (envS 123 [(1, .ptr N 0), (4, .sl ((suN l f i).map suD) (.own M)), (5, .d (.int .i64 (i : Int))), (6, .ptr (N + 1) 0), (7, .ptr (N + 2) 0), (8, .d (.int .i64 (j : Int)))], ⟨B ++ [[.d (.sl (l.map ndD)), .d (.int .i64 root)], [.d (.int .i64 9), .d (.str x.name), .d (.sl (ssD x.aliases)), .d (.sl (x.fields.map fdD)), .d (.sl (ssD x.symbols)), .d (.bool x.has), .d (.str x.dflt), .d (.int .i64 x.size), .d (.int .i64 x.items), .d (.sl (isD x.branches))], [.d (.str sn), .sl (((x.fields.take j).map (flN l f)).map paD) (.own (M + 1))]], T ++ [((suN l f i).length, 2), (j, 4)]⟩)) (fun j => j ≤ x.fields.length) (fun j => x.fields.length - j) 0 (by omega) envA rfl ?_
  rintro j hj1 ihj
  dsimp only at hj1 ihj ⊢
  by_cases hjt : j < x.fields.length
  case neg =>
   have e2 : decide ((j : Int) < (x.fields.length : Int)) = false := decide_eq_false (by omega)
   rw [List.take_of_length_le (by omega)]
   refine ARun.go 29 ?_
   simp only [W, seval, b9, hn, e2, List.length_map, decide_true, decide_false]
   have ht := hend (x.fields.map (flN l f)) (.own (M + 1)) [(j, 4)] (fun _ => hfe.symm)
   exact ARun.weak envA ht
  have e2 : decide ((j : Int) < (x.fields.length : Int)) = true := decide_eq_true (by omega)
  have hwj := wrap_in ((j : Int) + 1) (by omega)
  have hge := List.getElem?_eq_getElem hjt
  have htk : (x.fields.take (j + 1)).map (flN l f) = (x.fields.take j).map (flN l f) ++ [flN l f x.fields[j]] := by rw [List.take_succ_eq_append_getElem hjt, List.map_append]; rfl
  obtain ⟨hk0, hka⟩ := hki x.fields[j].type (by unfold kidsN; rw [if_pos hkd]; exact List.mem_map_of_mem (List.getElem_mem hjt))
  have hyn : x.fields[j].name.length ≤ 2500 := (hsx.2.2.2 _ (List.getElem_mem hjt)).1.1
  obtain ⟨y, hyy⟩ : ∃ y, x.fields[j] = y := ⟨_, rfl⟩
  rw [hyy] at hge htk hk0 hka hyn
  have hof := fun B T => rty32_ab l root hss hl f y.type.toNat hka B T
  rw [Int.toNat_of_nonneg hk0] at hof
  have htl : ((x.fields.take j).map (flN l f)).length = j := by simp; omega
  obtain ⟨r0, hr0⟩ : ∃ r, (x.fields.take j).map (flN l f) = r := ⟨_, rfl⟩
  rw [hr0] at htk htl
  rw [hr0]
  obtain ⟨t, ht0⟩ : ∃ t, tyN l f y.type.toNat = t := ⟨_, rfl⟩
  rw [ht0] at hof
  rw [show flN l f y = ⟨nameL y.name, t⟩ by unfold flN; rw [ht0]] at htk
  unfold tyV at hof
  have hcp : (j + 1) * 64 ≤ 140737488355328 := by omega
  have hr4 : rowsSz 4 [[D.str (nameL y.name), .int .i64 t.kind, .str t.name, .sl (t.elem.map tyD)]] = true := rfl
  have hjti : (j : Int) < (x.fields.length : Int) := by omega
  have hT3 : (T ++ [((suN l f i).length, 2), (j, 4)])[M + 1]? = some (j, 4) := by rw [← hM, List.getElem?_append_right (by omega)]; simp
  have hT4 : ∀ q, (T ++ [((suN l f i).length, 2), (j, 4)]).set (M + 1) q = T ++ [((suN l f i).length, 2), q] := fun q => by rw [← hM, List.set_append_right _ _ (by omega)]; simp
  refine goN ?_
  simp only [W, seval, b9, hn, e2, List.length_map]
  refine drXA 19 [] [N, N + 1, N + 2] ?_
  simp (maxSteps := 4000000) only [W, seval, b9, xw, hn, hge, hjt, hjti, List.getElem?_map, fdD_eq, List.length_map]
  refine callX_fn (fun Z => rname_ab y.name hyn _) ?_
  simp (maxSteps := 4000000) only [W, seval, b9, xw, hn, hge, hjt, hjti, List.getElem?_map, fdD_eq, List.length_map]
  refine callX_fn (fun Z => hof _ _) ?_
  simp (maxSteps := 4000000) only [W, seval, b9, xw, hn, mapX_nil, mapX_cons, mapX_sl]
  refine Or.inr ?_
  simp (maxSteps := 4000000) only [W, seval, b9, xw, hn, hM, hT3, hT4, hcp, hr4, htl, paD_snoc, ← htk, List.length_map, mapX_nil, mapX_cons, mapX_sl, Nat.reduceMul]
  refine goN ?_
  simp only [W, seval, b9, hn, hwj]
  exact ihj (j + 1) (by omega) (by omega) _ _ envA rfl
 by_cases k12 : kd = 12
 ·subst k12
  obtain ⟨hk0, hka⟩ := hki x.items (by unfold kidsN; rw [if_neg (by omega), if_pos (.inr hkd)]; exact List.mem_singleton.2 rfl)
  have hof := fun B T => rty32_ab l root hss hl f x.items.toNat hka B T
  rw [Int.toNat_of_nonneg hk0] at hof
  obtain ⟨u, hu⟩ : ∃ u, slT (.mk 2 [] []) = u := ⟨_, rfl⟩
  obtain ⟨t, ht0⟩ : ∃ t, tyN l f x.items.toNat = t := ⟨_, rfl⟩
  have hby := fun B T => rbytes_ab B T
  rw [hu] at hby
  rw [ht0] at hof
  unfold tyV at hof hby
  have hfe : fldsN l f i = [⟨[107], u⟩, ⟨[118], t⟩] := by
   unfold fldsN fldN
   rw [hx, hkd, if_neg (by decide), if_pos rfl, hu, show typN nameL numL l f x.items.toNat = t from ht0]
  refine goN ?_
  simp only [W, seval, b9, hn, e2, hg, hlt, hti, List.length_map, decide_true, decide_false]
  refine callN (hsn _ _) ?_
  refine goN ?_
  simp only [W, seval, b9, hn, decide_true, decide_false]
  refine drXA 8 [] [N, N + 1] ?_
  simp (maxSteps := 4000000) only [W, seval, b9, xw, hn]
  refine callX_fn (fun Z => hby _ _) ?_
  simp (maxSteps := 4000000) only [W, seval, b9, xw, hn]
  refine callX_fn (fun Z => hof _ _) ?_
  simp (maxSteps := 4000000) only [W, seval, b9, xw, hn, mapX_nil, mapX_cons, mapX_sl]
  refine ARun.go 9 ?_
  simp only [W, seval, b9, hn, decide_true, decide_false]
  have ht := hend [⟨[107], u⟩, ⟨[118], t⟩] .full [] (fun _ => hfe.symm)
  exact ARun.weak envA ht
 by_cases k13 : kd = 13
 ·subst k13
  have hlb : x.branches.length ≤ 2500 := hsx.2.2.1
  obtain ⟨p0, hp0⟩ : ∃ p : PaT, (⟨[116, 97, 103], .mk 4 [] []⟩ : PaT) = p := ⟨_, rfl⟩
  have hfe : fldsN l f i = p0 :: x.branches.mapIdx (brN l f) := by
   unfold fldsN fldN
   rw [hx, hkd, if_neg (by decide), if_neg (by decide), hp0]
   rfl
  have hT3 : ∀ q, (T ++ [((suN l f i).length, 2), q])[M + 1]? = some q := fun q => by rw [← hM, List.getElem?_append_right (by omega)]; simp
  have hT4 : ∀ p q, (T ++ [((suN l f i).length, 2), p]).set (M + 1) q = T ++ [((suN l f i).length, 2), q] := fun p q => by rw [← hM, List.set_append_right _ _ (by omega)]; simp
  have hr4 : rowsSz 4 [paD p0] = true := rfl
  have hp1 : [[D.str [116, 97, 103], .int .i64 4, .str [], .sl []]] = [paD p0] := by rw [← hp0]; rfl
  refine goN ?_
  simp only [W, seval, b9, hn, e2, hg, hlt, hti, List.length_map, decide_true, decide_false]
  refine callN (hsn _ _) ?_
  refine ARun.go 22 ?_
  simp only [W, seval, b9, hn, decide_true, decide_false]
  refine ARun.bxTok2 (x := .d (.str sn)) (N + 2) 4 (by omega) (by subst hn; simp [List.getElem?_append_right]) ?_
  have hl1 : List.length (T ++ [((suN l f i).length, 2)]) = M + 1 := by simp [hM]
  rw [hl1, show ∀ X Y Z W : List V, (B ++ [X, Y, Z]).set (N + 2) W = B ++ [X, Y, W] from fun X Y Z W => by subst hn; rw [List.set_append_right _ _ (by omega), show B.length + 2 - B.length = 2 by omega]; rfl, List.append_assoc, List.singleton_append]
  refine goN ?_
  simp only [W, seval, b9, hn, hM, hT3, hT4, hr4, decide_true, decide_false, mapX_nil, mapX_cons, mapX_sl, List.length_nil, List.length_cons, Nat.reduceAdd, Nat.reduceMul, Nat.zero_add, List.nil_append, hp1]
  refine ARun.loopW (fun j : Nat => (envS 123 [(1, .ptr N 0), (4, .sl ((suN l f i).map suD) (.own M)), (5, .d (.int .i64 (i : Int))), (6, .ptr (N + 1) 0), (7, .ptr (N + 2) 0), (9, .d (.int .i64 (j : Int)))], ⟨B ++ [[.d (.sl (l.map ndD)), .d (.int .i64 root)], [.d (.int .i64 13), .d (.str x.name), .d (.sl (ssD x.aliases)), .d (.sl (x.fields.map fdD)), .d (.sl (ssD x.symbols)), .d (.bool x.has), .d (.str x.dflt), .d (.int .i64 x.size), .d (.int .i64 x.items), .d (.sl (isD x.branches))], [.d (.str sn), .sl ((p0 :: (x.branches.mapIdx (brN l f)).take j).map paD) (.own (M + 1))]], T ++ [((suN l f i).length, 2), (j + 1, 4)]⟩)) (fun j => j ≤ x.branches.length) (fun j => x.branches.length - j) 0 (by omega) envA rfl ?_
  rintro j hj1 ihj
  dsimp only at hj1 ihj ⊢
  by_cases hjt : j < x.branches.length
  case neg =>
   have e2 : decide ((j : Int) < (x.branches.length : Int)) = false := decide_eq_false (by omega)
   rw [List.take_of_length_le (by simp; omega)]
   refine ARun.go 11 ?_
   simp only [W, seval, b9, hn, e2, isD_len, decide_true, decide_false]
   have ht := hend (p0 :: x.branches.mapIdx (brN l f)) (.own (M + 1)) [(j + 1, 4)] (fun _ => hfe.symm)
   exact ARun.weak envA ht
  have e2 : decide ((j : Int) < (x.branches.length : Int)) = true := decide_eq_true (by omega)
  have hwj := wrap_in ((j : Int) + 1) (by omega)
  have hge := isD_at hjt
  have htk : p0 :: (x.branches.mapIdx (brN l f)).take (j + 1) = (p0 :: (x.branches.mapIdx (brN l f)).take j) ++ [brN l f j x.branches[j]] := by
   rw [List.take_succ_eq_append_getElem (by simpa using hjt), List.getElem_mapIdx, List.cons_append]
  obtain ⟨hk0, hka⟩ := hki x.branches[j] (by unfold kidsN; rw [if_neg (by omega), if_neg (by omega), if_pos hkd]; exact List.getElem_mem hjt)
  obtain ⟨y, hyy⟩ : ∃ y, x.branches[j] = y := ⟨_, rfl⟩
  rw [hyy] at hge htk hk0 hka
  have hof := fun B T => rty32_ab l root hss hl f y.toNat hka B T
  rw [Int.toNat_of_nonneg hk0] at hof
  have htl : (p0 :: (x.branches.mapIdx (brN l f)).take j).length = j + 1 := by simp; omega
  obtain ⟨r0, hr0⟩ : ∃ r, p0 :: (x.branches.mapIdx (brN l f)).take j = r := ⟨_, rfl⟩
  rw [hr0] at htk htl
  rw [hr0]
  obtain ⟨t, ht0⟩ : ∃ t, tyN l f y.toNat = t := ⟨_, rfl⟩
  rw [ht0] at hof
  obtain ⟨u, hu⟩ : ∃ u, slT t = u := ⟨_, rfl⟩
  have hsl := fun B T => rslice_ab t B T
  rw [hu] at hsl
  rw [show brN l f j y = ⟨numL [98] j, u⟩ by unfold brN; rw [ht0, hu]] at htk
  unfold tyV at hof hsl
  have hcp : (j + 1 + 1) * 64 ≤ 140737488355328 := by omega
  have hr5 : rowsSz 4 [[D.str (numL [98] j), .int .i64 u.kind, .str u.name, .sl (u.elem.map tyD)]] = true := rfl
  have hjti : (j : Int) < (x.branches.length : Int) := by omega
  refine goN ?_
  simp only [W, seval, b9, hn, e2, isD_len]
  refine drXA 14 [] [N, N + 1, N + 2] ?_
  simp (maxSteps := 4000000) only [W, seval, b9, xw, hn, hge, hjt, hjti, isD_len]
  refine callX_fn (fun Z => rnum_ab [98] (by simp) j (by omega) _) ?_
  simp (maxSteps := 4000000) only [W, seval, b9, xw, hn, hge, hjt, hjti, isD_len]
  refine callX_fn (fun Z => hof _ _) ?_
  simp (maxSteps := 4000000) only [W, seval, b9, xw, hn]
  refine callX_fn (fun Z => hsl _ _) ?_
  simp (maxSteps := 4000000) only [W, seval, b9, xw, hn, mapX_nil, mapX_cons, mapX_sl]
  refine Or.inr ?_
  simp (maxSteps := 4000000) only [W, seval, b9, xw, hn, hM, hT3, hT4, hcp, hr5, htl, paD_snoc, ← htk, List.length_map, mapX_nil, mapX_cons, mapX_sl, Nat.reduceMul]
  refine goN ?_
  simp only [W, seval, b9, hn, hwj]
  exact ihj (j + 1) (by omega) (by omega) _ _ envA rfl
 have e9 := decide_eq_false k9
 have e12 := decide_eq_false k12
 have e13 := decide_eq_false k13
 refine goN ?_
 simp only [W, seval, b9, hn, e2, hg, hlt, hti, List.length_map]
 refine callN (hsn _ _) ?_
 refine ARun.go 31 ?_
 simp only [W, seval, b9, hn, e9, e12, e13]
 have ht := hend [] .full [] (fun h => by rw [hhas, e9, e12, e13] at h; exact absurd h (by decide))
 exact ARun.weak envA ht
end Go.Proofs.YtkgbbcnjkojocaaGreatDoor
namespace Go.Proofs.YtkgbbcnjkojocaaGreatDoor
open Go.RowKit Go.Av Go.Ab
set_option linter.unusedSimpArgs false
set_option linter.unusedVariables false
set_option maxRecDepth 100000
set_option linter.defProp false
def b7 := KB Tryz.func7 24
def b5 := KB Tryz.func5 92
set_option maxHeartbeats 8000000 in
theorem rOf_ab (s : ScT) (hs : SmS s) (i : Int) (B : List (List V)) (T : List (Nat × Nat)) : AFn Tryz.prog TabI 7 [scV s, .d (.int .i64 i)] ⟨B, T⟩ (Same (OfR s i) ⟨B, T⟩) := by
 obtain ⟨N, hn⟩ : ∃ N, B.length = N := ⟨_, rfl⟩
 have hr := fun B T => rightD_ab s hs B T
 unfold OfR scV at *
 cases e3 : rightP rjJ zjJ s
 ·rw [Bool.not_false, Bool.or_true, Bool.or_true, if_pos rfl]
  rw [e3] at hr
  refine enS b7 fun hsm => ?_
  simp only [smw] at hsm
  simp only [W, seval, b7, hn]
  refine callN (hr _ _) ?_
  refine goN ?_
  simp only [W, seval, b7, hn]
  refine ret2A b7 (Left.box ?_)
  exact ⟨rfl, rfl⟩
 rw [e3] at hr
 cases e1 : decide (i < 0)
 case true =>
  rw [Bool.true_or, if_pos rfl]
  refine enS b7 fun hsm => ?_
  simp only [smw] at hsm
  simp only [W, seval, b7, hn, e1]
  refine callN (hr _ _) ?_
  refine goN ?_
  simp only [W, seval, b7, hn, e1]
  refine ret2A b7 (Left.box ?_)
  exact ⟨rfl, rfl⟩
 cases e2 : decide ((s.nodes.length : Int) ≤ i)
 case true =>
  rw [Bool.false_or, Bool.true_or, if_pos rfl]
  refine enS b7 fun hsm => ?_
  simp only [smw] at hsm
  simp only [W, seval, b7, hn, e1, e2, List.length_map]
  refine callN (hr _ _) ?_
  refine goN ?_
  simp only [W, seval, b7, hn, e1, e2, List.length_map]
  refine ret2A b7 (Left.box ?_)
  exact ⟨rfl, rfl⟩
 ·rw [Bool.false_or, Bool.false_or, Bool.not_true, if_neg (by decide)]
  have h1 := of_decide_eq_false e1
  have h2 := of_decide_eq_false e2
  have ho := rightP_ord e3
  have hof := fun B T => rty32_ab s.nodes s.root hs.2 (ordered_kids ho).1 (s.nodes.length + 1) i.toNat (arr_ord ho _ _ (by omega) (by omega)) B T
  rw [Int.toNat_of_nonneg (by omega)] at hof
  unfold tyV at hof ⊢
  refine enS b7 fun hsm => ?_
  simp only [smw] at hsm
  simp only [W, seval, b7, hn, e1, e2, List.length_map]
  refine callN (hr _ _) ?_
  refine goN ?_
  simp only [W, seval, b7, hn, e1, e2, List.length_map]
  refine callN (hof _ _) ?_
  refine goN ?_
  simp only [W, seval, b7, hn]
  refine ret2A b7 (Left.box ?_)
  exact ⟨rfl, rfl⟩
def sc0 : ScT := ⟨[⟨13, [], [], [], [], false, [], 0, 0, [1, 2]⟩, ⟨1, [], [], [], [], false, [], 0, 0, []⟩, ⟨3, [], [], [], [], false, [], 0, 0, []⟩], 0⟩
theorem sc0_small : SmS sc0 := by
 refine ⟨by decide, fun n hn => ?_⟩
 unfold sc0 at hn
 simp only [List.mem_cons, List.not_mem_nil, or_false] at hn
 rcases hn with rfl | rfl | rfl <;> exact ⟨by simp, by simp, by simp, fun f hf => absurd hf List.not_mem_nil⟩
theorem sc0_right : rightP rjJ zjJ sc0 = true := by kernel_rfl
theorem sc0_R : StR sc0 = .tup [.d (.sl [[.str [85, 48], .sl [[.str [116, 97, 103], .int .i64 4, .str [], .sl []], [.str [98, 48], .int .i64 8, .str [], .sl [[.int .i64 7, .str [90], .sl []]]], [.str [98, 49], .int .i64 8, .str [], .sl [[.int .i64 3, .str [], .sl []]]]]]]), .d (.int .i64 0)] := by
 unfold StR
 rw [sc0_right, if_pos rfl]
 kernel_rfl
set_option maxHeartbeats 8000000 in
theorem works32_ab (B : List (List V)) (T : List (Nat × Nat)) : AFn Tryz.prog TabI 5 [] ⟨B, T⟩ (Same (.d (.bool true)) ⟨B, T⟩) := by
 obtain ⟨N, hn⟩ : ∃ N, B.length = N := ⟨_, rfl⟩
 have h := fun B T => gStructs_ab sc0 sc0_small B T
 rw [sc0_R] at h
 refine enN b5 ?_
 simp only [W, seval, b5, hn, mapX_nil, mapX_cons, mapX_sl]
 refine callN (AFn.pl (h _ _) (by rfl)) ?_
 refine goN ?_
 simp only [W, seval, b5, hn, List.getElem?_cons_zero, List.getElem?_cons_succ, List.length_cons, List.length_nil, decide_true, Nat.reduceAdd]
 refine retN b5 (Left.none ?_)
 exact ⟨rfl, rfl⟩
def b47 := KB Tryz.func47 26
def b69 := KB Tryz.func69 45
def b48 := KB Tryz.func48 27
def STy (t : TyT) : Prop := ∀ (B : List (List V)) (T : List (Nat × Nat)), AFn Tryz.prog TabI 10 [tyV t, tyV t] ⟨B, T⟩ (Same (.d (.bool true)) ⟨B, T⟩)
set_option maxHeartbeats 4000000 in
theorem sty_step (t : TyT) (h : ∀ u ∈ t.elem, STy u) : STy t := by
 intro B T
 obtain ⟨N, hn⟩ : ∃ N, B.length = N := ⟨_, rfl⟩
 unfold tyV
 refine enS b10 fun hsm => ?_
 simp only [smw] at hsm
 simp only [W, seval, b10, hn, decide_true]
 refine ARun.loopW (fun i : Nat => (envS 46 [(2, .ptr N 0), (3, .ptr (N + 1) 0), (5, .d (.int .i64 (i : Int)))], ⟨B ++ [[.d (.int .i64 t.kind), .d (.str t.name), .d (.sl (t.elem.map tyD))], [.d (.int .i64 t.kind), .d (.str t.name), .d (.sl (t.elem.map tyD))]], T⟩)) (fun i => i ≤ t.elem.length) (fun i => t.elem.length - i) 0 (by omega) envA rfl ?_
 rintro i h1 ih
 dsimp only at h1 ih ⊢
 by_cases hlt : i < t.elem.length
 case neg =>
  have e1 : decide ((i : Int) < (t.elem.length : Int)) = false := decide_eq_false (by omega)
  refine goN ?_
  simp only [W, seval, b10, hn, e1]
  refine retN b10 (Left.box ?_)
  exact ⟨rfl, rfl⟩
 have e1 : decide ((i : Int) < (t.elem.length : Int)) = true := decide_eq_true (by omega)
 have hwi := wrap_in ((i : Int) + 1) (by omega)
 have hg : (t.elem.map tyD)[i]? = some (tyD t.elem[i]) := by simp [hlt]
 have hy := h t.elem[i] (List.getElem_mem hlt)
 obtain ⟨u, hu⟩ : ∃ u, t.elem[i] = u := ⟨_, rfl⟩
 rw [hu] at hg hy
 rw [tyD_eq] at hg
 unfold STy tyV at hy
 refine goN ?_
 simp only [W, seval, b10, hn, e1]
 refine ARun.draw (by kernel_rfl) (by kernel_rfl) (lexQ_ok 60 _ _ ?_)
 simp only [W, seval, b10, hn, hg, hlt]
 refine ⟨_, hy _ _, ?_⟩
 simp only [W, seval, b10]
 refine goN ?_
 simp only [W, seval, b10, hn, hwi]
 exact ih (i + 1) (by omega) (by omega) _ _ envA rfl
mutual
theorem sty_ab : ∀ t : TyT, STy t
 | .mk _ _ es => sty_step _ (sty_all es)
theorem sty_all : ∀ (l : List TyT), ∀ u ∈ l, STy u
 | [], _, h => absurd h List.not_mem_nil
 | y :: l, x, h => by
  rcases List.mem_cons.1 h with e | e
  ·rw [e]; exact sty_ab y
  ·exact sty_all l x e
end
set_option maxHeartbeats 4000000 in
theorem stexts_ab (l : List (List UInt8)) (B : List (List V)) (T : List (Nat × Nat)) : AFn Tryz.prog TabI 47 [.d (.sl (ssD l)), .d (.sl (ssD l))] ⟨B, T⟩ (Same (.d (.bool true)) ⟨B, T⟩) := by
 have hll : (ssD l).length = l.length := by simp [ssD]
 refine enS b47 fun hsm => ?_
 simp only [smw] at hsm
 simp only [W, seval, b47, decide_true]
 refine ARun.loopW (fun i : Nat => (envS 26 [(0, .d (.sl (ssD l))), (1, .d (.sl (ssD l))), (5, .d (.int .i64 (i : Int)))], ⟨B, T⟩)) (fun i => i ≤ l.length) (fun i => l.length - i) 0 (by omega) envA rfl ?_
 rintro i h1 ih
 dsimp only at h1 ih ⊢
 by_cases hlt : i < l.length
 case neg =>
  have e1 : decide ((i : Int) < (l.length : Int)) = false := decide_eq_false (by omega)
  refine goN ?_
  simp only [W, seval, b47, hll, e1]
  refine retN b47 (Left.none ?_)
  exact ⟨rfl, rfl⟩
 have e1 : decide ((i : Int) < (l.length : Int)) = true := decide_eq_true (by omega)
 have hwi := wrap_in ((i : Int) + 1) (by omega)
 have hg : (ssD l)[i]? = some [.str l[i]] := by simp [ssD, hlt]
 refine goN ?_
 simp only [W, seval, b47, hll, e1]
 refine ARun.draw (by kernel_rfl) (by kernel_rfl) (lexQ_ok 60 _ _ ?_)
 simp only [W, seval, b47, hg, hlt, decide_true]
 refine goN ?_
 simp only [W, seval, b47, hwi, Bool.not_true]
 exact ih (i + 1) (by omega) (by omega) _ _ envA rfl
def SEx (x : ExT) : Prop := ∀ (B : List (List V)) (T : List (Nat × Nat)), AFn Tryz.prog TabI 69 [exV x, exV x] ⟨B, T⟩ (Same (.d (.bool true)) ⟨B, T⟩)
set_option maxHeartbeats 4000000 in
theorem sexs_ab (l : List ExT) (h : ∀ u ∈ l, SEx u) (B : List (List V)) (T : List (Nat × Nat)) : AFn Tryz.prog TabI 48 [.d (.sl (l.map exD)), .d (.sl (l.map exD))] ⟨B, T⟩ (Same (.d (.bool true)) ⟨B, T⟩) := by
 refine enS b48 fun hsm => ?_
 simp only [smw] at hsm
 simp only [W, seval, b48, decide_true]
 refine ARun.loopW (fun i : Nat => (envS 27 [(0, .d (.sl (l.map exD))), (1, .d (.sl (l.map exD))), (5, .d (.int .i64 (i : Int)))], ⟨B, T⟩)) (fun i => i ≤ l.length) (fun i => l.length - i) 0 (by omega) envA rfl ?_
 rintro i h1 ih
 dsimp only at h1 ih ⊢
 by_cases hlt : i < l.length
 case neg =>
  have e1 : decide ((i : Int) < (l.length : Int)) = false := decide_eq_false (by omega)
  refine goN ?_
  simp only [W, seval, b48, e1]
  refine retN b48 (Left.none ?_)
  exact ⟨rfl, rfl⟩
 have e1 : decide ((i : Int) < (l.length : Int)) = true := decide_eq_true (by omega)
 have hwi := wrap_in ((i : Int) + 1) (by omega)
 have hg : (l.map exD)[i]? = some (exD l[i]) := by simp [hlt]
 have hy := h l[i] (List.getElem_mem hlt)
 obtain ⟨u, hu⟩ : ∃ u, l[i] = u := ⟨_, rfl⟩
 rw [hu] at hg hy
 rw [exD_eq] at hg
 unfold SEx exV at hy
 refine goN ?_
 simp only [W, seval, b48, e1]
 refine ARun.draw (by kernel_rfl) (by kernel_rfl) (lexQ_ok 60 _ _ ?_)
 simp only [W, seval, b48, hg, hlt]
 refine ⟨_, hy _ _, ?_⟩
 simp only [W, seval, b48]
 refine goN ?_
 simp only [W, seval, b48, hwi]
 exact ih (i + 1) (by omega) (by omega) _ _ envA rfl
set_option maxHeartbeats 4000000 in
theorem sex_step (x : ExT) (h : ∀ u ∈ x.kids, SEx u) : SEx x := by
 intro B T
 obtain ⟨N, hn⟩ : ∃ N, B.length = N := ⟨_, rfl⟩
 have hty := sty_ab x.type
 have htx := stexts_ab x.names
 have hks := sexs_ab x.kids h
 unfold STy tyV at hty
 unfold exV
 refine enN b69 ?_
 simp only [W, seval, b69, hn, decide_true]
 refine callN (hty _ _) ?_
 refine goN ?_
 simp only [W, seval, b69, hn]
 refine callN (htx _ _) ?_
 refine goN ?_
 simp only [W, seval, b69, hn]
 refine callN (hks _ _) ?_
 refine goN ?_
 simp only [W, seval, b69, hn]
 refine retN b69 (Left.box ?_)
 exact ⟨rfl, rfl⟩
mutual
theorem sex_ab : ∀ x : ExT, SEx x
 | .mk _ _ _ _ _ ks => sex_step _ (sex_all ks)
theorem sex_all : ∀ (l : List ExT), ∀ u ∈ l, SEx u
 | [], _, h => absurd h List.not_mem_nil
 | y :: l, x, h => by
  rcases List.mem_cons.1 h with e | e
  ·rw [e]; exact sex_ab y
  ·exact sex_all l x e
end
end Go.Proofs.YtkgbbcnjkojocaaGreatDoor
namespace Go.Ab
open Go.RowKit Go.Av
theorem ARun.smQ {P : Program} {I : Inv} {z : Nat × Nat} {fn : FuncId} {R : V → Mem → Prop} {k : List Item} {env : List V} {S : Mem} (q : Nat) (h : sm (env.getD q .undef) = true → ARun P I z fn k env S R) : ARun P I z fn k env S R :=
 fun b a c w c0 w0 h1 h2 h3 h4 h5 h6 hI => h (EnvR.get h4 q).sm b a c w c0 w0 h1 h2 h3 h4 h5 h6 hI
end Go.Ab
namespace Go.Proofs.YtkgbbcnjkojocaaGreatDoor
open Go.RowKit Go.Av Go.Ab
set_option linter.unusedSimpArgs false
set_option maxRecDepth 100000
set_option linter.defProp false
def b25 := KB Tryz.func25 126
def b24 := KB Tryz.func24 42
def SStm (l : List StT) : Prop := ∀ (B : List (List V)) (T : List (Nat × Nat)), AFn Tryz.prog TabI 25 [.d (.sl (l.map stD)), .d (.sl (l.map stD))] ⟨B, T⟩ (Same (.d (.bool true)) ⟨B, T⟩)
set_option maxHeartbeats 8000000 in
theorem sst_step (l : List StT) (hb : ∀ s ∈ l, SStm s.body) (he : ∀ s ∈ l, SStm s.els) (hc : ∀ s ∈ l, ∀ c ∈ s.cases, SStm c.body) : SStm l := by
 intro B T
 obtain ⟨N, hn⟩ : ∃ N, B.length = N := ⟨_, rfl⟩
 have hN0 : ¬ N < N := by omega
 have hN1 : ¬ N + 1 < N := by omega
 refine enS b25 fun hsm => ?_
 simp only [smw] at hsm
 simp only [W, seval, b25, hn, decide_true]
 refine ARun.fits fun hf => ?_
 refine ARun.loopB (fun i : Nat => (envS 126 [(0, .d (.sl (l.map stD))), (1, .d (.sl (l.map stD))), (5, .d (.int .i64 (i : Int)))], ⟨B, T⟩)) (fun i => i ≤ l.length) (fun i => l.length - i) 0 (by omega) envA rfl ?_
 rintro i h1 ih
 dsimp only at h1 ih ⊢
 by_cases hlt : i < l.length
 case neg =>
  have e1 : decide ((i : Int) < (l.length : Int)) = false := decide_eq_false (by omega)
  refine goN ?_
  simp only [W, seval, b25, hn, e1]
  refine retN b25 (Left.none ?_)
  exact ⟨rfl, rfl⟩
 have e1 : decide ((i : Int) < (l.length : Int)) = true := decide_eq_true (by omega)
 have hwi := wrap_in ((i : Int) + 1) (by omega)
 have hg : (l.map stD)[i]? = some (stD l[i]) := by simp [hlt]
 have hb := hb l[i] (List.getElem_mem hlt)
 have he := he l[i] (List.getElem_mem hlt)
 have hc := hc l[i] (List.getElem_mem hlt)
 obtain ⟨s, hs⟩ : ∃ s, l[i] = s := ⟨_, rfl⟩
 rw [hs] at hg hb he hc
 rw [stD_eq] at hg
 have hty := sty_ab s.type
 unfold STy tyV at hty
 refine goN ?_
 simp only [W, seval, b25, hn, e1, hg, hlt, decide_true]
 refine callN (stexts_ab s.names _ _) ?_
 refine ARun.go 20 ?_
 simp only [W, seval, b25, hn]
 refine callN (hty _ _) ?_
 refine ARun.go 20 ?_
 simp only [W, seval, b25, hn]
 refine callN (sexs_ab s.lefts (fun u _ => sex_ab u) _ _) ?_
 refine ARun.go 20 ?_
 simp only [W, seval, b25, hn]
 refine callN (sexs_ab s.exprs (fun u _ => sex_ab u) _ _) ?_
 refine ARun.go 20 ?_
 simp only [W, seval, b25, hn]
 refine callN (hb _ _) ?_
 refine ARun.go 20 ?_
 simp only [W, seval, b25, hn]
 refine callN (he _ _) ?_
 refine ARun.go 40 ?_
 simp only [W, seval, b25, hn, decide_true, Bool.not_true]
 refine ARun.smQ 83 fun hq => ?_
 change sm (.d (.sl (s.cases.map caD))) = true at hq
 simp only [sm, List.length_map, decide_eq_true_eq] at hq
 refine ARun.loopW (fun j : Nat => (envS 126 [(0, .d (.sl (l.map stD))), (1, .d (.sl (l.map stD))), (5, .d (.int .i64 (i : Int))), (6, .ptr N 0), (7, .ptr (N + 1) 0), (8, .d (.int .i64 (j : Int)))], ⟨B ++ [stB s, stB s], T⟩)) (fun j => j ≤ s.cases.length) (fun j => s.cases.length - j) 0 (by omega) envA rfl ?_
 rintro j m1 ih2
 dsimp only at m1 ih2 ⊢
 unfold stB at ih2 ⊢
 by_cases hj : j < s.cases.length
 case neg =>
  have e3 : decide ((j : Int) < (s.cases.length : Int)) = false := decide_eq_false (by omega)
  refine ARun.goK (k := [_, _, _, _, _]) 60 ?_
  simp only [W, seval, b25, hn, e3, hwi]
  refine ih (i + 1) (by omega) (by omega) _ B _ T rfl ⟨by simp [hn], Nat.le_refl _⟩ hf ?_
  refine AgreeF.env _ ?_
  simp only [agf, seval, hn, List.length_append, List.length_cons, List.length_nil, Nat.zero_add, hN0, hN1]
 have e3 : decide ((j : Int) < (s.cases.length : Int)) = true := decide_eq_true (by omega)
 have hwj := wrap_in ((j : Int) + 1) (by omega)
 have hgj : (s.cases.map caD)[j]? = some [.int .u64 s.cases[j].int, .sl (s.cases[j].body.map stD)] := by simp [hj, caD_eq]
 have hcb := hc s.cases[j] (List.getElem_mem hj)
 generalize s.cases[j] = c at hgj hcb
 refine ARun.goK (k := [_, _]) 30 ?_
 simp only [W, seval, b25, hn, e3]
 refine ARun.draw (by kernel_rfl) (by kernel_rfl) (lexQ_ok 60 _ _ ?_)
 simp only [W, seval, b25, hn, hgj, hj, decide_true, Bool.not_true]
 refine ⟨_, hcb _ _, ?_⟩
 simp only [W, seval, b25]
 refine ARun.goK (k := [_, _, _]) 30 ?_
 simp only [W, seval, b25, hn, hwj]
 exact ih2 (j + 1) (by omega) (by omega) _ _ envA rfl
theorem sst_ab : ∀ (n : Nat) (l : List StT), (∀ s ∈ l, Dp n s) → SStm l
 | 0, l, h => sst_step l (fun s hs => (h s hs).elim) (fun s hs => (h s hs).elim) fun s hs => (h s hs).elim
 | n + 1, l, h => sst_step l (fun s hs => sst_ab n s.body (h s hs).1) (fun s hs => sst_ab n s.els (h s hs).2.1) fun s hs c hc => sst_ab n c.body ((h s hs).2.2 c hc)
set_option maxHeartbeats 4000000 in
theorem spas_ab (l : List PaT) (B : List (List V)) (T : List (Nat × Nat)) : AFn Tryz.prog TabI 24 [.d (.sl (l.map paD)), .d (.sl (l.map paD))] ⟨B, T⟩ (Same (.d (.bool true)) ⟨B, T⟩) := by
 refine enS b24 fun hsm => ?_
 simp only [smw] at hsm
 simp only [W, seval, b24, decide_true]
 refine ARun.loopW (fun i : Nat => (envS 42 [(0, .d (.sl (l.map paD))), (1, .d (.sl (l.map paD))), (5, .d (.int .i64 (i : Int)))], ⟨B, T⟩)) (fun i => i ≤ l.length) (fun i => l.length - i) 0 (by omega) envA rfl ?_
 rintro i h1 ih
 dsimp only at h1 ih ⊢
 by_cases hlt : i < l.length
 case neg =>
  have e1 : decide ((i : Int) < (l.length : Int)) = false := decide_eq_false (by omega)
  refine goN ?_
  simp only [W, seval, b24, e1]
  refine retN b24 (Left.none ?_)
  exact ⟨rfl, rfl⟩
 have e1 : decide ((i : Int) < (l.length : Int)) = true := decide_eq_true (by omega)
 have hwi := wrap_in ((i : Int) + 1) (by omega)
 have hg : (l.map paD)[i]? = some (paD l[i]) := by simp [hlt]
 have hy := sty_ab l[i].type
 obtain ⟨u, hu⟩ : ∃ u, l[i] = u := ⟨_, rfl⟩
 rw [hu] at hg hy
 rw [paD_eq] at hg
 unfold STy tyV at hy
 refine goN ?_
 simp only [W, seval, b24, e1]
 refine ARun.draw (by kernel_rfl) (by kernel_rfl) (lexQ_ok 60 _ _ ?_)
 simp only [W, seval, b24, hg, hlt, decide_true, Bool.not_true]
 refine ⟨_, hy _ _, ?_⟩
 simp only [W, seval, b24]
 refine goN ?_
 simp only [W, seval, b24, hwi]
 exact ih (i + 1) (by omega) (by omega) _ _ envA rfl
end Go.Proofs.YtkgbbcnjkojocaaGreatDoor
namespace Go.Proofs.YtkgbbcnjkojocaaGreatDoor
open Go.RowKit Go.Av Go.Ab
set_option linter.unusedSimpArgs false
set_option maxRecDepth 100000
set_option linter.defProp false
def b11 := KB Tryz.func11 128
set_option maxHeartbeats 8000000 in
theorem spr_ab (pr : PrT) (B : List (List V)) (T : List (Nat × Nat)) : AFn Tryz.prog TabI 11 [prV pr, prV pr] ⟨B, T⟩ (Same (.d (.bool true)) ⟨B, T⟩) := by
 obtain ⟨N, hn⟩ : ∃ N, B.length = N := ⟨_, rfl⟩
 have hN2 : ¬ N + 1 + 1 < N + 1 + 1 := by omega
 have hN0 : N < N + 1 + 1 := by omega
 have hN1 : N + 1 < N + 1 + 1 := by omega
 have hN3 : ¬ N + 1 + 1 + 1 < N + 1 + 1 := by omega
 unfold prV
 refine enS b11 fun hsm => ?_
 simp only [smw] at hsm
 simp only [W, seval, b11, hn, decide_true, Bool.not_true]
 obtain ⟨hsl, hfl⟩ := hsm
 refine ARun.loopW (fun i : Nat => (envS 128 [(2, .ptr N 0), (3, .ptr (N + 1) 0), (5, .d (.int .i64 (i : Int)))], ⟨B ++ [[.d (.sl (pr.structs.map suD)), .d (.sl (pr.funcs.map fuD))], [.d (.sl (pr.structs.map suD)), .d (.sl (pr.funcs.map fuD))]], T⟩)) (fun i => i ≤ pr.structs.length) (fun i => pr.structs.length - i) 0 (by omega) envA rfl ?_
 rintro i h1 ih
 dsimp only at h1 ih ⊢
 by_cases hlt : i < pr.structs.length
 case pos =>
  have e1 : decide ((i : Int) < (pr.structs.length : Int)) = true := decide_eq_true (by omega)
  have hwi := wrap_in ((i : Int) + 1) (by omega)
  have hg : (pr.structs.map suD)[i]? = some (suD pr.structs[i]) := by simp [hlt]
  generalize pr.structs[i] = u at hg
  rw [suD_eq] at hg
  refine goN ?_
  simp only [W, seval, b11, hn, e1]
  refine ARun.draw (by kernel_rfl) (by kernel_rfl) (lexQ_ok 60 _ _ ?_)
  simp only [W, seval, b11, hn, hg, hlt, decide_true, Bool.not_true]
  refine ⟨_, spas_ab u.fields _ _, ?_⟩
  simp only [W, seval, b11]
  refine goN ?_
  simp only [W, seval, b11, hn, hwi]
  exact ih (i + 1) (by omega) (by omega) _ _ envA rfl
 clear ih
 have e1 : decide ((i : Int) < (pr.structs.length : Int)) = false := decide_eq_false (by omega)
 refine goN ?_
 simp only [W, seval, b11, hn, e1]
 refine ARun.fits fun hf => ?_
 refine ARun.loopB (fun i : Nat => (envS 128 [(2, .ptr N 0), (3, .ptr (N + 1) 0), (6, .d (.int .i64 (i : Int)))], ⟨B ++ [[.d (.sl (pr.structs.map suD)), .d (.sl (pr.funcs.map fuD))], [.d (.sl (pr.structs.map suD)), .d (.sl (pr.funcs.map fuD))]], T⟩)) (fun i => i ≤ pr.funcs.length) (fun i => pr.funcs.length - i) 0 (by omega) envA rfl ?_
 clear hlt e1 h1 i
 rintro i h1 ih
 dsimp only at h1 ih ⊢
 by_cases hlt : i < pr.funcs.length
 case neg =>
  have e1 : decide ((i : Int) < (pr.funcs.length : Int)) = false := decide_eq_false (by omega)
  refine goN ?_
  simp only [W, seval, b11, hn, e1]
  refine retN b11 (Left.box ?_)
  exact ⟨rfl, rfl⟩
 have e1 : decide ((i : Int) < (pr.funcs.length : Int)) = true := decide_eq_true (by omega)
 have hwi := wrap_in ((i : Int) + 1) (by omega)
 have hg : (pr.funcs.map fuD)[i]? = some (fuD pr.funcs[i]) := by simp [hlt]
 generalize pr.funcs[i] = f at hg
 rw [fuD_eq] at hg
 have hst := sst_ab (SizeOf.sizeOf f.body) f.body fun s hs => Dp.of_size _ s (Nat.le_of_lt (List.sizeOf_lt_of_mem hs))
 refine goN ?_
 simp only [W, seval, b11, hn, e1, hg, hlt, decide_true, Bool.not_true]
 refine callN (spas_ab f.params _ _) ?_
 refine ARun.go 40 ?_
 simp only [W, seval, b11, hn, decide_true, Bool.not_true]
 refine callN (hst _ _) ?_
 refine ARun.go 40 ?_
 simp only [W, seval, b11, hn, decide_true, Bool.not_true]
 refine ARun.smQ 94 fun hq => ?_
 change sm (.d (.sl (f.results.map tyD))) = true at hq
 simp only [sm, List.length_map, decide_eq_true_eq] at hq
 refine ARun.loopW (fun j : Nat => (envS 128 [(2, .ptr N 0), (3, .ptr (N + 1) 0), (6, .d (.int .i64 (i : Int))), (7, .ptr (N + 2) 0), (8, .ptr (N + 3) 0), (9, .d (.int .i64 (j : Int)))], ⟨B ++ [[.d (.sl (pr.structs.map suD)), .d (.sl (pr.funcs.map fuD))], [.d (.sl (pr.structs.map suD)), .d (.sl (pr.funcs.map fuD))], [.d (.str f.name), .d (.sl (f.params.map paD)), .d (.sl (f.results.map tyD)), .d (.sl (f.body.map stD))], [.d (.str f.name), .d (.sl (f.params.map paD)), .d (.sl (f.results.map tyD)), .d (.sl (f.body.map stD))]], T⟩)) (fun j => j ≤ f.results.length) (fun j => f.results.length - j) 0 (by omega) envA rfl ?_
 rintro j m1 ih2
 dsimp only at m1 ih2 ⊢
 by_cases hj : j < f.results.length
 case neg =>
  have e3 : decide ((j : Int) < (f.results.length : Int)) = false := decide_eq_false (by omega)
  refine ARun.goK (k := [_, _, _, _, _]) 60 ?_
  simp only [W, seval, b11, hn, e3, hwi]
  have hap : ∀ a b x y : List V, B ++ [a, b, x, y] = (B ++ [a, b]) ++ [x, y] := fun a b x y => by simp
  rw [hap]
  refine ih (i + 1) (by omega) (by omega) _ _ _ T rfl ⟨by simp; omega, Nat.le_refl _⟩ hf ?_
  refine AgreeF.env _ ?_
  simp only [agf, seval, hn, List.length_append, List.length_cons, List.length_nil, Nat.zero_add, Nat.reduceAdd, hN0, hN1, hN2, hN3]
 have e3 : decide ((j : Int) < (f.results.length : Int)) = true := decide_eq_true (by omega)
 have hwj := wrap_in ((j : Int) + 1) (by omega)
 have hgj : (f.results.map tyD)[j]? = some (tyD f.results[j]) := by simp [hj]
 generalize f.results[j] = t at hgj
 rw [tyD_eq] at hgj
 have hty := sty_ab t
 unfold STy tyV at hty
 refine ARun.goK (k := [_, _]) 30 ?_
 simp only [W, seval, b11, hn, e3]
 refine ARun.draw (by kernel_rfl) (by kernel_rfl) (lexQ_ok 60 _ _ ?_)
 simp only [W, seval, b11, hn, hgj, hj, decide_true, Bool.not_true]
 refine ⟨_, hty _ _, ?_⟩
 simp only [W, seval, b11]
 refine ARun.goK (k := [_, _, _]) 30 ?_
 simp only [W, seval, b11, hn, hwj]
 exact ih2 (j + 1) (by omega) (by omega) _ _ envA rfl
set_option linter.unusedVariables false
def b3 := KB Tryz.func3 61
theorem OfR_is (s : ScT) (i : Int) : ∃ (t : TyT) (c : Int), OfR s i = .tup [tyV t, .d (.int .i64 c)] := by
 unfold OfR
 split
 ·exact ⟨_, _, rfl⟩
 ·exact ⟨_, _, rfl⟩
theorem StR_is (s : ScT) : ∃ (l : List SuT) (c : Int), StR s = .tup [.d (.sl (l.map suD)), .d (.int .i64 c)] := by
 unfold StR
 split
 ·exact ⟨_, _, rfl⟩
 ·exact ⟨[], _, rfl⟩
set_option maxHeartbeats 8000000 in
theorem tells_ab (s : ScT) (i : Int) : AFn Tryz.prog TabI 3 [scV s, .d (.int .i64 i)] ⟨[], []⟩ (Same (.d (.bool true)) ⟨[], []⟩) := by
 have hg := fun B T => great_few s B T
 obtain ⟨t, c, h1⟩ := OfR_is s i
 obtain ⟨l, k, h2⟩ := StR_is s
 have hty := fun B T => sty_ab t B T
 have hsp := fun B T => spr_ab ⟨l, []⟩ B T
 have hof : SmS s → ∀ B T, AFn Tryz.prog TabI 6 [scV s, .d (.int .i64 i)] ⟨B, T⟩ (Same (OfR s i) ⟨B, T⟩) := fun hs B T => gOf_ab s hs i B T
 have hrf : SmS s → ∀ B T, AFn Tryz.prog TabI 7 [scV s, .d (.int .i64 i)] ⟨B, T⟩ (Same (OfR s i) ⟨B, T⟩) := fun hs B T => rOf_ab s hs i B T
 have hst : SmS s → ∀ B T, AFn Tryz.prog TabI 8 [scV s] ⟨B, T⟩ (Same (StR s) ⟨B, T⟩) := fun hs B T => gStructs_ab s hs B T
 have hrs : SmS s → ∀ B T, AFn Tryz.prog TabI 9 [scV s] ⟨B, T⟩ (Same (StR s) ⟨B, T⟩) := fun hs B T => rStructs_ab s hs B T
 rw [h1] at hof hrf
 rw [h2] at hst hrs
 unfold scV at hg hof hrf hst hrs ⊢
 unfold tyV at hof hrf hty
 unfold prV at hsp
 refine enN b3 ?_
 simp only [W, seval, b3]
 refine callS_fn (hg _ _) ?_
 rintro _ _ ⟨b, rfl, hb, rfl⟩
 cases b
 case true =>
  refine goN ?_
  simp only [W, seval, b3]
  refine callN (works32_ab _ _) ?_
  refine goN ?_
  simp only [W, seval, b3]
  refine retN b3 (Left.empty ?_)
  exact ⟨rfl, rfl⟩
 have hs := hb rfl
 have e1 : decide (c = c) = true := decide_eq_true rfl
 have e2 : decide (k = k) = true := decide_eq_true rfl
 refine goN ?_
 simp only [W, seval, b3]
 refine callN (hof hs _ _) ?_
 refine goN ?_
 simp only [W, seval, b3]
 refine callN (hrf hs _ _) ?_
 refine goN ?_
 simp only [W, seval, b3]
 refine callN (hst hs _ _) ?_
 refine goN ?_
 simp only [W, seval, b3]
 refine callN (hrs hs _ _) ?_
 refine goN ?_
 simp only [W, seval, b3]
 refine callN (hty _ _) ?_
 refine goN ?_
 simp only [W, seval, b3, e1]
 refine callN (AFn.pl (hsp _ _)) ?_
 refine goN ?_
 simp only [W, seval, b3, e2]
 refine callN (works32_ab _ _) ?_
 refine goN ?_
 simp only [W, seval, b3]
 refine retN b3 (Left.empty ?_)
 exact ⟨rfl, rfl⟩
end Go.Proofs.YtkgbbcnjkojocaaGreatDoor
namespace Go.Ab
open Go.ChangeShapes Go.WideShapes Go.ChangeAt Go.RowKit Go.Av
def wfFs (T : TypeId → List D → Prop) : List Field → List D → Prop
 | [], ds => ds = []
 | f :: fs, ds => ∃ a b, ds = a ++ b ∧ T f.type a ∧ wfFs T fs b
def wfT (P : Program) : Nat → TypeId → List D → Prop
 | 0, _, _ => False
 | n + 1, t, ds => match P.underlying t with
  | some .bool => ∃ b, ds = [.bool b]
  | some (.int k) => ∃ m, ds = [.int k m] ∧ (Lit.int k m).wf = true
  | some .string => ∃ s, ds = [.str s] ∧ s.length ≤ 9223372036854775807
  | some (.slice e) => ∃ rows, ds = [.sl rows] ∧ rows.length ≤ 9223372036854775807 ∧ ∀ r ∈ rows, wfT P n e r
  | some (.struct fs) => wfFs (wfT P n) fs.toList ds
  | _ => False
def offsOf (P : Program) : List Field → Nat → Option Nat
 | [], o => some o
 | f :: fs, o => if f.offset = o then offsOf P fs (o + P.cellsOf f.type) else none
def plainT (P : Program) (L : List TypeId) (t : TypeId) : Bool :=
 match P.underlying t with
 | some .bool => true
 | some (.int _) => true
 | some .string => true
 | some (.slice e) => L.contains e && decide (0 < P.cellsOf e)
 | some (.struct fs) => fs.toList.all (fun f => L.contains f.type) && offsOf P fs.toList 0 == some (P.cellsOf t)
 | _ => false
theorem list_of2 {α : Type} (Q : Nat → α → Prop) : ∀ len : Nat, (∀ i < len, ∃ a, Q i a) → ∃ l : List α, l.length = len ∧ ∀ i (hi : i < l.length), Q i l[i]
 | 0, _ => ⟨[], rfl, fun i hi => by cases hi⟩
 | n + 1, h => by
  obtain ⟨l, hl, hq⟩ := list_of2 Q n (fun i hi => h i (by omega))
  obtain ⟨a, ha⟩ := h n (by omega)
  refine ⟨l ++ [a], by simp [hl], fun i hi => ?_⟩
  by_cases hin : i < l.length
  ·rw [List.getElem_append_left hin]
   exact hq i hin
  ·have : i = n := by simp at hi; omega
   subst this
   have hla : (l ++ [a])[i]'hi = a := by
    rw [List.getElem_append_right (by omega)]
    simp
   rw [hla]
   exact ha
theorem cell_in2 {w : World} {a : Addr} {v : Value} (h : w.cell? a = some v) : a.block < w.heap.size ∧ a.spot = none := by
 unfold World.cell? at h
 cases hb : w.heap[a.block]? with
 | none => rw [hb] at h; cases h
 | some o =>
  refine ⟨(Array.getElem?_eq_some_iff.1 hb).1, ?_⟩
  rw [hb] at h
  cases o <;> simp at h
  obtain ⟨h1, _⟩ := h
  exact h1
section
variable {P : Program} {H : Type} {enc : TypeId × Value → H} {W : World} {sp : Nat → Bool} {held : Bool}
abbrev NewM (W : World) : Nat → Nat → Prop := fun g _ => W.heap.size ≤ g
def Opened (P : Program) (W : World) (n : Nat) (t : TypeId) (cs : List Value) (ds : List D) : Prop := wfT P n t ds ∧ ds.length = cs.length ∧ ∀ j (h : j < ds.length), DR (NewM W) W ds[j] (cs.getD j undef)
theorem open_fields (n : Nat) (cs : List Value) : ∀ (l : List Field) (o : Nat), offsOf P l o = some cs.length →
 (∀ f ∈ l, ∃ ds, Opened P W n f.type ((cs.drop f.offset).take (P.cellsOf f.type)) ds) → o ≤ cs.length ∧ ∃ ds, wfFs (wfT P n) l ds ∧ ds.length = cs.length - o ∧ ∀ j (h : j < ds.length), DR (NewM W) W ds[j] (cs.getD (o + j) undef)
 | [], o, h, _ => by
  have : o = cs.length := Option.some.inj h
  exact ⟨by omega, [], rfl, by simp; omega, fun j h => by simp at h⟩
 | f :: fs, o, h, hf => by
  unfold offsOf at h
  split at h
  case isFalse => cases h
  rename_i ho
  obtain ⟨a, a1, a2, a3⟩ := hf f List.mem_cons_self
  obtain ⟨b0, b, b1, b2, b3⟩ := open_fields n cs fs _ h fun g hg => hf g (List.mem_cons_of_mem _ hg)
  rw [ho] at a2 a3
  have ha : a.length = P.cellsOf f.type := by rw [a2, List.length_take, List.length_drop]; omega
  refine ⟨by omega, a ++ b, ⟨a, b, rfl, a1, b1⟩, by rw [List.length_append, b2]; omega, fun j hj => ?_⟩
  rcases Nat.lt_or_ge j a.length with hlt | hge
  ·rw [List.getElem_append_left hlt]
   have := a3 j hlt
   rw [List.getD_eq_getElem?_getD, List.getElem?_take, if_pos (by omega), List.getElem?_drop] at this
   rw [List.getD_eq_getElem?_getD]
   exact this
  ·rw [List.getElem_append_right hge]
   have := b3 (j - a.length) (by rw [List.length_append] at hj; omega)
   rw [show o + P.cellsOf f.type + (j - a.length) = o + j by omega] at this
   exact this
theorem open_D (L : List TypeId) (hL : L.all (plainT P L) = true) : ∀ (fuel : Nat) (t : TypeId) (cs : List Value) (y : DataW H × List MemPlace), L.contains t = true → DataW.trod enc P W 0 sp held fuel t cs = some y → ∃ ds, Opened P W fuel t cs ds := by
 intro fuel
 induction fuel with
 | zero => intro t cs y _ h; simp [DataW.trod] at h
 | succ n ih =>
  intro t cs y ht h
  have hpl := List.all_eq_true.1 hL t (List.contains_iff_mem.1 ht)
  unfold plainT at hpl
  split at hpl
  ·rename_i hu
   obtain ⟨b, rfl, _⟩ := DataW.trod_bool hu h
   refine ⟨[.bool b], ?_, rfl, fun j hj => ?_⟩
   ·simp only [wfT, hu]; exact ⟨b, rfl⟩
   ·have : j = 0 := by simp at hj; exact hj
    subst this; exact .bool b
  ·rename_i k hu
   obtain ⟨m, rfl, _, hw⟩ := DataW.trod_int hu h
   refine ⟨[.int k m], ?_, rfl, fun j hj => ?_⟩
   ·simp only [wfT, hu]; exact ⟨m, rfl, hw⟩
   ·have : j = 0 := by simp at hj; exact hj
    subst this; exact .int k m
  ·rename_i hu
   obtain ⟨s, rfl, _, hs⟩ := DataW.trod_string hu h
   have hsl : s.data.toList.length ≤ 9223372036854775807 := by
    have : s.data.toList.length = s.size := by rw [Array.length_toList]; rfl
    rw [this]
    exact hs
   refine ⟨[.str s.data.toList], ?_, rfl, fun j hj => ?_⟩
   ·simp only [wfT, hu]; exact ⟨_, rfl, hsl⟩
   ·have : j = 0 := by simp at hj; exact hj
    subst this
    have := DR.str (M := NewM W) (w := W) s.data.toList hsl
    exact this
  ·rename_i e hu
   simp only [Bool.and_eq_true, decide_eq_true_eq] at hpl
   obtain ⟨he, hpos⟩ := hpl
   rcases DataW.trod_slice hu h with ⟨rfl, _⟩ | ⟨a, len, cap, elems, rest, n', hn', rfl, _, _, hlc, hcm, hel, hq, _⟩
   ·refine ⟨[.sl []], ?_, rfl, fun j hj => ?_⟩
    ·simp only [wfT, hu]; exact ⟨[], rfl, by simp, by simp⟩
    ·have : j = 0 := by simp at hj; exact hj
     subst this
     exact .sl [] 1 none 0 (fun _ _ => undef) (by omega) (by simp) (by simp) (by omega) (fun h => absurd rfl h) (fun j h => by simp at h)
   ·obtain rfl : n = n' := by omega
    obtain ⟨rows, hrl, hrq⟩ := list_of2 (fun i (ds : List D) => ∃ ci, W.cells? 0 (a.add (i * P.cellsOf e)) (P.cellsOf e) = some ci ∧ Opened P W n e ci ds) len (fun i hi => by
     have hqi := hq i hi
     rw [List.getElem?_eq_getElem (by omega), Option.bind_eq_some_iff] at hqi
     obtain ⟨ci, hci, hti⟩ := hqi
     obtain ⟨ds, hds⟩ := ih e ci _ he hti
     exact ⟨ds, ci, hci, hds⟩)
    subst hrl
    have hci : ∀ i (hi : i < rows.length), (rows[i]).length = P.cellsOf e ∧ ∀ q (h : q < (rows[i]).length), ∃ v, W.cell? (a.add (i * P.cellsOf e + q)) = some v ∧ DR (NewM W) W (rows[i])[q] v := by
     intro i hi
     obtain ⟨ci, h1, h2, h3, h4⟩ := hrq i hi
     have h5 := World.cells?_some h1
     have hlen : ci.length = P.cellsOf e := h5.2.1
     refine ⟨by omega, fun q hq => ?_⟩
     have h6 := h5.2.2 q (by omega)
     rw [Addr.add_add] at h6
     refine ⟨ci[q]'(by omega), by rw [h6]; simp, ?_⟩
     have h7 := h4 q hq
     rw [List.getD_eq_getElem?_getD, List.getElem?_eq_getElem (by omega)] at h7
     exact h7
    refine ⟨[.sl rows], ?_, rfl, fun j hj => ?_⟩
    ·simp only [wfT, hu]
     refine ⟨rows, rfl, by have : maxLen = 9223372036854775807 := rfl; omega, fun r hr => ?_⟩
     obtain ⟨i, hi, rfl⟩ := List.mem_iff_getElem.1 hr
     obtain ⟨ci, _, h2, _⟩ := hrq i hi
     exact h2
    ·have : j = 0 := by simp at hj; exact hj
     subst this
     have haddr : rows ≠ [] → a.block < W.heap.size ∧ a.spot = none := by
      intro hne
      have h0 : 0 < rows.length := by
       rcases Nat.eq_zero_or_pos rows.length with e' | e'
       ·exact absurd (List.eq_nil_of_length_eq_zero e') hne
       ·exact e'
      obtain ⟨hl0, hc0⟩ := hci 0 h0
      obtain ⟨v, hv, _⟩ := hc0 0 (by omega)
      rw [show a.add (0 * P.cellsOf e + 0) = a by rw [Nat.zero_mul]; rfl] at hv
      exact cell_in2 hv
     have := DR.sl (M := NewM W) (w := W) rows (P.cellsOf e) (some a) cap (fun i q => (W.cell? (a.add (i * P.cellsOf e + q))).getD undef) hpos (fun r hr => by
      obtain ⟨i, hi, rfl⟩ := List.mem_iff_getElem.1 hr
      exact (hci i hi).1) hlc (by have : maxLen = 9223372036854775807 := rfl; omega) (fun hne => by
      obtain ⟨h1, h2⟩ := haddr hne
      obtain ⟨g, off, spot⟩ := a
      simp only at h1 h2
      subst h2
      refine ⟨g, off, rfl, fun j hj q hq => ⟨by show ¬ W.heap.size ≤ g; omega, ?_⟩⟩
      obtain ⟨v, hv, _⟩ := (hci j hj).2 q hq
      rw [hv]
      rw [Addr.add_plain, ← Nat.add_assoc] at hv
      exact hv) (fun j hj q hq => by
      obtain ⟨v, hv, hd⟩ := (hci j hj).2 q hq
      rw [hv]
      exact hd)
     exact this
  ·rename_i fs hu
   simp only [Bool.and_eq_true] at hpl
   obtain ⟨hfs, hoff⟩ := hpl
   obtain ⟨xs, n', hn', _, hl, hxl, hf⟩ := DataW.trod_struct hu h
   obtain rfl : n = n' := by omega
   have hoff' : offsOf P fs.toList 0 = some cs.length := by rw [hl]; exact eq_of_beq hoff
   obtain ⟨_, ds, h1, h2, h3⟩ := open_fields (W := W) n cs fs.toList 0 hoff' (fun f hfm => by
    obtain ⟨i, hi, rfl⟩ := List.mem_iff_getElem.1 hfm
    have hi' : i < fs.size := by simpa using hi
    have := hf i fs[i] (by simp [hi'])
    rw [List.getElem?_eq_getElem (by omega)] at this
    exact ih _ _ _ (List.all_eq_true.1 hfs _ hfm) this)
   refine ⟨ds, ?_, by omega, fun j hj => ?_⟩
   ·simp only [wfT, hu]; exact h1
   ·have := h3 j hj
    rwa [Nat.zero_add] at this
  ·cases hpl
end
def cx0 (W : World) (I : Inv) : Cx := ⟨W.heap.size, [], [], I, fun _ _ => False, fun _ _ h => h.elim⟩
theorem DR.first {W : World} {I : Inv} {x : D} {v : Value} (h : DR (NewM W) W x v) : DR (cx0 W I).M W x v := h.mono fun g k v _ hv => ⟨by
 rintro ((hm | hm) | ⟨t, i, off, ht, _⟩)
 ·exact hm
 ·simp [cx0] at hm
 ·simp [cx0] at ht, hv⟩
theorem Rep.first {W : World} {I : Inv} (h2 : I.top ≤ W.heap.size) (hI : ∀ w', Below W.heap.size W w' → I.holds w') : Rep (cx0 W I) W ⟨[], []⟩ :=
 ⟨⟨h2, Nat.le_refl _⟩, rfl, fun i b h => by simp [cx0] at h, fun i j b h => by simp [cx0] at h, rfl, fun t i h => by simp [cx0] at h, fun t t' i i' g off off' h => by simp [cx0] at h, hI⟩
theorem first_agg {P : Program} {W : World} {I : Inv} {n : Nat} {t : TypeId} {cs : Array Value} {ds : List D} (h : Opened P W n t cs.toList ds) : VR (cx0 W I) W (.agg (ds.map .d)) (.agg cs) := by
 obtain ⟨_, h2, h3⟩ := h
 have h2 : ds.length = cs.size := by simpa using h2
 have key : ∀ j, j < ds.length → ∃ h : j < ds.length, DR (cx0 W I).M W ds[j] (cs.getD j undef) := fun j hj => ⟨hj, by
  have := (h3 j hj).first (I := I)
  rw [List.getD_eq_getElem?_getD, Array.getElem?_toList] at this
  have e : cs.getD j undef = (cs[j]?).getD undef := by simp [Array.getD, show j < cs.size by omega]
  rw [e]
  exact this⟩
 refine .agg _ _ (by rw [List.length_map]; omega) (fun j hj => ?_) (fun j hj => ?_)
 ·rw [List.length_map] at hj
  obtain ⟨_, hd⟩ := key j hj
  rw [List.getElem_map]
  exact .d _ _ hd
 ·rw [List.length_map] at hj
  obtain ⟨_, hd⟩ := key j hj
  exact hd.one
theorem AFn.law {P : Program} {I : Inv} {f : FuncId} {args : List V} {b : Bool} (h : AFn P I f args ⟨[], []⟩ (fun v _ => v = .d (.bool b))) {W : World} {xs : Array Value} (h2 : I.top ≤ W.heap.size) (hI : ∀ w', Below W.heap.size W w' → I.holds w') (hs : xs.size = args.length) (hv : ∀ j (h : j < args.length), VR (cx0 W I) W args[j] (xs.getD j undef)) :
 Calls P f xs W fun e w' => e = .returned (.bool b) ∧ Below W.heap.size W w' := by
 refine (h.2 (cx0 W I) W xs hs hv (.first h2 hI) rfl).mono ?_
 rintro e w' ⟨v, x, S', c', rfl, rfl, _, hx, hvr⟩
 cases hvr with
 | d _ _ hd => cases hd with
  | bool _ => exact ⟨rfl, hx.below⟩
end Go.Ab
namespace Go.Proofs.YtkgbbcnjkojocaaGreatDoor
open Go.RowKit Go.Av Go.Ab
set_option maxRecDepth 100000
section
variable {n : Nat} {ds : List D}
theorem wfs_str (h : wfT Tryz.prog n 9 ds) : ∃ s, ds = [.str s] := by
 cases n with
 | zero => exact h.elim
 | succ n =>
  unfold wfT at h
  rw [Tryz.underlying9] at h
  obtain ⟨s, h, _⟩ := h
  exact ⟨s, h⟩
theorem wfs_bool (h : wfT Tryz.prog n 4 ds) : ∃ b, ds = [.bool b] := by
 cases n with
 | zero => exact h.elim
 | succ n =>
  unfold wfT at h
  rw [Tryz.underlying4] at h
  exact h
theorem wfs_int {t : TypeId} {k : IntKind} (hu : Tryz.prog.underlying t = some (.int k)) (h : wfT Tryz.prog n t ds) : ∃ m, ds = [.int k m] := by
 cases n with
 | zero => exact h.elim
 | succ n =>
  unfold wfT at h
  rw [hu] at h
  obtain ⟨m, h, _⟩ := h
  exact ⟨m, h⟩
theorem wfs_sl {t e : TypeId} (hu : Tryz.prog.underlying t = some (.slice e)) {α : Type} (f : α → List D) (ih : ∀ m < n, ∀ r, wfT Tryz.prog m e r → ∃ x, r = f x) (h : wfT Tryz.prog n t ds) : ∃ l : List α, ds = [.sl (l.map f)] := by
 cases n with
 | zero => exact h.elim
 | succ n =>
  unfold wfT at h
  rw [hu] at h
  obtain ⟨rows, rfl, hl, hr⟩ := h
  clear hl
  have : ∃ l : List α, rows = l.map f := by
   induction rows with
   | nil => exact ⟨[], rfl⟩
   | cons r rows ihr =>
    obtain ⟨x, hx⟩ := ih n (by omega) r (hr r List.mem_cons_self)
    obtain ⟨l, hl⟩ := ihr fun y hy => hr y (List.mem_cons_of_mem _ hy)
    exact ⟨x :: l, by rw [hx, hl]; rfl⟩
  obtain ⟨l, rfl⟩ := this
  exact ⟨l, rfl⟩
theorem wfs_struct {t : TypeId} {fs : Array Field} (hu : Tryz.prog.underlying t = some (.struct fs)) (h : wfT Tryz.prog n t ds) : ∃ m, n = m + 1 ∧ wfFs (wfT Tryz.prog m) fs.toList ds := by
 cases n with
 | zero => exact h.elim
 | succ n =>
  unfold wfT at h
  rw [hu] at h
  exact ⟨n, rfl, h⟩
end
theorem wfs_ss {n : Nat} {ds : List D} (h : wfT Tryz.prog n 48 ds) : ∃ l, ds = [.sl (ssD l)] := by
 obtain ⟨l, rfl⟩ := wfs_sl Tryz.underlying48 (fun s : List UInt8 => [D.str s]) (fun m _ r hr => wfs_str hr) h
 exact ⟨l, rfl⟩
theorem wfs_is {n : Nat} {ds : List D} (h : wfT Tryz.prog n 47 ds) : ∃ l, ds = [.sl (isD l)] := by
 obtain ⟨l, rfl⟩ := wfs_sl Tryz.underlying47 (fun i : Int => [D.int .i64 i]) (fun m _ r hr => wfs_int Tryz.underlying3 hr) h
 exact ⟨l, rfl⟩
theorem wfs_js : ∀ (n : Nat) (ds : List D), wfT Tryz.prog n 64 ds → ∃ j, ds = jsD j := by
 intro n
 induction n using Nat.strongRecOn with
 | _ n ih =>
  intro ds h
  obtain ⟨m, rfl, h⟩ := wfs_struct Tryz.underlying64 h
  obtain ⟨a, _, rfl, ha, b, _, rfl, hb, c, _, rfl, hc, d, _, rfl, hd, e, _, rfl, he, rfl⟩ := h
  obtain ⟨k, rfl⟩ := wfs_int Tryz.underlying3 ha
  obtain ⟨i, rfl⟩ := wfs_int Tryz.underlying2 hb
  obtain ⟨s, rfl⟩ := wfs_str hc
  obtain ⟨l, rfl⟩ := wfs_sl Tryz.underlying62 jsD (fun q hq r hr => ih q (by omega) r hr) hd
  obtain ⟨ks, rfl⟩ := wfs_ss he
  exact ⟨.mk k i s l ks, by rw [jsD_eq]; rfl⟩
theorem wfs_fd {n : Nat} {ds : List D} (h : wfT Tryz.prog n 66 ds) : ∃ f, ds = fdD f := by
 obtain ⟨m, rfl, h⟩ := wfs_struct Tryz.underlying66 h
 obtain ⟨a, _, rfl, ha, b, _, rfl, hb, c, _, rfl, hc, d, _, rfl, hd, e, _, rfl, he, rfl⟩ := h
 obtain ⟨s, rfl⟩ := wfs_str ha
 obtain ⟨l, rfl⟩ := wfs_ss hb
 obtain ⟨i, rfl⟩ := wfs_int Tryz.underlying3 hc
 obtain ⟨b, rfl⟩ := wfs_bool hd
 obtain ⟨j, rfl⟩ := wfs_js _ _ he
 exact ⟨⟨s, l, i, b, j⟩, by rw [jsD_eq]; rfl⟩
theorem wfs_nd {n : Nat} {ds : List D} (h : wfT Tryz.prog n 51 ds) : ∃ x, ds = ndD x := by
 obtain ⟨m, rfl, h⟩ := wfs_struct Tryz.underlying51 h
 obtain ⟨a, _, rfl, ha, b, _, rfl, hb, c, _, rfl, hc, d, _, rfl, hd, e, _, rfl, he, f, _, rfl, hf, g, _, rfl, hg, i, _, rfl, hi, j, _, rfl, hj, k, _, rfl, hk, rfl⟩ := h
 obtain ⟨kd, rfl⟩ := wfs_int Tryz.underlying3 ha
 obtain ⟨nm, rfl⟩ := wfs_str hb
 obtain ⟨al, rfl⟩ := wfs_ss hc
 obtain ⟨fs, rfl⟩ := wfs_sl Tryz.underlying49 fdD (fun q _ r hr => wfs_fd hr) hd
 obtain ⟨sy, rfl⟩ := wfs_ss he
 obtain ⟨hs, rfl⟩ := wfs_bool hf
 obtain ⟨df, rfl⟩ := wfs_str hg
 obtain ⟨sz, rfl⟩ := wfs_int Tryz.underlying3 hi
 obtain ⟨it, rfl⟩ := wfs_int Tryz.underlying3 hj
 obtain ⟨br, rfl⟩ := wfs_is hk
 exact ⟨⟨kd, nm, al, fs, sy, hs, df, sz, it, br⟩, rfl⟩
theorem wfs_sc {n : Nat} {ds : List D} (h : wfT Tryz.prog n 24 ds) : ∃ s : ScT, ds = [.sl (s.nodes.map ndD), .int .i64 s.root] := by
 obtain ⟨m, rfl, h⟩ := wfs_struct Tryz.underlying24 h
 obtain ⟨a, _, rfl, ha, b, _, rfl, hb, rfl⟩ := h
 obtain ⟨l, rfl⟩ := wfs_sl Tryz.underlying22 ndD (fun q _ r hr => wfs_nd hr) ha
 obtain ⟨r, rfl⟩ := wfs_int Tryz.underlying3 hb
 exact ⟨⟨l, r⟩, rfl⟩
end Go.Proofs.YtkgbbcnjkojocaaGreatDoor
namespace Go.Av
def textData {H : Type} (zs : List (List UInt8)) : DataW H := .agg (zs.map fun z => .lit (.string z))
theorem cells_of_texts {H : Type} {enc : TypeId × Value → H} {P : Program} {w : World} {base : Nat} {sp : Nat → Bool} {held : Bool} {fuel : Nat} {t e : TypeId} {n : Nat} {cs : List Value} {zs : List (List UInt8)} {p : List MemPlace}
 (ht : P.underlying t = some (.array n e)) (he : P.underlying e = some .string) (hce : P.cellsOf e = 1) (hct : P.cellsOf t = n)
 (h : DataW.trod enc P w base sp held fuel t cs = some (textData zs, p)) : cs = zs.map fun z => Value.string ⟨z.toArray⟩ := by
 cases fuel with
 | zero => simp [DataW.trod] at h
 | succ fuel =>
  simp only [DataW.trod, ht, hce, hct, Nat.mul_one] at h
  split at h
  ·rename_i hl
   obtain ⟨xs, hm, hx⟩ := Option.map_eq_some_iff.1 h
   have hxs : xs.map (·.1) = zs.map fun z => (DataW.lit (.string z) : DataW H) := by
    have := congrArg Prod.fst hx
    simpa [textData] using this
   have hxl : xs.length = n := by simpa using Lib.mapM_length hm
   have hzl : zs.length = n := by
    have := congrArg List.length hxs
    simp at this
    omega
   apply List.ext_getElem?
   intro i
   by_cases hi : i < n
   ·obtain ⟨b, hb, hf⟩ := Lib.mapM_at hm i i (by simp [hi])
    obtain ⟨z, hc, rfl, _⟩ := DataW.trod_string he hf
    have h1 : cs[i]? = some (.string z) := by
     have := congrArg (·[0]?) hc
     simpa [List.getElem?_take, List.getElem?_drop] using this
    have h2 : (xs.map (·.1))[i]? = some (DataW.lit (.string z.data.toList) : DataW H) := by simp [hb]
    rw [hxs] at h2
    simp only [List.getElem?_map, Option.map_eq_some_iff, DataW.lit.injEq, Lit.string.injEq] at h2
    obtain ⟨z', hz', e⟩ := h2
    have ez : z = ⟨z'.toArray⟩ := by
     apply ByteArray.ext
     rw [e]
    simp [h1, hz', ez]
   ·rw [List.getElem?_eq_none (by omega), List.getElem?_eq_none (by simp; omega)]
  ·cases h
theorem texts_of_vars {P : Program} {W : World} {name : String} {zs : List (List UInt8)} {rest : List (String × DataW Unit)} {ps : List MemPlace} {g : Nat} {t e : TypeId} {n : Nat}
 (hg : P.globalNamed name = some g) (hty : (P.globals[g]?).map (·.type) = some t) (ht : P.underlying t = some (.array n e)) (he : P.underlying e = some .string) (hce : P.cellsOf e = 1) (hct : P.cellsOf t = n)
 (h : DataW.LaidVars P W ((name, textData zs) :: rest) ps) : (∃ u fr, W.heap[g]? = some (.cells (zs.map fun z => Value.string ⟨z.toArray⟩).toArray u fr)) ∧ ∃ q, DataW.LaidVars P W rest q := by
 obtain ⟨g', t', cs, fuel, p, q, hg', ht', hvar, hd, hr, _⟩ := h
 obtain rfl := Option.some.inj (hg.symm.trans hg')
 obtain rfl := Option.some.inj (hty.symm.trans ht')
 refine ⟨?_, q, hr⟩
 have hcs := cells_of_texts ht he hce hct hd
 have ecs : cs = (zs.map fun z => Value.string ⟨z.toArray⟩).toArray := by rw [← hcs]
 unfold World.var? at hvar
 rw [hg, Option.bind_some] at hvar
 split at hvar
 ·rename_i c u fr hh
  obtain rfl := Option.some.inj hvar
  exact ⟨u, fr, by rw [hh, ecs]⟩
 ·cases hvar
end Go.Av
namespace Go.Proofs.YtkgbbcnjkojocaaGreatDoor
open Go.ChangeShapes Go.WideShapes Go.ChangeAt Go.RowKit Go.Av
theorem laidOut : laidOutB Tryz.prog = true := by kernel_rfl
theorem kept_arg {H : Type} {enc : TypeId × Value → H} {t : TypeId} {W W' : World} {v : Value} {d : DataW H} {ps : List MemPlace} (hr : Tryz.prog.readableRec t = true) (hrow : t < Tryz.prog.types.size)
 (h : DataW.Trod enc Tryz.prog W 0 (fun _ => true) true t v d ps) (hb : Below W.heap.size W W') (hlt : ∀ x ∈ ps, x.block < W.heap.size) : DataW.Trod enc Tryz.prog W' 0 (fun b => decide (b < W.heap.size)) true t v d ps :=
 Below.trod laidOut hr hrow h hb hlt
end Go.Proofs.YtkgbbcnjkojocaaGreatDoor
namespace Go.Proofs.YtkgbbcnjkojocaaGreatDoor.gentypeTells
open Go.ChangeShapes Go.WideShapes Go.ChangeAt Go.RowKit Go.Av Go.Ab
open Go.ChangeMaps (open_string shut_string)
set_option linter.unusedVariables false
theorem own : ownKnob Tryz.prog.godebug = none := by kernel_rfl
theorem tab {W : World} (h : laidMetH Tryz.prog Rows.gentypeTellsRow.laid W) : TabN W := by
 have h' : laidMet Tryz.prog Rows.gentypeTellsRow.laid W := h
 obtain ⟨ps, hv, _⟩ := h'
 obtain ⟨⟨u, fr, h1⟩, _⟩ := texts_of_vars (zs := wordsN) (g := 0) (t := 122) (e := 9) (n := 15) (by kernel_rfl) (by kernel_rfl) Tryz.underlying122 Tryz.underlying9 (by kernel_rfl) (by kernel_rfl) hv
 exact ⟨u, fr, h1⟩
def schL : List TypeId := [3, 2, 9, 4, 48, 47, 64, 62, 66, 49, 51, 22, 24]
theorem schL_ok : schL.all (plainT Tryz.prog schL) = true := by kernel_rfl
noncomputable def laidWorld (os : Os) : World := World.laidAll Tryz.prog os Rows.gentypeTellsRow.laid
theorem laid_met (os : Os) : laidMet Tryz.prog Rows.gentypeTellsRow.laid ((laidWorld os).forCall (fun _ _ => 0) ⟨#[], #[Value.agg #[.slice none 0 0, .int .i64 0], .int .i64 0], []⟩).memory :=
 laidMet_laidAll _ (by kernel_rfl) (by kernel_rfl)
theorem reads (os : Os) {H : Type} (enc : TypeId × Value → H) : ∃ places, DataW.whole enc Tryz.prog ((laidWorld os).forCall (fun _ _ => 0) ⟨#[], #[Value.agg #[.slice none 0 0, .int .i64 0], .int .i64 0], []⟩).memory Tryz.f3.params.toList Rows.gentypeTellsSpec.vars false #[Value.agg #[.slice none 0 0, .int .i64 0], .int .i64 0].toList 8 = some ([.agg [.nil, .lit (.int .i64 0)], .lit (.int .i64 0)], [], places) :=
 ⟨[], by kernel_rfl⟩
set_option maxRecDepth 100000 in
theorem lifted (os : Os) (started : os.Started) (H : Type) (enc : TypeId × Value → H) (F : Stop.Interp) :
 ReturnsInHanded {} Tryz.checked os 3 .any ((OpenSpec.ofChange Rows.gentypeTellsSpec).preRow enc Tryz.prog Tryz.f3 Rows.gentypeTellsRow.domain false Rows.gentypeTellsRow.laid) (((OpenSpec.ofChange Rows.gentypeTellsSpec).at F).post enc Tryz.prog Tryz.f3 false true false false) := by
 obtain ⟨places, hx⟩ := reads os enc
 refine returnsInHanded_of_row (C := Tryz.checked) (s := OpenSpec.ofChange Rows.gentypeTellsSpec) own started (by kernel_rfl) Tryz.func3
  (witness_row_at (enc := enc) (C := Tryz.checked) false (laidWorld os) #[Value.agg #[.slice none 0 0, .int .i64 0], .int .i64 0] (World.laidAll_os _ _ _) (by kernel_rfl) (by kernel_rfl) (by kernel_rfl)
   (OpenSpec.preRow_of_cond 8 hx (by kernel_rfl) (fun k hk => by cases hk) (by kernel_rfl) (laid_met os))) ?_
 intro W base args ds gs before hval hW _ _ _ hL _ _
 have hW' := hW
 obtain ⟨p, q, hA0, hV, rfl, hfz, hnd⟩ := hW
 have hA : DataW.TrodAll enc Tryz.prog W 0 (fun _ => true) true Tryz.f3.params.toList args.toList ds p := hA0
 rw [Tryz.params3] at hA hval
 obtain ⟨v0, vs0, d0, ds0, p0, q0, hargs, rfl, rfl, h0, r0⟩ := trodAll_cons hA
 obtain ⟨v1, vs1, d1, ds1, p1, q1, rfl, rfl, rfl, h1, r1⟩ := trodAll_cons r0
 obtain ⟨rfl, rfl, rfl⟩ := trodAll_nil r1
 obtain rfl : args = #[v0, v1] := by cases args; simp_all
 obtain ⟨rfl, rfl⟩ := trodVars_none hV
 have hlt : ∀ x ∈ (p0 ++ (p1 ++ [])), x.block < W.heap.size := fun x hx => by simpa using hW'.lt x (by simpa using hx)
 obtain ⟨c0, rfl, _⟩ := okWide_struct Tryz.underlying24 (hval 0 24 v0 rfl rfl)
 obtain ⟨u0, g0⟩ := h0
 obtain ⟨y0, o0⟩ := open_D (W := W) (enc := enc) schL schL_ok u0 24 c0.toList _ (by kernel_rfl) g0
 have h0 := (⟨u0, g0⟩ : DataW.Trod enc Tryz.prog W 0 (fun _ => true) true 24 (.agg c0) d0 p0)
 have q0 := first_agg (I := TabI) o0
 obtain ⟨x0, rfl⟩ := wfs_sc o0.1
 obtain ⟨a1, rfl, rfl, rfl, w1⟩ := open_int Tryz.underlying3 (hval 1 3 v1 rfl rfl) h1
 clear hA0 hval
 simp only [List.append_nil] at hW'
 have hmx : maxLen = 9223372036854775807 := rfl
 have hT := tab hL
 refine (((tells_ab x0 a1).mono fun _ _ h => h.1).law (W := W) (xs := #[.agg c0, .int .i64 a1]) (show 0 + 1 ≤ W.heap.size by have := hT.size; omega) (fun w hb => hT.below hb) rfl (fun j hj => ?_)).mono fun e W' ⟨he, bel⟩ => ?_
 ·match j, hj with
  | 0, _ => exact q0
  | 1, _ => exact .d _ _ (.int _ _)
 subst he
 exact ⟨_, rfl, _, _, _, [], _, [], hW', trodAll_mk1 (shut_bool Tryz.underlying4 _), (trodAll_cons_mk (kept_arg (by kernel_rfl) (of_decide_eq_true (by kernel_rfl)) h0 bel (fun x hx => hlt x (by simp [hx]))) (trodAll_cons_mk (shut_int Tryz.underlying3 w1) trodAll_mk0)), rfl, bel.frame _, fun h => by cases h⟩
theorem said : Rows.GentypeTellsSaid :=
 OpenClaim.holds_of_cond 3 Tryz.f3 rfl rfl rfl rfl rfl rfl rfl ⟨rfl, rfl, rfl, rfl, rfl⟩ rfl rfl rfl rfl rfl (by kernel_rfl) Tryz.func3 (by kernel_rfl)
  (of_decide_eq_true (by kernel_rfl)) (by unfold Func.isWrapper; first | (rw [if_pos (by decide +kernel)]; kernel_rfl) | (rw [if_neg (by decide +kernel)]; exact ⟨rfl, rfl⟩))
  (fun os started H enc _ F => by rw [OpenClaim.pre_eq_preRow]; exact lifted os started H enc F)
theorem plain (f : FuncId) (fn : Func) (hf : Tryz.pinned.checked.prog.funcNamed "avocet/avocetlaw32.GentypeTells" = some f) (hfn : Tryz.pinned.checked.prog.funcs[f]? = some fn) :
 false = Tryz.pinned.checked.prog.looks [] ∧ ∀ (j : Nat) t, fn.params[j]? = some t → Tryz.pinned.checked.prog.wantsStandIn t = false := by
 obtain rfl : f = 3 := Option.some.inj ((show Tryz.prog.funcNamed "avocet/avocetlaw32.GentypeTells" = some 3 by kernel_rfl).symm.trans hf) |>.symm
 obtain rfl : fn = Tryz.f3 := (Option.some.inj (Tryz.func3.symm.trans hfn)).symm
 refine ⟨by kernel_rfl, fun j t ht => ?_⟩
 rw [Tryz.params3] at ht
 have hm := Array.mem_of_getElem? ht
 have : t = 24 ∨ t = 3 := by simpa using hm
 rcases this with rfl | rfl
 ·exact (show Tryz.prog.wantsStandIn 24 = false by kernel_rfl)
 ·exact (show Tryz.prog.wantsStandIn 3 = false by kernel_rfl)
theorem proved : Rows.GentypeTellsCardSaid :=
 Claim7.holds_tied_plain_at .later [] _ _ _ _ said (fun _ h => by cases h) (by kernel_rfl) (fun _ h => by cases h) gentypeTells_row_tie rfl ⟨rfl, rfl⟩ (by kernel_rfl) rfl plain (by kernel_rfl)
#print axioms proved
end Go.Proofs.YtkgbbcnjkojocaaGreatDoor.gentypeTells
