/- Proved: GoprintOne, for any text: no condition. Part 4 of 6 of the proof. -/
import Derived.Test.YtfaoamebphckbaaGreatDoorGoprintOnec
namespace Go.Proofs.YtfaoamebphckbaaGreatDoor
open Go.RowKit Go.Av Go.Ab
section
variable {bs : List UInt8} {f : FuncId} {ar : List V} {s s' : Ps} {v : V} {c : Nat} {B J : List (List V)} {T : List (Nat × Nat)} {env : List V}
theorem PP.wit {z : Nat × Nat} {fn : FuncId} {k : List Item} {R : V → Mem → Prop} (h : PP bs f ar s v s') (hc : c < B.length) (hok : OkP bs s) (ha : ∀ x ∈ V.ptr c 0 :: ar, ∃ y : Operand, evalV TabI env y = x) (hk : OkP bs s' → ARun Tryz.prog TabI z fn k env ⟨B.set c (bxP bs s) ++ J, T⟩ R) : ARun Tryz.prog TabI z fn k env ⟨B.set c (bxP bs s) ++ J, T⟩ R :=
 ARun.witness (PF.fn (i := 0) h hc hok) ha fun ⟨_, _, _, _, hok', _⟩ => hk hok'
theorem PP.lexc {W : List Nat} {MM : Mem → Prop} {K : List V → Mem → Prop} {o : Oper} {l : List Oper} {k : Nat} (h : PP bs f ar s v s') (hc : c < B.length) (hok : OkP bs s) (hok' : OkP bs s') (hS : MM ⟨B.set c (bxP bs s) ++ J, T⟩) (hk : W.contains k = true) (hg : o.guard = none)
 (h1 : ∃ q f0, o.op = .call q ∧ q.callee = .value f0 ∧ evalV TabI env f0 = .func f [] [] ∧ q.args.toList.map (evalV TabI env) = .ptr c 0 :: ar) (h5 : lexC Tryz.prog TabI W MM K l (k + 1) (setV env o.dst v) ⟨B.set c (bxP bs s') ++ J, T⟩) : lexC Tryz.prog TabI W MM K (o :: l) k env ⟨B.set c (bxP bs s) ++ J, T⟩ := by
 obtain ⟨q, f0, e1, e2, e3, e4⟩ := h1
 refine lexC_c (Q := fun v' m => v' = v ∧ ∃ i', OkP bs s' ∧ m = ⟨B.set c (bxP bs s') ++ J, T⟩) hS hk hg e1 e2 e3 ⟨_, _, rfl, 0, hok', rfl⟩ ?_ ?_
 ·rw [e4, List.nil_append, List.append_nil]
  exact PF.fn (i := 0) h hc hok
 ·rintro v' S' ⟨rfl, _, _, rfl⟩
  exact h5
end
end Go.Proofs.YtfaoamebphckbaaGreatDoor
namespace Go.Ab
open Go.RowKit Go.Av
section
variable {P : Program} {I : Inv} {z : Nat × Nat} {fn : FuncId} {R : V → Mem → Prop} {k : List Item} {env : List V}
theorem ARun.after {α : Type} (pre K : List Item) (st : α → List V × Mem) (ok : α → Prop) {S : Mem} (h1 : ∀ a, ok a → ARun P I z fn K (st a).1 (st a).2 R)
 (h2 : ∀ K', (∀ a, ok a → ∀ env' S', EnvW (st a).1 env' → (st a).2 = S' → ARun P I z fn K' env' S' R) → ARun P I z fn (pre ++ K') env S R) : ARun P I z fn (pre ++ K) env S R :=
 h2 K fun a ha _ _ he hS => ARun.weak he (hS ▸ h1 a ha)
theorem Rep.rebox {c : Cx} {w : World} {B : List (List V)} {T : List (Nat × Nat)} (h : Rep c w ⟨B, T⟩) {i : Nat} {vs us : List V} (hi : B[i]? = some vs) (hl : us.length = vs.length) (hv : ∀ j (hj : j < vs.length) (hj' : j < us.length) x, VR c w vs[j] x → VR c w us[j] x) : Rep c w ⟨B.set i us, T⟩ := by
 have hiB := (List.getElem?_eq_some_iff.1 hi).1
 refine ⟨h.hB, by simpa using h.len, fun j b hj => ?_, h.inj, h.toks, h.tok, h.disj, h.inv⟩
 obtain ⟨a, cs, Ty, hh, vs', e1, e2, e3⟩ := h.box j b hj
 have e1 : B[j]? = some vs' := e1
 by_cases e : j = i
 ·subst e
  rw [hi] at e1
  obtain rfl := Option.some.inj e1
  exact ⟨a, cs, Ty, hh, us, by show (B.set j us)[j]? = some us; simp [hiB], by omega, fun q hq => ⟨hv q (by omega) hq _ (e3 q (by omega)).1, (e3 q (by omega)).2⟩⟩
 ·exact ⟨a, cs, Ty, hh, vs', by show (B.set i us)[j]? = some vs'; rw [List.getElem?_set_ne (fun h => e h.symm)]; exact e1, e2, e3⟩
theorem VR.plain {c : Cx} {w : World} {rows : List (List D)} {tk : Tok} {v : Value} (h : VR c w (.sl rows tk) v) : VR c w (.d (.sl rows)) v := by
 cases h with
 | full _ a h ha => exact .d _ _ h
 | own _ t a cap i h ht hr hn hl => exact .d _ _ h
def LessL (vs us : List V) : Prop := us.length = vs.length ∧ ∀ j (hj : j < vs.length) (hj' : j < us.length), us[j] = vs[j] ∨ ∃ rows tk, vs[j] = .sl rows tk ∧ us[j] = .d (.sl rows)
theorem LessL.nil : LessL [] [] := ⟨rfl, fun j hj => absurd hj (Nat.not_lt_zero j)⟩
theorem LessL.same {v : V} {vs us : List V} (h : LessL vs us) : LessL (v :: vs) (v :: us) := ⟨by simp [h.1], fun j hj hj' => by
 cases j with
 | zero => exact .inl rfl
 | succ j => exact h.2 j (by simpa using hj) (by simpa using hj')⟩
theorem LessL.sl {rows : List (List D)} {tk : Tok} {vs us : List V} (h : LessL vs us) : LessL (.sl rows tk :: vs) (.d (.sl rows) :: us) := ⟨by simp [h.1], fun j hj hj' => by
 cases j with
 | zero => exact .inr ⟨rows, tk, rfl, rfl⟩
 | succ j => exact h.2 j (by simpa using hj) (by simpa using hj')⟩
theorem ARun.plainB {B : List (List V)} {T : List (Nat × Nat)} (i : Nat) (vs us : List V) (hi : B[i]? = some vs) (hl : LessL vs us) (h : ARun P I z fn k env ⟨B.set i us, T⟩ R) : ARun P I z fn k env ⟨B, T⟩ R := by
 intro b a c w c0 w0 h1 h2 h3 h4 h5 h6 hI
 refine h b a c w c0 w0 h1 h2 h3 h4 (h5.rebox hi hl.1 fun j hj hj' x hx => ?_) h6 hI
 rcases hl.2 j hj hj' with e | ⟨rows, tk, e1, e2⟩
 ·rw [e]; exact hx
 ·rw [e2]; rw [e1] at hx; exact hx.plain
theorem ARun.plainJ {B J : List (List V)} {T : List (Nat × Nat)} (q : Nat) (vs us : List V) (hi : J[q]? = some vs) (hl : LessL vs us) (h : ARun P I z fn k env ⟨B ++ J.set q us, T⟩ R) : ARun P I z fn k env ⟨B ++ J, T⟩ R := by
 refine ARun.plainB (B.length + q) vs us (by rw [bx_loc rfl]; exact hi) hl ?_
 rw [bx_set_loc rfl]
 exact h
theorem ARun.tokenB {B : List (List V)} {T : List (Nat × Nat)} (i q : Nat) (vs : List V) (rows : List (List D)) (hi : B[i]? = some vs) (hq : vs[q]? = some (.sl rows .full)) (sz : Nat) (h0 : 0 < sz) (hsz : rowsSz sz rows = true)
 (h : ARun P I z fn k env ⟨B.set i (vs.set q (.sl rows (.own T.length))), T ++ [(rows.length, sz)]⟩ R) : ARun P I z fn k env ⟨B, T⟩ R := by
 intro b a c w c0 w0 h1 h2 h3 h4 h5 h6 hI
 have hiB := (List.getElem?_eq_some_iff.1 hi).1
 obtain ⟨hqv, hq'⟩ := List.getElem?_eq_some_iff.1 hq
 have hlen : B.length = c.ρ.length := h5.len
 obtain ⟨b0, hb0⟩ : ∃ b0, c.ρ[i]? = some b0 := ⟨_, List.getElem?_eq_getElem (by omega)⟩
 obtain ⟨_, cs, Ty, hh, vs', e1, e2, e3⟩ := h5.box i b0 hb0
 have e1 : B[i]? = some vs' := e1
 rw [hi] at e1
 obtain rfl := Option.some.inj e1
 have hv := (e3 q hqv).1
 rw [hq'] at hv
 obtain ⟨c', r1, r2, r3⟩ := h5.token hv sz h0 (rowsSz_iff hsz)
 refine h b a c' w c0 w0 h1 h2 h3 (h4.ext r2) ?_ (h6.trans r2) ⟨r2.I.trans hI.1, hI.2⟩
 have hb' := r2.keeps.ρ i b0 hb0
 have hiB' : (⟨B, T ++ [(rows.length, sz)]⟩ : Mem).boxes[i]? = some vs := hi
 refine ⟨r1.hB, by simpa using r1.len, fun j bj hj => ?_, r1.inj, r1.toks, r1.tok, r1.disj, r1.inv⟩
 obtain ⟨a', cs', Ty', hh', us, f1, f2, f3⟩ := r1.box j bj hj
 have f1 : B[j]? = some us := f1
 by_cases e : j = i
 ·subst e
  rw [hi] at f1
  obtain rfl := Option.some.inj f1
  rw [hb'] at hj
  obtain rfl := Option.some.inj hj
  rw [hh] at hh'
  obtain ⟨rfl, _⟩ : cs = cs' ∧ True := by
   have := Option.some.inj hh'
   simp at this
   exact ⟨this.1, trivial⟩
  refine ⟨a', cs, Ty', by rw [hh]; exact hh', vs.set q (.sl rows (.own T.length)), by show (B.set j _)[j]? = _; simp [hiB], by simp [e2], fun m hm => ?_⟩
  have hm' : m < vs.length := by simpa using hm
  refine ⟨?_, (f3 m hm').2⟩
  by_cases hmq : m = q
  ·subst hmq
   rw [List.getElem_set_self]
   exact r3
  ·rw [List.getElem_set_ne (fun h => hmq h.symm)]
   exact (f3 m hm').1
 ·exact ⟨a', cs', Ty', hh', us, by show (B.set i _)[j]? = _; rw [List.getElem?_set_ne (fun h => e h.symm)]; exact f1, f2, f3⟩
end
end Go.Ab
namespace Go.Proofs.YtfaoamebphckbaaGreatDoor
open Go.RowKit Go.Av Go.Ab
set_option linter.unusedSimpArgs false
set_option maxRecDepth 100000
set_option linter.defProp false
def c189 := by
 have c := KK_of Tryz.f189 (by conv => lhs; cbv)
 dsimp only [KK, KxP, doO, opO, List.map_cons, List.map_nil, List.toList_toArray] at c
 exact c
theorem b189 : FnIs Tryz.prog 189 Tryz.f189 40 := ⟨Tryz.func189, by kernel_rfl⟩
def EOk (bs : List UInt8) (E : EP) (n : Nat) : Prop := ∀ s, mu s < n → PP bs 173 [.d (.int .i64 1)] s (exV (E s).1) (E s).2
theorem rows8 (x : ExT) : [D.int .i64 x.kind, .str x.text, .int .u64 x.int, .int .i64 x.type.kind, .str x.type.name, .sl (x.type.elem.map tyD), .sl (ssD x.names), .sl (x.kids.map exD)] = exD x := (exD_eq x).symm
theorem ex1 (x : ExT) : rowsSz 8 [exD x] = true := rowsSz_ex [x]
set_option maxHeartbeats 2000000 in
theorem list_pp (bs : List UInt8) (h0 : True) (hl : bs.length ≤ 400000) {E : EP} {n : Nat} (hE : EOk bs E n) (hd : DnE E) (en : List UInt8) (comma : Bool) (M : Nat) (s : Ps) (hn1 : mu s < n) (hM : mu s < M) :
 PP bs 189 [.d (.str en), .d (.bool comma)] s (.d (.sl ((listP E en comma M s).1.map exD))) (listP E en comma M s).2 := by
 intro c B T i hc hok
 obtain ⟨N, hn⟩ : ∃ N, B.length = N := ⟨_, rfl⟩
 obtain ⟨t, ht⟩ : ∃ t, T.length = t := ⟨_, rfl⟩
 have hi : c < N := by omega
 have hmu := hok.mu_le
 obtain ⟨⟨l0, s0⟩, hL⟩ : ∃ r, listL E en comma M s = r := ⟨_, rfl⟩
 unfold listP
 rw [hL]
 dsimp only
 refine b189.go 14 rfl fun hsm => ?_
 simp only [smw] at hsm
 simp only [W, seval, c189, hn, hi]
 refine ARun.token 7 [] (by rfl) 8 (by omega) rfl ?_
 simp only [envS_put, ht]
 refine ARun.after [_, _] _ (fun _ : Unit => (envS 40 [(0, .ptr c 0), (1, .d (.str en)), (7, .sl (l0.map exD) (.own t))], ⟨B.set c (bxP bs s0), T ++ [(l0.length, 8)]⟩)) (fun _ => OkP bs s0) ?_ ?_
 ·rintro ⟨⟩ hok0
  refine ARun.go 20 ?_
  simp only [W, seval, c189]
  first
   | refine PP.call0 (want_pp bs h0 hl s0 en) hc hok0 fun hok1 => ?_
   | refine PP.call (want_pp bs h0 hl s0 en) hc hok0 fun hok1 => ?_
  refine ARun.go 20 ?_
  simp only [W, seval, c189]
  refine ARun.ret Tryz.func189 rfl (PF.retK (fun _ _ => rfl) ?_)
  refine ⟨?_, 0, hok1, rfl⟩
  simp only [W, seval, c189, wk, ht]
  simp
 intro K' hend
 refine ARun.loopW (fun a : List ExT × Ps => (envS 40 [(0, .ptr c 0), (1, .d (.str en)), (2, .d (.bool comma)), (7, .sl (a.1.map exD) (.own t))], ⟨B.set c (bxP bs a.2), T ++ [(a.1.length, 8)]⟩)) (fun a => OkP bs a.2 ∧ mu a.2 < n ∧ a.1.length + mu a.2 ≤ mu s ∧ ∃ m, mu a.2 < m ∧ (a.1 ++ (listL E en comma m a.2).1, (listL E en comma m a.2).2) = (l0, s0)) (fun a => mu a.2) ([], s) ⟨hok, hn1, by simp, M, hM, by dsimp only; rw [hL, List.nil_append]⟩ ?_ rfl ?_
 ·skip
  refine Agree.env _ ?_
  simp only [agw, seval, hn]
  trivial
 rintro ⟨l, s1⟩ ⟨hok1, hn2, hle, m, hm, hr⟩ ih
 dsimp only at hok1 hn2 hle hm hr ih ⊢
 cases m with
 | zero => omega
 | succ m =>
 rw [listL] at hr
 by_cases hc1 : s1.e = 0 ∧ isP s1 en = false
 ·rw [if_pos hc1] at hr
  have e1 := decide_eq_true hc1.1
  refine ARun.goK (k := [_, _, _]) 60 ?_
  simp only [W, seval, c189, hn, hi, bxP, e1]
  refine PP.call0 (is_pp bs s1 en) hc hok1 fun _ => ?_
  refine ARun.goK 60 ?_
  simp only [W, seval, c189, hc1.2]
  obtain ⟨⟨x, s2⟩, hx⟩ : ∃ r, E s1 = r := ⟨_, rfl⟩
  have hpx := hE s1 hn2
  have hdx := (hd.at hx).le
  rw [hx] at hpx hr
  dsimp only at hpx hr
  refine PP.call0 hpx hc hok1 fun hok2 => ?_
  have hcap : (l.length + 1) * 128 ≤ 140737488355328 := by omega
  have hmap : l.map exD ++ [exD x] = (l ++ [x]).map exD := by simp
  unfold exV
  refine ARun.goK 60 ?_
  simp only [W, seval, c189, hn, hi, ht, mapD_nil, mapD_cons, Nat.reduceMul, rows8, hcap, hmap, ex1]
  obtain ⟨⟨b, s3⟩, hg_s3⟩ : ∃ r, gotP s2 [44] = r := ⟨_, rfl⟩
  have hp_s3 := got_pp bs h0 hl s2 [44]
  rw [hg_s3] at hp_s3
  dsimp only at hp_s3
  first
   | refine PP.call0 hp_s3 hc hok2 fun hok3 => ?_
   | refine PP.call hp_s3 hc hok2 fun hok3 => ?_
  rw [hg_s3] at hr
  have hlen : (l ++ [x]).length = l.length + 1 := by simp
  cases b
  case' false =>
   dsimp only at hr
   obtain ⟨rfl, rfl⟩ := Prod.mk.inj hr
   refine ARun.goK 60 ?_
   simp only [W, seval, c189]
   refine hend () hok3 _ _ ?_ (by rw [hlen])
   refine Agree.env _ ?_
   simp only [agw, seval, hn]
  case' true =>
   have hlt := got_lt hg_s3
   dsimp only at hr
   obtain ⟨s4, hs4⟩ : ∃ s4, (if comma = false ∧ isP s3 en = true then failP s3 51 else s3) = s4 := ⟨_, rfl⟩
   have hmu4 : mu s4 ≤ mu s3 := by
    rw [← hs4]
    split
    ·exact (dn_fail s3 51).le
    ·exact Nat.le_refl _
   rw [hs4] at hr
   obtain ⟨⟨l5, s5⟩, h5⟩ : ∃ r, listL E en comma m s4 = r := ⟨_, rfl⟩
   rw [h5] at hr
   dsimp only at hr
   have hfin : OkP bs s4 → OkP bs s4 ∧ mu s4 < n ∧ (l ++ [x]).length + mu s4 ≤ mu s ∧ ∃ m', mu s4 < m' ∧ ((l ++ [x]) ++ (listL E en comma m' s4).1, (listL E en comma m' s4).2) = (l0, s0) := fun h => ⟨h, by omega, by omega, m, by omega, by rw [h5, ← hr]; simp⟩
   cases hcm : comma
   case' true =>
    rw [if_neg (by rw [hcm]; simp)] at hs4
    subst hs4
    refine ARun.goK 60 ?_
    simp only [W, seval, c189, hcm]
    refine ih (l ++ [x], s3) (hfin hok3) (by dsimp only; omega) _ _ ?_ (by dsimp only; rw [hlen])
    refine Agree.env _ ?_
    simp only [agw, seval, hn, hcm]
   case' false =>
    refine ARun.goK 60 ?_
    simp only [W, seval, c189, hcm]
    refine PP.call0 (is_pp bs s3 en) hc hok3 fun _ => ?_
    cases his : isP s3 en
    case' false =>
     rw [if_neg (by rw [his]; simp)] at hs4
     subst hs4
     refine ARun.goK 60 ?_
     simp only [W, seval, c189, hcm]
     refine ih (l ++ [x], s3) (hfin hok3) (by dsimp only; omega) _ _ ?_ (by dsimp only; rw [hlen])
     refine Agree.env _ ?_
     simp only [agw, seval, hn, hcm]
    case' true =>
     rw [if_pos ⟨hcm, his⟩] at hs4
     refine ARun.goK 60 ?_
     simp only [W, seval, c189, hcm]
     refine PP.call0 (fail_pp bs s3 51 (by decide)) hc hok3 fun hok4 => ?_
     rw [hs4] at hok4 ⊢
     refine ARun.goK 60 ?_
     simp only [W, seval, c189, hcm]
     refine ih (l ++ [x], s4) (hfin hok4) (by dsimp only; omega) _ _ ?_ (by dsimp only; rw [hlen])
     refine Agree.env _ ?_
     simp only [agw, seval, hn, hcm]
 ·rw [if_neg hc1, List.append_nil] at hr
  obtain ⟨rfl, rfl⟩ := Prod.mk.inj hr
  by_cases he : s1.e = 0
  ·have e1 := decide_eq_true he
   have his : isP s1 en = true := by
    cases h : isP s1 en
    ·exact absurd ⟨he, h⟩ hc1
    ·rfl
   refine ARun.goK (k := [_, _, _]) 60 ?_
   simp only [W, seval, c189, hn, hi, bxP, e1]
   refine PP.call0 (is_pp bs s1 en) hc hok1 fun _ => ?_
   refine ARun.goK 60 ?_
   simp only [W, seval, c189, his]
   refine hend () hok1 _ _ ?_ rfl
   refine Agree.env _ ?_
   simp only [agw, seval, hn]
  ·have e1 := decide_eq_false he
   refine ARun.goK (k := [_, _, _]) 60 ?_
   simp only [W, seval, c189, hn, hi, bxP, e1]
   refine hend () hok1 _ _ ?_ rfl
   refine Agree.env _ ?_
   simp only [agw, seval, hn]
def c153 := by
 have c := KK_of Tryz.f153 (by conv => lhs; cbv)
 dsimp only [KK, KxP, doO, opO, List.map_cons, List.map_nil, List.toList_toArray] at c
 exact c
theorem b153 : FnIs Tryz.prog 153 Tryz.f153 15 := ⟨Tryz.func153, by kernel_rfl⟩
def c151 := by
 have c := KK_of Tryz.f151 (by conv => lhs; cbv)
 dsimp only [KK, KxP, doO, opO, List.map_cons, List.map_nil, List.toList_toArray] at c
 exact c
theorem b151 : FnIs Tryz.prog 151 Tryz.f151 14 := ⟨Tryz.func151, by kernel_rfl⟩
def c188 := by
 have c := KK_of Tryz.f188 (by conv => lhs; cbv)
 dsimp only [KK, KxP, doO, opO, List.map_cons, List.map_nil, List.toList_toArray] at c
 exact c
theorem b188 : FnIs Tryz.prog 188 Tryz.f188 56 := ⟨Tryz.func188, by kernel_rfl⟩
theorem ha0 {c : Nat} {env : List V} (h : evalV TabI env (.tmp 0) = .ptr c 0) : ∀ x ∈ [V.ptr c 0], ∃ y : Operand, evalV TabI env y = x := by
 intro x hx
 obtain rfl := List.mem_singleton.1 hx
 exact ⟨_, h⟩
theorem haN {c : Nat} {env : List V} (k : Int) (h : evalV TabI env (.tmp 0) = .ptr c 0) : ∀ x ∈ [V.ptr c 0, .d (.int .i64 k)], ∃ y : Operand, evalV TabI env y = x := by
 intro x hx
 rcases List.mem_cons.1 hx with rfl | hx
 ·exact ⟨_, h⟩
 ·obtain rfl := List.mem_singleton.1 hx
  exact ⟨.const (.int .i64 k), rfl⟩
section
variable {bs : List UInt8} {f : FuncId} {ar : List V} {s s' : Ps} {v : V} {c : Nat} {B J : List (List V)} {T : List (Nat × Nat)} {stop : Cont} {k : List Item} {d : Option Tmp} {env : List V}
theorem PP.callm (h : PP bs f ar s v s') (hc : c < B.length) (hok : OkP bs s) (hk : OkP bs s' → stop k (setV env d v) ⟨B.set c (bxP bs s') ++ J, T⟩) : callS Tryz.prog TabI stop (.func f [.ptr c 0] []) ar k d env ⟨B.set c (bxP bs s) ++ J, T⟩ := by
 have h1 := PF.fn (i := 0) (J := J) (T := T) h hc hok
 refine callS_of (Q := fun v' m => v' = v ∧ ∃ i' : Nat, OkP bs s' ∧ m = ⟨B.set c (bxP bs s') ++ J, T⟩) (by simpa using h1) ?_
 rintro _ _ ⟨rfl, _, hok', rfl⟩
 exact hk hok'
end
set_option maxHeartbeats 2000000 in
theorem values_pp (bs : List UInt8) (h0 : True) (hl : bs.length ≤ 400000) {E : EP} {n : Nat} (hE : EOk bs E n) (hd : DnE E) (M : Nat) (s : Ps) (hn1 : mu s < n) (hM : mu s < M) :
 PP bs 153 [] s (.d (.sl ((valsP E M s).1.map exD))) (valsP E M s).2 := by
 intro c B T i hc hok
 obtain ⟨N, hn⟩ : ∃ N, B.length = N := ⟨_, rfl⟩
 obtain ⟨t, ht⟩ : ∃ t, T.length = t := ⟨_, rfl⟩
 have hi : c < N := by omega
 have hmu := hok.mu_le
 obtain ⟨⟨l0, s0⟩, hL⟩ : ∃ r, valsP E M s = r := ⟨_, rfl⟩
 rw [hL]
 dsimp only
 cases M with
 | zero => omega
 | succ M =>
 rw [valsP] at hL
 refine b153.go 14 rfl fun hsm => ?_
 simp only [smw] at hsm
 simp only [W, seval, c153, hn, hi]
 obtain ⟨⟨x, s1⟩, hx⟩ : ∃ r, E s = r := ⟨_, rfl⟩
 have hpx := hE s hn1
 have hdx := (hd.at hx).le
 rw [hx] at hpx hL
 dsimp only at hpx hL
 refine PP.call0 hpx hc hok fun hok1 => ?_
 unfold exV
 refine ARun.go 8 ?_
 simp only [W, seval, c153, hn, hi, ht, mapD_nil, mapD_cons, Nat.reduceMul, rows8]
 refine ARun.token 3 [exD x] (by rfl) 8 (by omega) (ex1 x) ?_
 simp only [envS_put, ht]
 refine ARun.loopW (fun a : List ExT × Ps => (envS 15 [(0, .ptr c 0), (3, .sl (a.1.map exD) (.own t))], ⟨B.set c (bxP bs a.2), T ++ [(a.1.length, 8)]⟩)) (fun a => OkP bs a.2 ∧ mu a.2 < n ∧ a.1.length + mu a.2 ≤ mu s + 1 ∧ ∃ m, mu a.2 < m + 1 ∧ (match gotP a.2 [44] with
  | (false, s2) => (a.1, s2)
  | (true, s2) => (a.1 ++ (valsP E m s2).1, (valsP E m s2).2)) = (l0, s0)) (fun a => mu a.2) ([x], s1) ⟨hok1, by dsimp only; omega, by simp; omega, M, by dsimp only; omega, ?_⟩ ?_ rfl ?_
 ·dsimp only
  rw [← hL]
  obtain ⟨⟨b, s2⟩, hg⟩ : ∃ r, gotP s1 [44] = r := ⟨_, rfl⟩
  rw [hg]
  cases b
  ·rfl
  ·obtain ⟨⟨l3, s3⟩, h3⟩ : ∃ r, valsP E M s2 = r := ⟨_, rfl⟩
   simp only [h3]
   rfl
 ·skip
  refine Agree.env _ ?_
  simp only [agw, seval, hn]
  rfl
 rintro ⟨l, s1⟩ ⟨hok1, hn2, hle, m, hm, hr⟩ ih
 dsimp only at hok1 hn2 hle hm hr ih ⊢
 refine ARun.go 20 ?_
 simp only [W, seval, c153, hn, hi]
 obtain ⟨⟨b, s3⟩, hg_s3⟩ : ∃ r, gotP s1 [44] = r := ⟨_, rfl⟩
 have hp_s3 := got_pp bs h0 hl s1 [44]
 rw [hg_s3] at hp_s3
 dsimp only at hp_s3
 first
  | refine PP.call0 hp_s3 hc hok1 fun hok3 => ?_
  | refine PP.call hp_s3 hc hok1 fun hok3 => ?_
 rw [hg_s3] at hr
 cases b
 case' false =>
  dsimp only at hr
  obtain ⟨rfl, rfl⟩ := Prod.mk.inj hr
  refine ARun.go 60 ?_
  simp only [W, seval, c153]
  refine ARun.ret Tryz.func153 rfl (PF.retK (fun _ _ => rfl) ?_)
  refine ⟨?_, 0, hok3, rfl⟩
  simp only [W, seval, c153, wk, ht]
  simp
 case' true =>
  have hlt := got_lt hg_s3
  dsimp only at hr
  cases m with
  | zero => omega
  | succ m =>
  rw [valsP] at hr
  refine ARun.go 20 ?_
  simp only [W, seval, c153, hn, hi]
  obtain ⟨⟨y, s4⟩, hy⟩ : ∃ r, E s3 = r := ⟨_, rfl⟩
  have hpy := hE s3 (by omega)
  have hdy := (hd.at hy).le
  rw [hy] at hpy hr
  dsimp only at hpy hr
  refine PP.call0 hpy hc hok3 fun hok4 => ?_
  have hcap : (l.length + 1) * 128 ≤ 140737488355328 := by omega
  have hmap : l.map exD ++ [exD y] = (l ++ [y]).map exD := by simp
  have hlen : (l ++ [y]).length = l.length + 1 := by simp
  unfold exV
  refine ARun.go 60 ?_
  simp only [W, seval, c153, hn, hi, ht, mapD_nil, mapD_cons, Nat.reduceMul, rows8, hcap, hmap, ex1]
  refine ih (l ++ [y], s4) ⟨hok4, by dsimp only; omega, by dsimp only; omega, m, by dsimp only; omega, ?_⟩ (by dsimp only; omega) _ _ ?_ (by dsimp only; rw [hlen])
  ·dsimp only
   rw [← hr]
   obtain ⟨⟨b, s5⟩, hg⟩ : ∃ r, gotP s4 [44] = r := ⟨_, rfl⟩
   rw [hg]
   cases b
   ·rfl
   ·obtain ⟨⟨l6, s6⟩, h6⟩ : ∃ r, valsP E m s5 = r := ⟨_, rfl⟩
    simp only [h6]
    simp
  ·skip
   refine Agree.env _ ?_
   simp only [agw, seval, hn]
theorem head_pp (bs : List UInt8) {E : EP} {n : Nat} (hE : EOk bs E n) (s : Ps) (hn1 : mu s < n) :
 PP bs 151 [] s (.d (.sl [exD (headP E s).1])) (headP E s).2 := by
 intro c B T i hc hok
 obtain ⟨N, hn⟩ : ∃ N, B.length = N := ⟨_, rfl⟩
 have hi : c < N := by omega
 obtain ⟨⟨x, s1⟩, hx⟩ : ∃ r, E ⟨s.ws, s.e, s.o, true⟩ = r := ⟨_, rfl⟩
 have hpx := hE ⟨s.ws, s.e, s.o, true⟩ hn1
 unfold headP
 rw [hx] at hpx ⊢
 dsimp only at hpx ⊢
 refine b151.go 30 rfl fun hsm => ?_
 simp only [smw] at hsm
 simp only [W, seval, c151, hn, hi, bxP]
 refine PP.call0 hpx hc (ok_same hok rfl fun h => h) fun hok1 => ?_
 unfold exV
 refine ARun.go 60 ?_
 simp only [W, seval, c151, hn, hi, bxP, mapD_nil, mapD_cons, Nat.reduceMul, rows8]
 refine ARun.ret Tryz.func151 rfl (PF.retJ (fun _ _ => rfl) ?_)
 exact ⟨rfl, 0, ok_same hok1 rfl fun h => h, rfl⟩
set_option maxHeartbeats 4000000 in
theorem keyed_pp (bs : List UInt8) (h0 : True) (hl : bs.length ≤ 400000) {E : EP} {n : Nat} (hE : EOk bs E n) (hd : DnE E) (s : Ps) (hk : s.e = 0 → ¬ s.w.kind = 0) (hn1 : mu (nextP s) < n) :
 PP bs 188 [] s (exV (keyedP E s).1) (keyedP E s).2 := by
 intro c B T i hc hok
 obtain ⟨N, hn⟩ : ∃ N, B.length = N := ⟨_, rfl⟩
 have hi : c < N := by omega
 have hi2 : c < N + 2 := by omega
 obtain ⟨K, hK⟩ : ∃ K, keyedP E s = K := ⟨_, rfl⟩
 rw [hK]
 unfold keyedP at hK
 refine b188.go 30 rfl fun hsm => ?_
 simp only [smw] at hsm
 simp only [W, seval, c188, hn, hi, bxP]
 refine PP.call (next_pp bs h0 hl s hk) hc hok fun hok1 => ?_
 by_cases h1 : s.w.text = [116, 114, 117, 101]
 ·rw [if_pos h1] at hK
  subst hK
  have e1 := decide_eq_true h1
  refine ARun.go 60 ?_
  simp only [W, seval, c188, hn, hi, e1]
  refine retc (v := ?_) Tryz.func188 (by rfl) ?_ ?_
  rotate_left
  ·simp only [W, seval, c188, hn, hi]
   exact rfl
  refine PF.retJ (fun _ _ => rfl) ?_
  exact ⟨rfl, 0, hok1, rfl⟩
 rw [if_neg h1] at hK
 have e1 := decide_eq_false h1
 by_cases h2 : s.w.text = [102, 97, 108, 115, 101]
 ·rw [if_pos h2] at hK
  subst hK
  have e2 := decide_eq_true h2
  refine ARun.go 60 ?_
  simp only [W, seval, c188, hn, hi, e1, e2]
  refine retc (v := ?_) Tryz.func188 (by rfl) ?_ ?_
  rotate_left
  ·simp only [W, seval, c188, hn, hi]
   exact rfl
  refine PF.retJ (fun _ _ => rfl) ?_
  exact ⟨rfl, 0, hok1, rfl⟩
 rw [if_neg h2] at hK
 have e2 := decide_eq_false h2
 refine ARun.go 60 ?_
 simp only [W, seval, c188, hn, hi, e1, e2]
 refine PP.callm (want_pp bs h0 hl (nextP s) [40]) hc hok1 fun hok2 => ?_
 have hd2 := (dn_want (nextP s) [40]).le
 obtain ⟨⟨x, s3⟩, hx⟩ : ∃ r, E (wantP (nextP s) [40]) = r := ⟨_, rfl⟩
 have hpx := hE (wantP (nextP s) [40]) (by omega)
 have hdx := (hd.at hx).le
 rw [hx] at hpx hK
 dsimp only at hpx hK
 refine ARun.go 20 ?_
 simp only [W, seval, c188, hn, hi]
 refine PP.call hpx hc hok2 fun hok3 => ?_
 unfold exV
 refine ARun.go 60 ?_
 simp only [W, seval, c188, hn, hi, mapD_nil, mapD_cons, Nat.reduceMul, rows8]
 refine callS_fn (basic_ab s.w.text _) ?_
 rintro _ _ ⟨rfl, rfl⟩
 by_cases h3 : s.w.text = [97, 112, 112, 101, 110, 100]
 ·have e3 := decide_eq_true h3
  refine ARun.go 60 ?_
  simp only [W, seval, c188, hn, hi, e3]
  refine PP.callm (want_pp bs h0 hl s3 [44]) hc hok3 fun hok4 => ?_
  have hd4 := (dn_want s3 [44]).le
  obtain ⟨⟨y, s5⟩, hy⟩ : ∃ r, E (wantP s3 [44]) = r := ⟨_, rfl⟩
  have hpy := hE (wantP s3 [44]) (by omega)
  rw [hy] at hpy hK
  dsimp only at hpy
  refine ARun.go 6 ?_
  simp only [W, seval, c188, hn, hi]
  refine PP.wit hpy hc hok4 (haN 1 (by rfl)) fun hok5 => ?_
  unfold exV at hpy
  have hrows : rowsSz 8 [exD x] = true := ex1 x
  have hr1 : rowsSz 8 [exD y] = true := ex1 y
  refine ARun.drawE 6 [3, 5, 7] (fun S => S.boxes[N + 1]? = some [V.d (D.int IntKind.i64 13), V.d (D.str []), V.d (D.int IntKind.u64 0), V.d (D.int IntKind.i64 0), V.d (D.str []), V.sl [] Tok.full, V.sl [] Tok.full, V.sl [exD x] Tok.full]) (by kernel_rfl) (by kernel_rfl) (by kernel_rfl) (by kernel_rfl) (by kernel_rfl) ?_
  simp only [W, seval, c188]
  refine lexC_q (v := ?_) (by rfl) (by kernel_rfl) (fun S hS => ?_) ?_
  rotate_left
  ·simp only [W, seval, c188]
   exact rfl
  simp only [W, seval, c188]
  refine lexC_q (v := ?_) (by rfl) (by kernel_rfl) (fun S hS => ?_) ?_
  rotate_left
  ·try dsimp only at hS
   simp only [W, seval, c188, hS]
   exact rfl
  simp only [W, seval, c188]
  refine lexC_q (v := ?_) (by rfl) (by kernel_rfl) (fun S hS => ?_) ?_
  rotate_left
  ·simp only [W, seval, c188]
   exact rfl
  simp only [W, seval, c188]
  refine PP.lexc (hpy) hc hok4 hok5 ?_ (by rfl) (by kernel_rfl) ?_ ?_
  ·first | trivial | simp [bx_loc, bx_loc0, hn]
  ·simp only [W, seval, c188]
   exact ⟨_, _, rfl, rfl, by rfl, by simp only [W, seval, c188]⟩
  simp only [W, seval, c188]
  refine lexC_q (v := ?_) (by rfl) (by kernel_rfl) (fun S hS => ?_) ?_
  rotate_left
  ·simp only [W, seval, c188, mapD_nil, mapD_cons, Nat.reduceMul, rows8]
   exact rfl
  simp only [W, seval, c188]
  refine lexC_w (v := ?_) (S' := ?_) ?_ (by rfl) (by kernel_rfl) ?_ ?_
  rotate_left 2
  ·first | trivial | simp [bx_loc, bx_loc0, hn, hrows, hr1, Nat.reduceMul]
  ·simp only [W, seval, c188, hn, hrows, hr1, Nat.reduceMul]
   exact rfl
  simp only [W, seval, c188]
  refine lexC_end (by simp [bx_loc, hn]) ?_
  refine lexC_q (v := ?_) (by rfl) (by kernel_rfl) (fun S hS => ?_) ?_
  rotate_left
  ·simp only [W, seval, c188]
   exact rfl
  simp only [W, seval, c188]
  refine lexC_w (v := ?_) (S' := ?_) ?_ (by rfl) (by kernel_rfl) ?_ ?_
  rotate_left 2
  ·first | trivial | simp [bx_loc, bx_loc0, hn]
  ·simp only [W, seval, c188, hn]
   exact rfl
  simp only [W, seval, c188]
  refine lexC_end trivial ?_
  rw [if_pos h3] at hK
  subst hK
  refine ARun.go 20 ?_
  simp only [W, seval, c188, hn, hi]
  refine PP.callm (want_pp bs h0 hl s5 [41]) hc hok5 fun hok6 => ?_
  refine ARun.go 60 ?_
  simp only [W, seval, c188, hn, hi]
  refine retc (v := ?_) Tryz.func188 (by rfl) ?_ ?_
  rotate_left
  ·simp only [W, seval, c188, hn, hi]
   exact rfl
  refine PF.ret (fun _ _ => rfl) ?_
  refine ⟨?_, 0, hok6, rfl⟩
  simp only [W, seval, c188, wk, wkL, exV, List.length_set, Nat.lt_irrefl]
  rfl
 ·rw [if_neg h3] at hK
  have e3 := decide_eq_false h3
  by_cases h4 : 1 < kindS s.w.text
  ·rw [if_pos h4] at hK
   subst hK
   have e4 := decide_eq_true h4
   refine ARun.go 60 ?_
   simp only [W, seval, c188, hn, hi, e3, e4]
   refine PP.callm (want_pp bs h0 hl s3 [41]) hc hok3 fun hok4 => ?_
   refine ARun.go 60 ?_
   simp only [W, seval, c188, hn, hi]
   refine retc (v := ?_) Tryz.func188 (by rfl) ?_ ?_
   rotate_left
   ·simp only [W, seval, c188, hn, hi]
    exact rfl
   refine PF.retJ (fun _ _ => rfl) ?_
   exact ⟨rfl, 0, hok4, rfl⟩
  ·rw [if_neg h4] at hK
   subst hK
   have e4 := decide_eq_false h4
   refine ARun.go 60 ?_
   simp only [W, seval, c188, hn, hi, e3, e4]
   refine PP.callm (want_pp bs h0 hl s3 [41]) hc hok3 fun hok4 => ?_
   refine ARun.go 60 ?_
   simp only [W, seval, c188, hn, hi]
   refine retc (v := ?_) Tryz.func188 (by rfl) ?_ ?_
   rotate_left
   ·simp only [W, seval, c188, hn, hi]
    exact rfl
   refine PF.retJ (fun _ _ => rfl) ?_
   exact ⟨rfl, 0, hok4, rfl⟩
def c173 := by
 have c := KK_of Tryz.f173 (by conv => lhs; cbv)
 dsimp only [KK, KxP, doO, opO, List.map_cons, List.map_nil, List.toList_toArray] at c
 exact c
theorem b173 : FnIs Tryz.prog 173 Tryz.f173 61 := ⟨Tryz.func173, by kernel_rfl⟩
def OOk (bs : List UInt8) (O : EP) (n : Nat) : Prop := ∀ s, mu s < n → PP bs 184 [] s (exV (O s).1) (O s).2
def exL (x : ExT) : List V := [.d (.int .i64 x.kind), .d (.str x.text), .d (.int .u64 x.int), .d (.int .i64 x.type.kind), .d (.str x.type.name), .d (.sl (x.type.elem.map tyD)), .d (.sl (ssD x.names)), .d (.sl (x.kids.map exD))]
set_option maxHeartbeats 4000000 in
theorem climb_pp (bs : List UInt8) (h0 : True) (hl : bs.length ≤ 400000) {O : EP} {n : Nat} (hO : OOk bs O n) (hd : DnE O) (m : Nat) (hnm : n ≤ m) : ∀ (k : Nat), k ≤ 5 → ∀ (r : Int), r = 6 - (k : Int) → ∀ s, mu s < n →
 PP bs 173 [.d (.int .i64 r)] s (exV (climbP O m k s).1) (climbP O m k s).2
 | 0, _, r, hr, s, hs => by
  intro c B T i hc hok
  obtain ⟨N, hn⟩ : ∃ N, B.length = N := ⟨_, rfl⟩
  have hi : c < N := by omega
  have hr6 : r = 6 := by omega
  subst hr6
  rw [climbP]
  refine b173.go 40 rfl fun hsm => ?_
  simp only [smw] at hsm
  simp only [W, seval, c173, hn, hi]
  refine PP.call (hO s hs) hc hok fun hok1 => ?_
  unfold exV
  refine ARun.go 40 ?_
  simp only [W, seval, c173, hn, hi]
  refine retc (v := ?_) Tryz.func173 (by rfl) ?_ ?_
  rotate_left
  ·simp only [W, seval, c173, hn, hi]
   exact rfl
  refine PF.retJ (fun _ _ => rfl) ?_
  exact ⟨rfl, 0, hok1, rfl⟩
 | k + 1, hk, r, hr, s, hs => by
  intro c B T i hc hok
  obtain ⟨N, hn⟩ : ∃ N, B.length = N := ⟨_, rfl⟩
  have hi : c < N := by omega
  have hr5 : decide (5 < r) = false := decide_eq_false (by omega)
  by_cases he : s.e = 0
  case neg =>
   have e1 := decide_eq_false he
   rw [climbP, if_pos he]
   refine b173.go 60 rfl fun hsm => ?_
   simp only [smw] at hsm
   simp only [W, seval, c173, hn, hi, bxP, hr5, e1]
   refine PP.call (hO s hs) hc hok fun hok1 => ?_
   unfold exV
   refine ARun.go 40 ?_
   simp only [W, seval, c173, hn, hi]
   refine retc (v := ?_) Tryz.func173 (by rfl) ?_ ?_
   rotate_left
   ·simp only [W, seval, c173, hn, hi]
    exact rfl
   refine PF.retJ (fun _ _ => rfl) ?_
   exact ⟨rfl, 0, hok1, rfl⟩
  case pos =>
   have e1 := decide_eq_true he
   have hw := wrap_in (r + 1) (by omega)
   have hI := climb_pp bs h0 hl hO hd m hnm k (by omega) (r + 1) (by omega)
   have hDc := dn_climb hd m k
   obtain ⟨⟨x, s1⟩, hx⟩ : ∃ z, climbP O m k s = z := ⟨_, rfl⟩
   have hpx := hI s hs
   have hdx := (hDc.at hx).le
   obtain ⟨⟨y0, s0⟩, hres⟩ : ∃ z, climbP O m (k + 1) s = z := ⟨_, rfl⟩
   rw [hres]
   dsimp only
   rw [climbP, if_neg (by simpa using he), hx] at hres
   rw [hx] at hpx
   dsimp only at hres hpx
   have hr' : (5 - (k : Int)) = r := by omega
   rw [hr'] at hres
   refine b173.go 60 rfl fun hsm => ?_
   simp only [smw] at hsm
   simp only [W, seval, c173, hn, hi, bxP, hr5, e1, hw]
   refine PP.call hpx hc hok fun hok1 => ?_
   unfold exV
   refine ARun.go 6 ?_
   simp only [W, seval, c173, hn, hi]
   refine ARun.after [_, _] _ (fun _ : Unit => (envS 61 [(4, .ptr N 0), (5, .ptr (N + 1) 0)], ⟨B.set c (bxP bs s0) ++ [[.d (.int .i64 0), .d (.str []), .d (.int .u64 0), .d (.int .i64 0), .d (.str []), .sl [] .full, .sl [] .full, .sl [] .full], exL y0], T⟩)) (fun _ => OkP bs s0) ?_ ?_
   ·rintro ⟨⟩ hok0
    refine ARun.go 20 ?_
    simp only [W, seval, c173, hn, hi, exL]
    refine retc (v := ?_) Tryz.func173 (by rfl) ?_ ?_
    rotate_left
    ·simp only [W, seval, c173, hn, hi]
     exact rfl
    refine PF.retJ (fun _ _ => rfl) ?_
    exact ⟨rfl, 0, hok0, rfl⟩
   intro K' hend
   refine ARun.loopW (fun a : ExT × Ps => (envS 61 [(0, .ptr c 0), (1, .d (.int .i64 r)), (4, .ptr N 0), (5, .ptr (N + 1) 0)], ⟨B.set c (bxP bs a.2) ++ [[.d (.int .i64 0), .d (.str []), .d (.int .u64 0), .d (.int .i64 0), .d (.str []), .sl [] .full, .sl [] .full, .sl [] .full], exL a.1], T⟩)) (fun a => OkP bs a.2 ∧ mu a.2 < n ∧ ∃ m', mu a.2 < m' ∧ rankL (climbP O m k) r m' a.1 a.2 = (y0, s0)) (fun a => mu a.2) (x, s1) ⟨hok1, by dsimp only; omega, m, by dsimp only; omega, hres⟩ ?_ rfl ?_
   ·skip
    refine Agree.env _ ?_
    simp only [agw, seval, hn]
   clear hres hpx hdx hx hok1 he e1
   rintro ⟨x, s1⟩ ⟨hok1, hn2, m', hm, hr2⟩ ih
   dsimp only at hok1 hn2 hm hr2 ih ⊢
   cases m' with
   | zero => omega
   | succ m' =>
   rw [rankL] at hr2
   by_cases hc1 : s1.e = 0 ∧ s1.w.kind = 3 ∧ rankS s1.w.text = r
   case pos =>
    rw [if_pos hc1] at hr2
    have e1 := decide_eq_true hc1.1
    have e3 : decide ((s1.w.kind : Int) = 3) = true := decide_eq_true (by omega)
    have e5 := decide_eq_true hc1.2.2
    have hnl := next_lt s1 hc1.1 (by omega)
    obtain ⟨⟨y, s4⟩, hy⟩ : ∃ z, climbP O m k (nextP s1) = z := ⟨_, rfl⟩
    have hpy := hI (nextP s1) (by omega)
    have hdy := (hDc.at hy).le
    rw [hy] at hr2 hpy
    dsimp only at hr2 hpy
    refine ARun.goK (k := [_, _, _]) 60 ?_
    simp only [W, seval, c173, hn, hi, bxP, e1, e3]
    refine callS_fn (rank_ab s1.w.text _ _) ?_
    rintro _ _ ⟨rfl, rfl⟩
    refine ARun.goK 60 ?_
    simp only [W, seval, c173, hn, hi, bxP, e5]
    refine PP.call (next_pp bs h0 hl s1 fun _ => by omega) hc hok1 fun hok3 => ?_
    refine ARun.goK 5 ?_
    simp only [W, seval, c173, hn, hi]
    unfold exV at hpy
    refine PP.wit hpy hc hok3 (haN (r + 1) (by rfl)) fun hok5 => ?_
    refine ARun.drawE 8 [5, 8] (fun S => S.boxes[N + 1]? = some (exL x)) (by kernel_rfl) (by kernel_rfl) (by kernel_rfl) (by kernel_rfl) (by kernel_rfl) ?_
    simp only [W, seval, c173]
    refine lexC_q (v := ?_) (by rfl) (by kernel_rfl) (fun S hS => ?_) ?_
    rotate_left
    ·simp only [W, seval, c173]
     exact rfl
    simp only [W, seval, c173]
    refine lexC_q (v := ?_) (by rfl) (by kernel_rfl) (fun S hS => ?_) ?_
    rotate_left
    ·try dsimp only at hS
     simp only [W, seval, c173, hS, exL]
     exact rfl
    simp only [W, seval, c173]
    refine lexC_q (v := ?_) (by rfl) (by kernel_rfl) (fun S hS => ?_) ?_
    rotate_left
    ·simp only [W, seval, c173]
     exact rfl
    simp only [W, seval, c173]
    refine lexC_q (v := ?_) (by rfl) (by kernel_rfl) (fun S hS => ?_) ?_
    rotate_left
    ·simp only [W, seval, c173]
     exact rfl
    simp only [W, seval, c173]
    refine lexC_q (v := ?_) (by rfl) (by kernel_rfl) (fun S hS => ?_) ?_
    rotate_left
    ·simp only [W, seval, c173, hw]
     exact rfl
    simp only [W, seval, c173]
    refine PP.lexc (hpy) hc hok3 hok5 ?_ (by rfl) (by kernel_rfl) ?_ ?_
    ·first | trivial | simp [bx_loc, bx_loc0, hn]
    ·simp only [W, seval, c173]
     exact ⟨_, _, rfl, rfl, by rfl, by simp only [W, seval, c173]⟩
    simp only [W, seval, c173]
    refine lexC_q (v := ?_) (by rfl) (by kernel_rfl) (fun S hS => ?_) ?_
    rotate_left
    ·simp only [W, seval, c173, mapD_nil, mapD_cons, Nat.reduceMul, rows8]
     exact rfl
    simp only [W, seval, c173]
    refine lexC_q (v := ?_) (by rfl) (by kernel_rfl) (fun S hS => ?_) ?_
    rotate_left
    ·simp only [W, seval, c173]
     exact rfl
    simp only [W, seval, c173]
    refine lexC_end (by simp [bx_loc, hn]) ?_
    refine lexC_w (v := ?_) (S' := ?_) ?_ (by rfl) (by kernel_rfl) ?_ ?_
    rotate_left 2
    ·first | trivial | simp [bx_loc, bx_loc0, hn, exL]
    ·simp only [W, seval, c173, hn, exL]
     exact rfl
    simp only [W, seval, c173]
    refine lexC_end trivial ?_
    refine ARun.plainJ 1 _ (exL (.mk 6 s1.w.text 0 noT [] [x, y])) (by rfl) (.same (.same (.same (.same (.same (.sl (.sl (.sl .nil)))))))) ?_
    refine ARun.goK (k := [_, _, _]) 1 ?_
    simp only [W, seval, c173]
    refine ih (.mk 6 s1.w.text 0 noT [] [x, y], s4) ⟨hok5, by dsimp only; omega, m', by dsimp only; omega, hr2⟩ (by dsimp only; omega) _ _ ?_ rfl
    refine Agree.env _ ?_
    simp only [agw, seval, hn]
   case neg =>
    rw [if_neg hc1] at hr2
    obtain ⟨rfl, rfl⟩ := Prod.mk.inj hr2
    by_cases he : s1.e = 0
    ·have e1 := decide_eq_true he
     by_cases hk3 : s1.w.kind = 3
     ·have e3 : decide ((s1.w.kind : Int) = 3) = true := decide_eq_true (by omega)
      have e5 := decide_eq_false fun h => hc1 ⟨he, hk3, h⟩
      refine ARun.goK (k := [_, _, _]) 60 ?_
      simp only [W, seval, c173, hn, hi, bxP, e1, e3]
      refine callS_fn (rank_ab s1.w.text _ _) ?_
      rintro _ _ ⟨rfl, rfl⟩
      refine ARun.goK 60 ?_
      simp only [W, seval, c173, hn, hi, bxP, e5]
      refine hend () hok1 _ _ ?_ rfl
      refine Agree.env _ ?_
      simp only [agw, seval, hn]
     ·have e3 : decide ((s1.w.kind : Int) = 3) = false := decide_eq_false (by omega)
      refine ARun.goK (k := [_, _, _]) 60 ?_
      simp only [W, seval, c173, hn, hi, bxP, e1, e3]
      refine hend () hok1 _ _ ?_ rfl
      refine Agree.env _ ?_
      simp only [agw, seval, hn]
    ·have e1 := decide_eq_false he
     refine ARun.goK (k := [_, _, _]) 60 ?_
     simp only [W, seval, c173, hn, hi, bxP, e1]
     refine hend () hok1 _ _ ?_ rfl
     refine Agree.env _ ?_
     simp only [agw, seval, hn]
set_option linter.unusedVariables false
def c104 := by
 have c := KK_of Tryz.f104 (by conv => lhs; cbv)
 dsimp only [KK, KxP, doO, opO, List.map_cons, List.map_nil, List.toList_toArray] at c
 exact c
theorem b104 : FnIs Tryz.prog 104 Tryz.f104 17 := ⟨Tryz.func104, by kernel_rfl⟩
def c72 := by
 have c := KK_of Tryz.f72 (by conv => lhs; cbv)
 dsimp only [KK, KxP, doO, opO, List.map_cons, List.map_nil, List.toList_toArray] at c
 exact c
theorem b72 : FnIs Tryz.prog 72 Tryz.f72 20 := ⟨Tryz.func72, by kernel_rfl⟩
def c106 := by
 have c := KK_of Tryz.f106 (by conv => lhs; cbv)
 dsimp only [KK, KxP, doO, opO, List.map_cons, List.map_nil, List.toList_toArray] at c
 exact c
theorem b106 : FnIs Tryz.prog 106 Tryz.f106 15 := ⟨Tryz.func106, by kernel_rfl⟩
def c73 := by
 have c := KK_of Tryz.f73 (by conv => lhs; cbv)
 dsimp only [KK, KxP, doO, opO, List.map_cons, List.map_nil, List.toList_toArray] at c
 exact c
theorem b73 : FnIs Tryz.prog 73 Tryz.f73 41 := ⟨Tryz.func73, by kernel_rfl⟩
theorem Same.lexc {W : List Nat} {MM : Mem → Prop} {K : List V → Mem → Prop} {o : Oper} {l : List Oper} {k : Nat} {env : List V} {S S' : Mem} {g : FuncId} {args : List V} {v : V} (h : AFn Tryz.prog TabI g args S (Same v S')) (hS : MM S) (hk : W.contains k = true) (hg : o.guard = none)
 (h1 : ∃ q f0 first caps, o.op = .call q ∧ q.callee = .value f0 ∧ evalV TabI env f0 = .func g first caps ∧ first ++ q.args.toList.map (evalV TabI env) ++ caps = args) (h5 : lexC Tryz.prog TabI W MM K l (k + 1) (setV env o.dst v) S') : lexC Tryz.prog TabI W MM K (o :: l) k env S := by
 obtain ⟨q, f0, first, caps, e1, e2, e3, e4⟩ := h1
 refine lexC_c (Q := Same v S') hS hk hg e1 e2 e3 ⟨_, _, rfl, rfl⟩ (by rw [e4]; exact h) ?_
 rintro v' S' ⟨rfl, rfl⟩
 exact h5
def PWE (x : ExT) : Prop := PW 44 [exV x] fun _ => exT x
set_option maxHeartbeats 1000000 in
theorem within_pw {x : ExT} (hx : PWE x) (b : Bool) : PW 104 [exV x, .d (.bool b)] fun _ => parT b (exT x) := by
 intro i t s k B T hin htm hk hb
 obtain ⟨N, hn⟩ : ∃ N, B.length = N := ⟨_, rfl⟩
 obtain ⟨a, ha⟩ : ∃ a, s ++ parT b (exT x) = a := ⟨_, rfl⟩
 unfold parT at hb ha
 dsimp only at hb ⊢
 rw [show s ++ parT b (exT x) = a from ha]
 cases b
 ·rw [if_neg (by simp)] at hb ha
  unfold exV
  refine b104.go 20 rfl fun _ => ?_
  simp only [W, seval, c104, hin, htm, hn]
  refine (hx).callJ hin htm hk ?_ fun s1 h_s1 => ?_
  ·try simp only [lnw]
   omega
  have hl_s1 := congrArg List.length h_s1
  simp only [lnw] at hl_s1
  refine ARun.go 20 ?_
  simp only [W, seval, c104]
  refine ARun.ret Tryz.func104 rfl (PW.retJ hin htm ?_)
  subst h_s1 ha
  exact ⟨rfl, rfl⟩
 ·rw [if_pos rfl] at hb ha
  simp only [lnw] at hb
  unfold exV
  refine b104.go 18 rfl fun _ => ?_
  simp only [W, seval, c104, hin, htm, hn, mapD_nil, mapD_cons, Nat.reduceMul, rows8]
  have hcx : (comT (List.map exT [x])).length = (exT x).length := by simp [comT, comB]
  refine ARun.plainS 13 [exD x] .full (by rfl) ?_
  refine ARun.go 1 ?_
  simp only [W, seval, c104]
  refine (list_Expr_pl (g := 44) (l := [x]) (tx := exT) (fun y hy => by rw [List.mem_singleton.1 hy]; exact hx) [40] [41]).callJ hin htm hk ?_ fun s1 h_s1 => ?_
  ·try simp only [lnw]
   omega
  have hl_s1 := congrArg List.length h_s1
  simp only [lnw] at hl_s1
  refine ARun.go 20 ?_
  simp only [W, seval, c104]
  refine ARun.fin Tryz.func104 rfl (PW.retJ hin htm ?_)
  subst h_s1 ha
  exact ⟨rfl, by simp [comT, comB]⟩
theorem low_ab (x : ExT) (r : Int) (B : List (List V)) (T : List (Nat × Nat)) : AFn Tryz.prog TabI 106 [exV x, .d (.int .i64 r)] ⟨B, T⟩ (Same (.d (.bool (lowB x r))) ⟨B, T⟩) := by
 obtain ⟨N, hn⟩ : ∃ N, B.length = N := ⟨_, rfl⟩
 unfold lowB exV
 cases e6 : decide (x.kind = 6)
 ·refine b106.go 60 rfl fun _ => ?_
  simp only [W, seval, c106, e6, hn]
  refine ARun.ret Tryz.func106 rfl (Left.box ?_)
  exact ⟨rfl, rfl⟩
 ·refine b106.go 60 rfl fun _ => ?_
  simp only [W, seval, c106, e6, hn]
  refine callS_fn (rank_ab x.text _ _) ?_
  rintro _ _ ⟨rfl, rfl⟩
  refine ARun.go 60 ?_
  simp only [W, seval, c106, hn]
  refine ARun.ret Tryz.func106 rfl (Left.box ?_)
  exact ⟨rfl, rfl⟩
set_option maxHeartbeats 1000000 in
theorem tight_pw {x : ExT} (hx : PWE x) : PW 72 [exV x] fun _ => parT (tigB x) (exT x) := by
 intro i t s k B T hin htm hk hb
 obtain ⟨N, hn⟩ : ∃ N, B.length = N := ⟨_, rfl⟩
 obtain ⟨b, hbb⟩ : ∃ b, tigB x = b := ⟨_, rfl⟩
 dsimp only at hb ⊢
 rw [hbb] at hb ⊢
 have hw := within_pw hx b
 obtain ⟨a, ha⟩ : ∃ a, s ++ parT b (exT x) = a := ⟨_, rfl⟩
 rw [ha]
 unfold tigB at hbb
 unfold exV at hw ⊢
 cases e4 : decide (x.kind = 4) <;> cases e5 : decide (x.kind = 5) <;> cases e6 : decide (x.kind = 6)
 all_goals
  rw [e4, e5, e6] at hbb
  simp only [Bool.or_true, Bool.or_false, Bool.true_or] at hbb
  subst hbb
  refine b72.go 60 rfl fun _ => ?_
  simp only [W, seval, c72, hin, htm, hn, e4, e5, e6]
  refine (hw).callJ hin htm hk ?_ fun s1 h_s1 => ?_
  ·try simp only [lnw]
   omega
  have hl_s1 := congrArg List.length h_s1
  simp only [lnw] at hl_s1
  refine ARun.go 20 ?_
  simp only [W, seval, c72]
  refine ARun.fin Tryz.func72 rfl (PW.retJ hin htm ?_)
  subst h_s1 ha
  exact ⟨rfl, rfl⟩
theorem rank_five (s : List UInt8) : 0 ≤ rankS s ∧ rankS s ≤ 5 := by
 by_cases h : ∃ x ∈ rankT, s = x.1
 ·obtain ⟨x, hx, rfl⟩ := h
  revert x
  decide
 ·rw [rank_no s (fun x hx e => h ⟨x, hx, e⟩)]
  decide
theorem PW.lexc {f : FuncId} {ar : List V} {u : Nat → List UInt8} {i t k : Nat} {s : List UInt8} {B J : List (List V)} {T : List (Nat × Nat)} {W : List Nat} {MM : Mem → Prop} {K : List V → Mem → Prop} {o : Oper} {l : List Oper} {p : Nat} {env : List V}
 (h : PW f ar u) (hi : i < B.length) (ht : t < T.length) (hk : k ≤ 900) (hb : s.length + (u k).length ≤ mostW) (hS : MM ⟨B.set i (bxW i t s k) ++ J, T.set t (s.length, 1)⟩) (hp : W.contains p = true) (hg : o.guard = none)
 (h1 : ∃ q f0, o.op = .call q ∧ q.callee = .value f0 ∧ evalV TabI env f0 = .func f [] [] ∧ q.args.toList.map (evalV TabI env) = .ptr i 0 :: ar) (h5 : ∀ s', s ++ u k = s' → lexC Tryz.prog TabI W MM K l (p + 1) (setV env o.dst (.tup [])) ⟨B.set i (bxW i t s' k) ++ J, T.set t (s'.length, 1)⟩) :
 lexC Tryz.prog TabI W MM K (o :: l) p env ⟨B.set i (bxW i t s k) ++ J, T.set t (s.length, 1)⟩ := by
 have h' := h.fn (J := J) (K := []) hi ht hk hb
 rw [List.append_nil, List.append_nil] at h'
 obtain ⟨q, f0, e1, e2, e3, e4⟩ := h1
 exact Same.lexc h' hS hp hg ⟨q, f0, [], [], e1, e2, e3, by rw [e4, List.nil_append, List.append_nil]⟩ (h5 _ rfl)
set_option maxHeartbeats 2000000 in
theorem binary_pw {y z : ExT} (g : List UInt8) (hy : PWE y) (hz : PWE z) : PW 73 [exV (.mk 6 g 0 noT [] [y, z])] fun _ => parT (lowB y (rankS g)) (exT y) ++ ([32] ++ g ++ [32]) ++ parT (lowB z (rankS g + 1)) (exT z) := by
 intro i t s k B T hin htm hk hb
 obtain ⟨N, hn⟩ : ∃ N, B.length = N := ⟨_, rfl⟩
 have hin' : i < N := by omega
 obtain ⟨a, ha⟩ : ∃ a, s ++ (parT (lowB y (rankS g)) (exT y) ++ ([32] ++ g ++ [32]) ++ parT (lowB z (rankS g + 1)) (exT z)) = a := ⟨_, rfl⟩
 dsimp only at hb ⊢
 rw [ha]
 simp only [lnw] at hb
 have hwr := wrap_in (rankS g + 1) (by have := rank_five g; omega)
 change AFn _ _ _ [.ptr i 0, .agg [.d (.int .i64 6), .d (.str g), .d (.int .u64 0), .d (.int .i64 0), .d (.str []), .d (.sl []), .d (.sl []), .d (.sl [exD y, exD z])]] _ _
 refine b73.go 20 rfl fun hsm => ?_
 simp only [smw] at hsm
 simp only [W, seval, c73, hin, htm, hn]
 refine callS_fn (rank_ab g _ _) ?_
 rintro _ _ ⟨rfl, rfl⟩
 refine ARun.go 7 ?_
 simp only [W, seval, c73, hn]
 refine ARun.drawC [11, 12] (fun S => S.boxes[N]? = some [.d (.int .i64 6), .d (.str g), .d (.int .u64 0), .d (.int .i64 0), .d (.str []), .d (.sl []), .d (.sl []), .d (.sl [exD y, exD z])]) (by kernel_rfl) (by kernel_rfl) (by kernel_rfl) ?_
 simp only [W, seval, c73]
 refine lexC_q (v := ?_) (by rfl) (by kernel_rfl) (fun S hS => ?_) ?_
 rotate_left
 ·simp only [W, seval, c73]
  exact rfl
 simp only [W, seval, c73]
 refine lexC_q (v := ?_) (by rfl) (by kernel_rfl) (fun S hS => ?_) ?_
 rotate_left
 ·simp only [W, seval, c73]
  exact rfl
 simp only [W, seval, c73]
 refine lexC_q (v := ?_) (by rfl) (by kernel_rfl) (fun S hS => ?_) ?_
 rotate_left
 ·try dsimp only at hS
  simp only [W, seval, c73, hS]
  exact rfl
 simp only [W, seval, c73]
 refine lexC_q (v := ?_) (by rfl) (by kernel_rfl) (fun S hS => ?_) ?_
 rotate_left
 ·simp only [W, seval, c73, exD_eq]
  exact rfl
 simp only [W, seval, c73]
 refine lexC_q (v := ?_) (by rfl) (by kernel_rfl) (fun S hS => ?_) ?_
 rotate_left
 ·simp only [W, seval, c73, exD_eq]
  exact rfl
 simp only [W, seval, c73]
 refine lexC_q (v := ?_) (by rfl) (by kernel_rfl) (fun S hS => ?_) ?_
 rotate_left
 ·simp only [W, seval, c73]
  exact rfl
 simp only [W, seval, c73]
 refine lexC_q (v := ?_) (by rfl) (by kernel_rfl) (fun S hS => ?_) ?_
 rotate_left
 ·simp only [W, seval, c73]
  exact rfl
 simp only [W, seval, c73]
 refine lexC_q (v := ?_) (by rfl) (by kernel_rfl) (fun S hS => ?_) ?_
 rotate_left
 ·try dsimp only at hS
  simp only [W, seval, c73, hS]
  exact rfl
 simp only [W, seval, c73]
 refine lexC_q (v := ?_) (by rfl) (by kernel_rfl) (fun S hS => ?_) ?_
 rotate_left
 ·simp only [W, seval, c73, exD_eq]
  exact rfl
 simp only [W, seval, c73]
 refine lexC_q (v := ?_) (by rfl) (by kernel_rfl) (fun S hS => ?_) ?_
 rotate_left
 ·simp only [W, seval, c73, exD_eq]
  exact rfl
 simp only [W, seval, c73]
 refine lexC_q (v := ?_) (by rfl) (by kernel_rfl) (fun S hS => ?_) ?_
 rotate_left
 ·simp only [W, seval, c73]
  exact rfl
 simp only [W, seval, c73]
 refine Same.lexc (low_ab y (rankS g) _ _) ?_ (by rfl) (by kernel_rfl) ?_ ?_
 ·simp [bx_loc0, hn]
 ·simp only [W, seval, c73]
  exact ⟨_, _, _, _, rfl, rfl, rfl, by simp only [W, seval, c73]; rfl⟩
 simp only [W, seval, c73]
 refine (within_pw hy (lowB y (rankS g))).lexc hin htm hk ?_ ?_ (by rfl) (by kernel_rfl) ?_ fun s1 h_s1 => ?_
 ·try dsimp only
  omega
 ·simp [bx_loc0, hn]
 ·simp only [W, seval, c73]
  exact ⟨_, _, rfl, rfl, rfl, by simp only [W, seval, c73]; rfl⟩
 have hl_s1 := congrArg List.length h_s1
 try dsimp only at hl_s1
 simp only [lnw] at hl_s1
 refine lexC_end (by simp [bx_loc0, hn]) ?_
 refine ARun.go 20 ?_
 simp only [W, seval, c73, hn, htm, mapD_nil, mapD_cons]
 refine (put3 [32] g [32]).callJ hin htm hk ?_ fun s2 h_s2 => ?_
 ·try simp only [lnw]
  omega
 have hl_s2 := congrArg List.length h_s2
 simp only [lnw] at hl_s2
 refine ARun.go 3 ?_
 simp only [W, seval, c73, hn]
 refine ARun.drawC [12, 13] (fun S => S.boxes[N]? = some [.d (.int .i64 6), .d (.str g), .d (.int .u64 0), .d (.int .i64 0), .d (.str []), .d (.sl []), .d (.sl []), .d (.sl [exD y, exD z])]) (by kernel_rfl) (by kernel_rfl) (by kernel_rfl) ?_
 simp only [W, seval, c73]
 refine lexC_q (v := ?_) (by rfl) (by kernel_rfl) (fun S hS => ?_) ?_
 rotate_left
 ·simp only [W, seval, c73]
  exact rfl
 simp only [W, seval, c73]
 refine lexC_q (v := ?_) (by rfl) (by kernel_rfl) (fun S hS => ?_) ?_
 rotate_left
 ·simp only [W, seval, c73]
  exact rfl
 simp only [W, seval, c73]
 refine lexC_q (v := ?_) (by rfl) (by kernel_rfl) (fun S hS => ?_) ?_
 rotate_left
 ·try dsimp only at hS
  simp only [W, seval, c73, hS]
  exact rfl
 simp only [W, seval, c73]
 refine lexC_q (v := ?_) (by rfl) (by kernel_rfl) (fun S hS => ?_) ?_
 rotate_left
 ·simp only [W, seval, c73, exD_eq]
  exact rfl
 simp only [W, seval, c73]
 refine lexC_q (v := ?_) (by rfl) (by kernel_rfl) (fun S hS => ?_) ?_
 rotate_left
 ·simp only [W, seval, c73, exD_eq]
  exact rfl
 simp only [W, seval, c73]
 refine lexC_q (v := ?_) (by rfl) (by kernel_rfl) (fun S hS => ?_) ?_
 rotate_left
 ·simp only [W, seval, c73]
  exact rfl
 simp only [W, seval, c73]
 refine lexC_q (v := ?_) (by rfl) (by kernel_rfl) (fun S hS => ?_) ?_
 rotate_left
 ·simp only [W, seval, c73]
  exact rfl
 simp only [W, seval, c73]
 refine lexC_q (v := ?_) (by rfl) (by kernel_rfl) (fun S hS => ?_) ?_
 rotate_left
 ·try dsimp only at hS
  simp only [W, seval, c73, hS]
  exact rfl
 simp only [W, seval, c73]
 refine lexC_q (v := ?_) (by rfl) (by kernel_rfl) (fun S hS => ?_) ?_
 rotate_left
 ·simp only [W, seval, c73, exD_eq]
  exact rfl
 simp only [W, seval, c73]
 refine lexC_q (v := ?_) (by rfl) (by kernel_rfl) (fun S hS => ?_) ?_
 rotate_left
 ·simp only [W, seval, c73, exD_eq]
  exact rfl
 simp only [W, seval, c73]
 refine lexC_q (v := ?_) (by rfl) (by kernel_rfl) (fun S hS => ?_) ?_
 rotate_left
 ·simp only [W, seval, c73]
  exact rfl
 simp only [W, seval, c73]
 refine lexC_q (v := ?_) (by rfl) (by kernel_rfl) (fun S hS => ?_) ?_
 rotate_left
 ·simp only [W, seval, c73, hwr]
  exact rfl
 simp only [W, seval, c73]
 refine Same.lexc (low_ab z (rankS g + 1) _ _) ?_ (by rfl) (by kernel_rfl) ?_ ?_
 ·simp [bx_loc0, hn]
 ·simp only [W, seval, c73]
  exact ⟨_, _, _, _, rfl, rfl, rfl, by simp only [W, seval, c73]; rfl⟩
 simp only [W, seval, c73]
 refine (within_pw hz (lowB z (rankS g + 1))).lexc hin htm hk ?_ ?_ (by rfl) (by kernel_rfl) ?_ fun s3 h_s3 => ?_
 ·try dsimp only
  omega
 ·simp [bx_loc0, hn]
 ·simp only [W, seval, c73]
  exact ⟨_, _, rfl, rfl, rfl, by simp only [W, seval, c73]; rfl⟩
 have hl_s3 := congrArg List.length h_s3
 try dsimp only at hl_s3
 simp only [lnw] at hl_s3
 refine lexC_end (by simp [bx_loc0, hn]) ?_
 refine ARun.go 20 ?_
 simp only [W, seval, c73, hn]
 refine ARun.fin Tryz.func73 rfl (PW.retJ hin htm ?_)
 subst h_s1 h_s2 h_s3 ha
 exact ⟨rfl, by simp⟩
def c75 := by
 have c := KK_of Tryz.f75 (by conv => lhs; cbv)
 dsimp only [KK, KxP, doO, opO, List.map_cons, List.map_nil, List.toList_toArray] at c
 exact c
theorem b75 : FnIs Tryz.prog 75 Tryz.f75 32 := ⟨Tryz.func75, by kernel_rfl⟩
def c108 := by
 have c := KK_of Tryz.f108 (by conv => lhs; cbv)
 dsimp only [KK, KxP, doO, opO, List.map_cons, List.map_nil, List.toList_toArray] at c
 exact c
theorem b108 : FnIs Tryz.prog 108 Tryz.f108 18 := ⟨Tryz.func108, by kernel_rfl⟩
set_option maxHeartbeats 2000000 in
theorem conv_pw {y : ExT} (q : Int) (h2 : 2 ≤ q) (h6 : q ≤ 6) (hy : PWE y) : PW 75 [exV (.mk 8 [] 0 (.mk q [] []) [] [y])] fun _ => typT (.mk q [] []) ++ ([40] ++ comT [exT y] ++ [41]) := by
 intro i t s k B T hin htm hk hb
 obtain ⟨N, hn⟩ : ∃ N, B.length = N := ⟨_, rfl⟩
 have hin' : i < N := by omega
 obtain ⟨a, ha⟩ : ∃ a, s ++ (typT (.mk q [] []) ++ ([40] ++ comT [exT y] ++ [41])) = a := ⟨_, rfl⟩
 dsimp only at hb ⊢
 rw [ha]
 simp only [lnw] at hb
 have hcx : (comT (List.map exT [y])).length = (comT [exT y]).length := rfl
 change AFn _ _ _ [.ptr i 0, .agg [.d (.int .i64 8), .d (.str []), .d (.int .u64 0), .d (.int .i64 q), .d (.str []), .d (.sl []), .d (.sl []), .d (.sl [exD y])]] _ _
 refine b75.go 20 rfl fun hsm => ?_
 simp only [smw] at hsm
 simp only [W, seval, c75, hin, htm, hn]
 refine (typ_pw (.bas q (by omega) h6)).callJ hin htm hk ?_ fun s1 h_s1 => ?_
 ·try simp only [lnw]
  omega
 have hl_s1 := congrArg List.length h_s1
 simp only [lnw] at hl_s1
 refine ARun.go 60 ?_
 simp only [W, seval, c75, hn, hin]
 refine (list_Expr_pl (g := 44) (l := [y]) (tx := exT) (fun x hx => by rw [List.mem_singleton.1 hx]; exact hy) [40] [41]).callJ hin htm hk ?_ fun s2 h_s2 => ?_
 ·try simp only [lnw]
  omega
 have hl_s2 := congrArg List.length h_s2
 simp only [lnw] at hl_s2
 refine ARun.go 20 ?_
 simp only [W, seval, c75]
 refine ARun.fin Tryz.func75 rfl (PW.retJ hin htm ?_)
 subst h_s1 h_s2 ha
 exact ⟨rfl, by simp⟩
set_option maxHeartbeats 2000000 in
theorem lis_pw {y : TyT} {l : List ExT} (ht : OkT y) (hl : ∀ x ∈ l, PWE x) : PW 75 [exV (.mk 15 [] 0 (.mk 8 [] [y]) [] l)] fun _ => typT (.mk 8 [] [y]) ++ ([123] ++ comT (exTs l) ++ [125]) := by
 intro i t s k B T hin htm hk hb
 obtain ⟨N, hn⟩ : ∃ N, B.length = N := ⟨_, rfl⟩
 have hin' : i < N := by omega
 rw [exTs_map] at hb ⊢
 obtain ⟨a, ha⟩ : ∃ a, s ++ (typT (.mk 8 [] [y]) ++ ([123] ++ comT (l.map exT) ++ [125])) = a := ⟨_, rfl⟩
 dsimp only at hb ⊢
 rw [ha]
 simp only [lnw] at hb
 change AFn _ _ _ [.ptr i 0, .agg [.d (.int .i64 15), .d (.str []), .d (.int .u64 0), .d (.int .i64 8), .d (.str []), .d (.sl [tyD y]), .d (.sl []), .d (.sl (l.map exD))]] _ _
 refine b75.go 20 rfl fun hsm => ?_
 simp only [smw] at hsm
 simp only [W, seval, c75, hin, htm, hn]
 refine (typ_pw (.sli y ht)).callJ hin htm hk ?_ fun s1 h_s1 => ?_
 ·try simp only [lnw]
  omega
 have hl_s1 := congrArg List.length h_s1
 simp only [lnw] at hl_s1
 refine ARun.go 60 ?_
 simp only [W, seval, c75, hn, hin]
 refine (list_Expr_pl (g := 44) (tx := exT) hl [123] [125]).callJ hin htm hk ?_ fun s2 h_s2 => ?_
 ·try simp only [lnw]
  omega
 have hl_s2 := congrArg List.length h_s2
 simp only [lnw] at hl_s2
 refine ARun.go 20 ?_
 simp only [W, seval, c75]
 refine ARun.fin Tryz.func75 rfl (PW.retJ hin htm ?_)
 subst h_s1 h_s2 ha
 exact ⟨rfl, by simp⟩
theorem namT_len : ∀ (ns xs : List (List UInt8)), ns.length = xs.length → (namT ns xs).length = xs.length
 | [], [], _ => rfl
 | n :: ns, x :: xs, h => by
  simp only [namT, List.length_cons]
  rw [namT_len ns xs (by simpa using h)]
theorem namT_get : ∀ (ns xs : List (List UInt8)) (j : Nat) (h : j < ns.length) (h' : j < xs.length) (h2 : j < (namT ns xs).length), (namT ns xs)[j] = ns[j] ++ [58, 32] ++ xs[j]
 | n :: ns, x :: xs, 0, _, _, _ => rfl
 | n :: ns, x :: xs, j + 1, h, h', h2 => namT_get ns xs j (by simpa using h) (by simpa using h') (by simpa [namT] using h2)
theorem fitL_mid {n m : Nat} (A C : List (List V)) (x y : List V) (hy : y.all (fit n m) = true) : FitL n m (A ++ x :: C) (A ++ y :: C) := by
 intro j vs h
 rcases Nat.lt_or_ge j A.length with h' | h'
 ·rw [List.getElem?_append_left h'] at h ⊢
  exact .inl h
 ·rw [List.getElem?_append_right h'] at h ⊢
  cases hj : j - A.length with
  | zero =>
   rw [hj] at h
   obtain rfl := Option.some.inj h
   exact .inr hy
  | succ q =>
   rw [hj] at h
   exact .inl h
theorem leftS {n m i t k : Nat} {s s' : List UInt8} {B A A' J : List (List V)} {T : List (Nat × Nat)} {a b : Nat × Nat} {R : V → Mem → Prop} {v : V} (hin : i < B.length) (hB : (B ++ A).length = n) (hA : (B ++ A').length = n) (hm : T.length = m) (ht : t < m) (hl : FitL n m (B ++ A) (B ++ A'))
 (h : R (wk (B.set i (bxW i t s k) ++ A).length (T.set t a).length v) ⟨B.set i (bxW i t s' k) ++ A', T.set t b⟩) : Ab.Left ⟨B.set i (bxW i t s k) ++ A, T.set t a⟩ R v ⟨B.set i (bxW i t s' k) ++ (A' ++ J), T.set t b⟩ := by
 have := leftW (B := B ++ A) (L := B ++ A') (J := J) (i := i) (t := t) (k := k) (s := s) (s' := s') (a := a) (b := b) (R := R) (v := v) hB hA hm (by rw [← hB]; simp; omega) ht hl (by rw [List.set_append_left _ _ hin, List.set_append_left _ _ hin]; exact h)
 rw [List.set_append_left _ _ hin, List.set_append_left _ _ hin, List.append_assoc] at this
 exact this
def slL (n : List UInt8) (ns : List (List UInt8)) (l : List ExT) : List V := [.d (.int .i64 14), .d (.str []), .d (.int .u64 0), .d (.int .i64 7), .d (.str n), .d (.sl []), .d (.sl (ssD ns)), .d (.sl (l.map exD))]
set_option maxHeartbeats 2000000 in
theorem fld_ab {n : List UInt8} {ns : List (List UInt8)} {l : List ExT} {i t k N : Nat} {B J : List (List V)} {T : List (Nat × Nat)} (hn : B.length = N) (hin : i < B.length) (htm : t < T.length) (hk : k ≤ 900) {y : ExT} (hy : PWE y) (j : Nat) (hj : j < ns.length) (hj9 : (j : Int) + 1 ≤ 9223372036854775807) (s : List UInt8) (hb : s.length + (ns[j] ++ [58, 32] ++ exT y).length ≤ mostW) :
 AFn Tryz.prog TabI 108 [exV y, .ptr N 0, .ptr (N + 1) 0, .ptr (N + 2) 0] ⟨B.set i (bxW i t s k) ++ ([.ptr i 0] :: slL n ns l :: [.d (.int .i64 (j : Int))] :: J), T.set t (s.length, 1)⟩
  (Same (.tup []) ⟨B.set i (bxW i t (s ++ (ns[j] ++ [58, 32] ++ exT y)) k) ++ ([.ptr i 0] :: slL n ns l :: [.d (.int .i64 ((j + 1 : Nat) : Int))] :: J), T.set t ((s ++ (ns[j] ++ [58, 32] ++ exT y)).length, 1)⟩) := by
 obtain ⟨a, ha⟩ : ∃ a, s ++ (ns[j] ++ [58, 32] ++ exT y) = a := ⟨_, rfl⟩
 rw [ha]
 have hin' : i < N := by omega
 have hg := ss_get ns j hj
 obtain ⟨nj, hnj⟩ : ∃ x, ns[j] = x := ⟨_, rfl⟩
 rw [hnj] at hg hb ha
 simp only [lnw] at hb
 have hwj := wrap_in ((j : Int) + 1) (by omega)
 obtain ⟨M, hM⟩ : ∃ M, J.length = M := ⟨_, rfl⟩
 unfold exV slL
 refine b108.go 5 rfl fun hsm => ?_
 simp only [smw] at hsm
 simp only [W, seval, c108, hin, htm, hn, hM]
 refine ARun.drawC [7] (fun S => S.boxes[N]? = some [.ptr i 0] ∧ S.boxes[N + 1]? = some (slL n ns l) ∧ S.boxes[N + 2]? = some [.d (.int .i64 (j : Int))]) (by kernel_rfl) (by kernel_rfl) (by kernel_rfl) ?_
 simp only [W, seval, c108]
 refine lexC_q (v := ?_) (by rfl) (by kernel_rfl) (fun S hS => ?_) ?_
 rotate_left
 ·try dsimp only at hS
  simp only [W, seval, c108, hS.1]
  exact rfl
 simp only [W, seval, c108]
 refine lexC_q (v := ?_) (by rfl) (by kernel_rfl) (fun S hS => ?_) ?_
 rotate_left
 ·simp only [W, seval, c108]
  exact rfl
 simp only [W, seval, c108]
 refine lexC_q (v := ?_) (by rfl) (by kernel_rfl) (fun S hS => ?_) ?_
 rotate_left
 ·try dsimp only at hS
  simp only [W, seval, c108, hS.2.1, slL]
  exact rfl
 simp only [W, seval, c108]
 refine lexC_q (v := ?_) (by rfl) (by kernel_rfl) (fun S hS => ?_) ?_
 rotate_left
 ·try dsimp only at hS
  simp only [W, seval, c108, hS.2.2]
  exact rfl
 simp only [W, seval, c108]
 refine lexC_q (v := ?_) (by rfl) (by kernel_rfl) (fun S hS => ?_) ?_
 rotate_left
 ·simp only [W, seval, c108, hg]
  exact rfl
 simp only [W, seval, c108]
 refine lexC_q (v := ?_) (by rfl) (by kernel_rfl) (fun S hS => ?_) ?_
 rotate_left
 ·simp only [W, seval, c108]
  exact rfl
 simp only [W, seval, c108]
 refine lexC_q (v := ?_) (by rfl) (by kernel_rfl) (fun S hS => ?_) ?_
 rotate_left
 ·simp only [W, seval, c108, mapD_nil, mapD_cons]
  exact rfl
 simp only [W, seval, c108]
 refine (put2 nj [58, 32]).lexc hin htm hk ?_ ?_ (by rfl) (by kernel_rfl) ?_ fun s1 h_s1 => ?_
 ·simp only [List.length_append, List.length_cons, List.length_nil]
  omega
 ·simp [bx_loc, bx_loc0, hn, slL]
 ·simp only [W, seval, c108]
  exact ⟨_, _, rfl, rfl, rfl, by simp only [W, seval, c108]⟩
 have hl_s1 := congrArg List.length h_s1
 try dsimp only at hl_s1
 simp only [lnw] at hl_s1
 refine lexC_end (by simp [bx_loc, bx_loc0, hn, slL]) ?_
 refine ARun.go 20 ?_
 simp only [W, seval, c108, hin, hn, hM]
 refine (hy).callJ hin htm hk ?_ fun s2 h_s2 => ?_
 ·try simp only [lnw]
  omega
 have hl_s2 := congrArg List.length h_s2
 simp only [lnw] at hl_s2
 refine ARun.go 40 ?_
 simp only [W, seval, c108, hin, hn, hM, hwj]
 refine ARun.fin Tryz.func108 rfl (leftS (A' := [.ptr i 0] :: slL n ns l :: [.d (.int .i64 ((j : Int) + 1))] :: J) hin rfl (by simp) rfl htm ?_ ?_)
 ·have h := fitL_mid (n := (B ++ [.ptr i 0] :: slL n ns l :: [.d (.int .i64 (j : Int))] :: J).length) (m := T.length) (B ++ [[.ptr i 0], slL n ns l]) J [.d (.int .i64 (j : Int))] [.d (.int .i64 ((j : Int) + 1))] (by rfl)
  rw [List.append_assoc, List.append_assoc] at h
  exact h
 ·subst h_s1 h_s2 ha
  exact ⟨rfl, by simp [slL]⟩
set_option maxHeartbeats 2000000 in
theorem str_pw {n : List UInt8} {ns : List (List UInt8)} {l : List ExT} (hid : identS n = true) (hlen : ns.length = l.length) (hl : ∀ x ∈ l, PWE x) : PW 75 [exV (.mk 14 [] 0 (.mk 7 n []) ns l)] fun _ => n ++ ([123] ++ comT (namT ns (exTs l)) ++ [125]) := by
 intro i t s k B T hin htm hk hb
 obtain ⟨N, hn⟩ : ∃ N, B.length = N := ⟨_, rfl⟩
 have hin' : i < N := by omega
 obtain ⟨a, ha⟩ : ∃ a, s ++ (n ++ ([123] ++ comT (namT ns (exTs l)) ++ [125])) = a := ⟨_, rfl⟩
 dsimp only at hb ⊢
 rw [ha]
 simp only [lnw] at hb
 change AFn _ _ _ [.ptr i 0, .agg [.d (.int .i64 14), .d (.str []), .d (.int .u64 0), .d (.int .i64 7), .d (.str n), .d (.sl []), .d (.sl (ssD ns)), .d (.sl (l.map exD))]] _ _
 refine b75.go 20 rfl fun hsm => ?_
 simp only [smw] at hsm
 simp only [W, seval, c75, hin, htm, hn]
 have htl : (typT (.mk 7 n [])).length = n.length := by simp [typT]
 refine (typ_pw (.nam n hid)).callJ hin htm hk ?_ fun s1 h_s1 => ?_
 ·try simp only [lnw]
  omega
 have hl_s1 := congrArg List.length h_s1
 simp only [lnw] at hl_s1
 have hl1 : s1.length = s.length + n.length := by rw [← h_s1]; simp [typT]
 refine ARun.go 60 ?_
 simp only [W, seval, c75, hn, hin]
 have hus : (namT ns (exTs l)).length = l.length := by rw [namT_len _ _ (by rw [hlen, exTs_map]; simp), exTs_map]; simp
 have hls := list_Expr (g := 108) (first := []) (caps := [.ptr N 0, .ptr (N + 1) 0, .ptr (N + 2) 0]) (l := l) (us := namT ns (exTs l)) (i := i) (t := t) (k := k) (n := N + 3) (m := T.length) (N := fun j => B ++ [[.ptr i 0], slL n ns l, [.d (.int .i64 (j : Int))]]) (T := T) ⟨hus, fun j h h' u J hu => by
  have h2 : j < ns.length := by omega
  rw [namT_get ns _ j h2 (by rw [exTs_map]; simpa using h) h'] at hu ⊢
  have e : (exTs l)[j]'(by rw [exTs_map]; simpa using h) = exT l[j] := by simp [exTs_map]
  rw [e] at hu ⊢
  have := fld_ab (n := n) (ns := ns) (l := l) (k := k) (J := J) hn hin htm hk (hl l[j] (List.getElem_mem h)) j h2 (by omega) u hu
  rw [List.set_append_left _ _ hin, List.set_append_left _ _ hin]
  simpa only [List.append_assoc, List.cons_append, List.nil_append] using this⟩ (fun j => by simp [hn]) (by omega) rfl htm hk (fun j => by
   have h := fitL_mid (n := N + 3) (m := T.length) (B ++ [[.ptr i 0], slL n ns l]) [] [.d (.int .i64 ((0 : Nat) : Int))] [.d (.int .i64 (j : Int))] (by rfl)
   rw [List.append_assoc, List.append_assoc] at h
   exact h) [123] [125] s1 (by simp only [lnw]; omega)
 try dsimp only at hls
 rw [List.set_append_left _ _ hin, List.set_append_left _ _ hin] at hls
 refine callS_fn hls ?_
 rintro _ _ ⟨rfl, rfl⟩
 obtain ⟨s2, h_s2⟩ : ∃ s2, s1 ++ ([123] ++ comT (namT ns (exTs l)) ++ [125]) = s2 := ⟨_, rfl⟩
 rw [h_s2]
 refine ARun.go 20 ?_
 simp only [W, seval, c75]
 refine ARun.fin Tryz.func75 rfl (PW.retJ hin htm ?_)
 subst h_s1 h_s2 ha
 exact ⟨rfl, by simp [typT]⟩
def c44 := by
 have c := KK_of Tryz.f44 (by conv => lhs; cbv)
 dsimp only [KK, KxP, doO, opO, List.map_cons, List.map_nil, List.toList_toArray] at c
 exact c
theorem b44 : FnIs Tryz.prog 44 Tryz.f44 133 := ⟨Tryz.func44, by kernel_rfl⟩
set_option maxHeartbeats 4000000 in
theorem expr_pw {d : Int} {x : ExT} (h : OkE d x) : PWE x := by
 induction h with
 | nam d g hd hid =>
  intro i t s k B T hin htm hk hb
  obtain ⟨N, hn⟩ : ∃ N, B.length = N := ⟨_, rfl⟩
  have hty : exT (.mk 1 g 0 noT [] []) = g := rfl
  rw [hty] at hb ⊢
  obtain ⟨a, ha⟩ : ∃ a, s ++ g = a := ⟨_, rfl⟩
  dsimp only at hb ⊢
  rw [ha]
  change AFn _ _ _ [.ptr i 0, .agg [.d (.int .i64 1), .d (.str g), .d (.int .u64 0), .d (.int .i64 0), .d (.str []), .d (.sl []), .d (.sl []), .d (.sl [])]] _ _
  refine b44.go 90 rfl fun hsm => ?_
  simp only [smw] at hsm
  simp only [W, seval, c44, hin, htm, hn, mapD_nil, mapD_cons]
  refine (put1 g).callJ hin htm hk ?_ fun s1 h_s1 => ?_
  ·try simp only [lnw]
   omega
  have hl_s1 := congrArg List.length h_s1
  simp only [lnw] at hl_s1
  refine ARun.go 20 ?_
  simp only [W, seval, c44]
  refine ARun.fin Tryz.func44 rfl (PW.retJ hin htm ?_)
  subst h_s1 ha
  exact ⟨rfl, rfl⟩
 | num d q hd h0 h1 =>
  intro i t s k B T hin htm hk hb
  obtain ⟨N, hn⟩ : ∃ N, B.length = N := ⟨_, rfl⟩
  have hty : exT (.mk 2 [] q noT [] []) = digF 24 q.toNat := rfl
  rw [hty] at hb ⊢
  obtain ⟨a, ha⟩ : ∃ a, s ++ digF 24 q.toNat = a := ⟨_, rfl⟩
  dsimp only at hb ⊢
  rw [ha]
  change AFn _ _ _ [.ptr i 0, .agg [.d (.int .i64 2), .d (.str []), .d (.int .u64 q), .d (.int .i64 0), .d (.str []), .d (.sl []), .d (.sl []), .d (.sl [])]] _ _
  refine b44.go 90 rfl fun hsm => ?_
  simp only [smw] at hsm
  simp only [W, seval, c44, hin, htm, hn, mapD_nil, mapD_cons]
  refine callS_fn (funt_ab q h0 h1 _ _) ?_
  rintro _ _ ⟨rfl, rfl⟩
  refine ARun.go 60 ?_
  simp only [W, seval, c44, hin, htm, mapD_nil, mapD_cons]
  refine (put1 (digF 24 q.toNat)).callJ hin htm hk ?_ fun s1 h_s1 => ?_
  ·try simp only [lnw]
   omega
  have hl_s1 := congrArg List.length h_s1
  simp only [lnw] at hl_s1
  refine ARun.go 20 ?_
  simp only [W, seval, c44]
  refine ARun.fin Tryz.func44 rfl (PW.retJ hin htm ?_)
  subst h_s1 ha
  exact ⟨rfl, rfl⟩
 | tru d q hd h0 h1 =>
  intro i t s k B T hin htm hk hb
  obtain ⟨N, hn⟩ : ∃ N, B.length = N := ⟨_, rfl⟩
  obtain ⟨u, hu⟩ : ∃ u : List UInt8, (if q = 1 then [116, 114, 117, 101] else [102, 97, 108, 115, 101]) = u := ⟨_, rfl⟩
  have hty : exT (.mk 3 [] q noT [] []) = u := hu
  have hud : (if decide (q = 1) = true then [116, 114, 117, 101] else [102, 97, 108, 115, 101]) = u := by
   rw [← hu]
   by_cases e : q = 1 <;> simp [e]
  rw [hty] at hb ⊢
  obtain ⟨a, ha⟩ : ∃ a, s ++ u = a := ⟨_, rfl⟩
  dsimp only at hb ⊢
  rw [ha]
  change AFn _ _ _ [.ptr i 0, .agg [.d (.int .i64 3), .d (.str []), .d (.int .u64 q), .d (.int .i64 0), .d (.str []), .d (.sl []), .d (.sl []), .d (.sl [])]] _ _
  refine b44.go 90 rfl fun hsm => ?_
  simp only [smw] at hsm
  simp only [W, seval, c44, hin, htm, hn, mapD_nil, mapD_cons]
  refine callS_fn (fbool_ab (decide (q = 1)) _ _) ?_
  rintro _ _ ⟨rfl, rfl⟩
  rw [hud]
  refine ARun.go 60 ?_
  simp only [W, seval, c44, hin, htm, mapD_nil, mapD_cons]
  refine (put1 u).callJ hin htm hk ?_ fun s1 h_s1 => ?_
  ·try simp only [lnw]
   omega
  have hl_s1 := congrArg List.length h_s1
  simp only [lnw] at hl_s1
  refine ARun.go 20 ?_
  simp only [W, seval, c44]
  refine ARun.fin Tryz.func44 rfl (PW.retJ hin htm ?_)
  subst h_s1 ha
  exact ⟨rfl, rfl⟩
 | sgn d q y hd hq hy ih =>
  intro i t s k B T hin htm hk hb
  obtain ⟨N, hn⟩ : ∃ N, B.length = N := ⟨_, rfl⟩
  rcases hq with rfl | rfl
  ·have hty : exT (.mk 4 [] 0 noT [] [y]) = [33] ++ parT (tigB y) (exT y) := rfl
   rw [hty] at hb ⊢
   obtain ⟨a, ha⟩ : ∃ a, s ++ ([33] ++ parT (tigB y) (exT y)) = a := ⟨_, rfl⟩
   dsimp only at hb ⊢
   rw [ha]
   simp only [lnw] at hb
   change AFn _ _ _ [.ptr i 0, .agg [.d (.int .i64 4), .d (.str []), .d (.int .u64 0), .d (.int .i64 0), .d (.str []), .d (.sl []), .d (.sl []), .d (.sl [exD y])]] _ _
   refine b44.go 90 rfl fun hsm => ?_
   simp only [smw] at hsm
   simp only [W, seval, c44, hin, htm, hn, mapD_nil, mapD_cons]
   refine (put1 [33]).callJ hin htm hk ?_ fun s1 h_s1 => ?_
   ·try simp only [lnw]
    omega
   have hl_s1 := congrArg List.length h_s1
   simp only [lnw] at hl_s1
   refine ARun.go 60 ?_
   simp only [W, seval, c44, hin, htm, hn, exD_eq]
   refine (tight_pw ih).callJ hin htm hk ?_ fun s2 h_s2 => ?_
   ·try simp only [lnw]
    omega
   have hl_s2 := congrArg List.length h_s2
   simp only [lnw] at hl_s2
   refine ARun.go 20 ?_
   simp only [W, seval, c44]
   refine ARun.fin Tryz.func44 rfl (PW.retJ hin htm ?_)
   subst h_s1 h_s2 ha
   exact ⟨rfl, by simp⟩
  ·have hty : exT (.mk 5 [] 0 noT [] [y]) = [45] ++ parT (tigB y) (exT y) := rfl
   rw [hty] at hb ⊢
   obtain ⟨a, ha⟩ : ∃ a, s ++ ([45] ++ parT (tigB y) (exT y)) = a := ⟨_, rfl⟩
   dsimp only at hb ⊢
   rw [ha]
   simp only [lnw] at hb
   change AFn _ _ _ [.ptr i 0, .agg [.d (.int .i64 5), .d (.str []), .d (.int .u64 0), .d (.int .i64 0), .d (.str []), .d (.sl []), .d (.sl []), .d (.sl [exD y])]] _ _
   refine b44.go 90 rfl fun hsm => ?_
   simp only [smw] at hsm
   simp only [W, seval, c44, hin, htm, hn, mapD_nil, mapD_cons]
   refine (put1 [45]).callJ hin htm hk ?_ fun s1 h_s1 => ?_
   ·try simp only [lnw]
    omega
   have hl_s1 := congrArg List.length h_s1
   simp only [lnw] at hl_s1
   refine ARun.go 60 ?_
   simp only [W, seval, c44, hin, htm, hn, exD_eq]
   refine (tight_pw ih).callJ hin htm hk ?_ fun s2 h_s2 => ?_
   ·try simp only [lnw]
    omega
   have hl_s2 := congrArg List.length h_s2
   simp only [lnw] at hl_s2
   refine ARun.go 20 ?_
   simp only [W, seval, c44]
   refine ARun.fin Tryz.func44 rfl (PW.retJ hin htm ?_)
   subst h_s1 h_s2 ha
   exact ⟨rfl, by simp⟩
 | bin d g y z hd hg hy hz ihy ihz =>
  intro i t s k B T hin htm hk hb
  obtain ⟨N, hn⟩ : ∃ N, B.length = N := ⟨_, rfl⟩
  obtain ⟨u, hu⟩ : ∃ u, exT (.mk 6 g 0 noT [] [y, z]) = u := ⟨_, rfl⟩
  have hb6 : PW 73 [exV (.mk 6 g 0 noT [] [y, z])] fun _ => u := (binary_pw g ihy ihz).cong fun _ => hu
  rw [hu] at hb ⊢
  obtain ⟨a, ha⟩ : ∃ a, s ++ u = a := ⟨_, rfl⟩
  dsimp only at hb ⊢
  rw [ha]
  change AFn _ _ _ [.ptr i 0, .agg [.d (.int .i64 6), .d (.str g), .d (.int .u64 0), .d (.int .i64 0), .d (.str []), .d (.sl []), .d (.sl []), .d (.sl [exD y, exD z])]] _ _
  refine b44.go 90 rfl fun hsm => ?_
  simp only [smw] at hsm
  simp only [W, seval, c44, hin, htm, hn]
  refine (hb6).callJ hin htm hk ?_ fun s1 h_s1 => ?_
  ·try simp only [lnw]
   omega
  have hl_s1 := congrArg List.length h_s1
  simp only [lnw] at hl_s1
  refine ARun.go 20 ?_
  simp only [W, seval, c44]
  refine ARun.fin Tryz.func44 rfl (PW.retJ hin htm ?_)
  subst h_s1 ha
  exact ⟨rfl, rfl⟩
 | cal d g ks hd hg hks ih =>
  intro i t s k B T hin htm hk hb
  obtain ⟨N, hn⟩ : ∃ N, B.length = N := ⟨_, rfl⟩
  have hty : exT (.mk 7 g 0 noT [] ks) = g ++ [40] ++ comT (ks.map exT) ++ [41] := by
   rw [← exTs_map]
   rfl
  rw [hty] at hb ⊢
  obtain ⟨a, ha⟩ : ∃ a, s ++ (g ++ [40] ++ comT (ks.map exT) ++ [41]) = a := ⟨_, rfl⟩
  dsimp only at hb ⊢
  rw [ha]
  simp only [lnw] at hb
  have hgl : g.length + 1 ≤ 9223372036854775807 := by unfold mostW at hb; omega
  change AFn _ _ _ [.ptr i 0, .agg [.d (.int .i64 7), .d (.str g), .d (.int .u64 0), .d (.int .i64 0), .d (.str []), .d (.sl []), .d (.sl []), .d (.sl (ks.map exD))]] _ _
  refine b44.go 120 rfl fun hsm => ?_
  simp only [smw] at hsm
  simp only [W, seval, c44, hin, htm, hn, hgl]
  refine (list_Expr_pl (g := 44) (tx := exT) ih (g ++ [40]) [41]).callJ hin htm hk ?_ fun s1 h_s1 => ?_
  ·try simp only [lnw]
   omega
  have hl_s1 := congrArg List.length h_s1
  simp only [lnw] at hl_s1
  refine ARun.go 20 ?_
  simp only [W, seval, c44]
  refine ARun.fin Tryz.func44 rfl (PW.retJ hin htm ?_)
  subst h_s1 ha
  exact ⟨rfl, by simp⟩
 | con d q y hd h2 h6 hy ih =>
  intro i t s k B T hin htm hk hb
  obtain ⟨N, hn⟩ : ∃ N, B.length = N := ⟨_, rfl⟩
  obtain ⟨u, hu⟩ : ∃ u, exT (.mk 8 [] 0 (.mk q [] []) [] [y]) = u := ⟨_, rfl⟩
  have hb8 : PW 75 [exV (.mk 8 [] 0 (.mk q [] []) [] [y])] fun _ => u := (conv_pw q h2 h6 ih).cong fun _ => hu
  rw [hu] at hb ⊢
  obtain ⟨a, ha⟩ : ∃ a, s ++ u = a := ⟨_, rfl⟩
  dsimp only at hb ⊢
  rw [ha]
  change AFn _ _ _ [.ptr i 0, .agg [.d (.int .i64 8), .d (.str []), .d (.int .u64 0), .d (.int .i64 q), .d (.str []), .d (.sl []), .d (.sl []), .d (.sl [exD y])]] _ _
  refine b44.go 120 rfl fun hsm => ?_
  simp only [smw] at hsm
  simp only [W, seval, c44, hin, htm, hn]
  refine (hb8).callJ hin htm hk ?_ fun s1 h_s1 => ?_
  ·try simp only [lnw]
   omega
  have hl_s1 := congrArg List.length h_s1
  simp only [lnw] at hl_s1
  refine ARun.go 20 ?_
  simp only [W, seval, c44]
  refine ARun.fin Tryz.func44 rfl (PW.retJ hin htm ?_)
  subst h_s1 ha
  exact ⟨rfl, rfl⟩
 | str d n ns ks hd hid hlen hns hks ih =>
  intro i t s k B T hin htm hk hb
  obtain ⟨N, hn⟩ : ∃ N, B.length = N := ⟨_, rfl⟩
  obtain ⟨u, hu⟩ : ∃ u, exT (.mk 14 [] 0 (.mk 7 n []) ns ks) = u := ⟨_, rfl⟩
  have hb8 : PW 75 [exV (.mk 14 [] 0 (.mk 7 n []) ns ks)] fun _ => u := (str_pw hid hlen ih).cong fun _ => hu
  rw [hu] at hb ⊢
  obtain ⟨a, ha⟩ : ∃ a, s ++ u = a := ⟨_, rfl⟩
  dsimp only at hb ⊢
  rw [ha]
  change AFn _ _ _ [.ptr i 0, .agg [.d (.int .i64 14), .d (.str []), .d (.int .u64 0), .d (.int .i64 7), .d (.str n), .d (.sl []), .d (.sl (ssD ns)), .d (.sl (ks.map exD))]] _ _
  refine b44.go 120 rfl fun hsm => ?_
  simp only [smw] at hsm
  simp only [W, seval, c44, hin, htm, hn]
  refine (hb8).callJ hin htm hk ?_ fun s1 h_s1 => ?_
  ·try simp only [lnw]
   omega
  have hl_s1 := congrArg List.length h_s1
  simp only [lnw] at hl_s1
  refine ARun.go 20 ?_
  simp only [W, seval, c44]
  refine ARun.fin Tryz.func44 rfl (PW.retJ hin htm ?_)
  subst h_s1 ha
  exact ⟨rfl, rfl⟩
 | lis d y ks hd hy hks ih =>
  intro i t s k B T hin htm hk hb
  obtain ⟨N, hn⟩ : ∃ N, B.length = N := ⟨_, rfl⟩
  obtain ⟨u, hu⟩ : ∃ u, exT (.mk 15 [] 0 (.mk 8 [] [y]) [] ks) = u := ⟨_, rfl⟩
  have hb8 : PW 75 [exV (.mk 15 [] 0 (.mk 8 [] [y]) [] ks)] fun _ => u := (lis_pw hy ih).cong fun _ => hu
  rw [hu] at hb ⊢
  obtain ⟨a, ha⟩ : ∃ a, s ++ u = a := ⟨_, rfl⟩
  dsimp only at hb ⊢
  rw [ha]
  change AFn _ _ _ [.ptr i 0, .agg [.d (.int .i64 15), .d (.str []), .d (.int .u64 0), .d (.int .i64 8), .d (.str []), .d (.sl [tyD y]), .d (.sl []), .d (.sl (ks.map exD))]] _ _
  refine b44.go 120 rfl fun hsm => ?_
  simp only [smw] at hsm
  simp only [W, seval, c44, hin, htm, hn]
  refine (hb8).callJ hin htm hk ?_ fun s1 h_s1 => ?_
  ·try simp only [lnw]
   omega
  have hl_s1 := congrArg List.length h_s1
  simp only [lnw] at hl_s1
  refine ARun.go 20 ?_
  simp only [W, seval, c44]
  refine ARun.fin Tryz.func44 rfl (PW.retJ hin htm ?_)
  subst h_s1 ha
  exact ⟨rfl, rfl⟩
 | fld d g y hd hg hy ih =>
  intro i t s k B T hin htm hk hb
  obtain ⟨N, hn⟩ : ∃ N, B.length = N := ⟨_, rfl⟩
  have hty : exT (.mk 9 g 0 noT [] [y]) = parT (tigB y) (exT y) ++ ([46] ++ g) := rfl
  rw [hty] at hb ⊢
  obtain ⟨a, ha⟩ : ∃ a, s ++ (parT (tigB y) (exT y) ++ ([46] ++ g)) = a := ⟨_, rfl⟩
  dsimp only at hb ⊢
  rw [ha]
  simp only [lnw] at hb
  change AFn _ _ _ [.ptr i 0, .agg [.d (.int .i64 9), .d (.str g), .d (.int .u64 0), .d (.int .i64 0), .d (.str []), .d (.sl []), .d (.sl []), .d (.sl [exD y])]] _ _
  refine b44.go 120 rfl fun hsm => ?_
  simp only [smw] at hsm
  simp only [W, seval, c44, hin, htm, hn, exD_eq]
  refine (tight_pw ih).callJ hin htm hk ?_ fun s1 h_s1 => ?_
  ·try simp only [lnw]
   omega
  have hl_s1 := congrArg List.length h_s1
  simp only [lnw] at hl_s1
  refine ARun.go 60 ?_
  simp only [W, seval, c44, hin, htm, hn, mapD_nil, mapD_cons]
  refine (put2 [46] g).callJ hin htm hk ?_ fun s2 h_s2 => ?_
  ·try simp only [lnw]
   omega
  have hl_s2 := congrArg List.length h_s2
  simp only [lnw] at hl_s2
  refine ARun.go 20 ?_
  simp only [W, seval, c44]
  refine ARun.fin Tryz.func44 rfl (PW.retJ hin htm ?_)
  subst h_s1 h_s2 ha
  exact ⟨rfl, by simp⟩
 | idx d y z hd hy hz ihy ihz =>
  intro i t s k B T hin htm hk hb
  obtain ⟨N, hn⟩ : ∃ N, B.length = N := ⟨_, rfl⟩
  have hty : exT (.mk 10 [] 0 noT [] [y, z]) = parT (tigB y) (exT y) ++ [91] ++ exT z ++ [93] := rfl
  rw [hty] at hb ⊢
  obtain ⟨a, ha⟩ : ∃ a, s ++ (parT (tigB y) (exT y) ++ [91] ++ exT z ++ [93]) = a := ⟨_, rfl⟩
  dsimp only at hb ⊢
  rw [ha]
  simp only [lnw] at hb
  change AFn _ _ _ [.ptr i 0, .agg [.d (.int .i64 10), .d (.str []), .d (.int .u64 0), .d (.int .i64 0), .d (.str []), .d (.sl []), .d (.sl []), .d (.sl [exD y, exD z])]] _ _
  refine b44.go 120 rfl fun hsm => ?_
  simp only [smw] at hsm
  simp only [W, seval, c44, hin, htm, hn, exD_eq]
  refine (tight_pw ihy).callJ hin htm hk ?_ fun s1 h_s1 => ?_
  ·try simp only [lnw]
   omega
  have hl_s1 := congrArg List.length h_s1
  simp only [lnw] at hl_s1
  refine ARun.go 60 ?_
  simp only [W, seval, c44, hin, htm, hn, mapD_nil, mapD_cons]
  refine (put1 [91]).callJ hin htm hk ?_ fun s2 h_s2 => ?_
  ·try simp only [lnw]
   omega
  have hl_s2 := congrArg List.length h_s2
  simp only [lnw] at hl_s2
  refine ARun.go 60 ?_
  simp only [W, seval, c44, hin, htm, hn, exD_eq]
  refine (ihz).callJ hin htm hk ?_ fun s3 h_s3 => ?_
  ·try simp only [lnw]
   omega
  have hl_s3 := congrArg List.length h_s3
  simp only [lnw] at hl_s3
  refine ARun.go 60 ?_
  simp only [W, seval, c44, hin, htm, hn, mapD_nil, mapD_cons]
  refine (put1 [93]).callJ hin htm hk ?_ fun s4 h_s4 => ?_
  ·try simp only [lnw]
   omega
  have hl_s4 := congrArg List.length h_s4
  simp only [lnw] at hl_s4
  refine ARun.go 20 ?_
  simp only [W, seval, c44]
  refine ARun.fin Tryz.func44 rfl (PW.retJ hin htm ?_)
  subst h_s1 h_s2 h_s3 h_s4 ha
  exact ⟨rfl, by simp⟩
 | cut d y z v hd hy hz hv ihy ihz ihv =>
  intro i t s k B T hin htm hk hb
  obtain ⟨N, hn⟩ : ∃ N, B.length = N := ⟨_, rfl⟩
  have hty : exT (.mk 11 [] 0 noT [] [y, z, v]) = parT (tigB y) (exT y) ++ [91] ++ exT z ++ [58] ++ exT v ++ [93] := rfl
  rw [hty] at hb ⊢
  obtain ⟨a, ha⟩ : ∃ a, s ++ (parT (tigB y) (exT y) ++ [91] ++ exT z ++ [58] ++ exT v ++ [93]) = a := ⟨_, rfl⟩
  dsimp only at hb ⊢
  rw [ha]
  simp only [lnw] at hb
  change AFn _ _ _ [.ptr i 0, .agg [.d (.int .i64 11), .d (.str []), .d (.int .u64 0), .d (.int .i64 0), .d (.str []), .d (.sl []), .d (.sl []), .d (.sl [exD y, exD z, exD v])]] _ _
  refine b44.go 120 rfl fun hsm => ?_
  simp only [smw] at hsm
  simp only [W, seval, c44, hin, htm, hn, exD_eq]
  refine (tight_pw ihy).callJ hin htm hk ?_ fun s1 h_s1 => ?_
  ·try simp only [lnw]
   omega
  have hl_s1 := congrArg List.length h_s1
  simp only [lnw] at hl_s1
  refine ARun.go 60 ?_
  simp only [W, seval, c44, hin, htm, hn, mapD_nil, mapD_cons]
  refine (put1 [91]).callJ hin htm hk ?_ fun s2 h_s2 => ?_
  ·try simp only [lnw]
   omega
  have hl_s2 := congrArg List.length h_s2
  simp only [lnw] at hl_s2
  refine ARun.go 60 ?_
  simp only [W, seval, c44, hin, htm, hn, exD_eq]
  refine (ihz).callJ hin htm hk ?_ fun s3 h_s3 => ?_
  ·try simp only [lnw]
   omega
  have hl_s3 := congrArg List.length h_s3
  simp only [lnw] at hl_s3
  refine ARun.go 60 ?_
  simp only [W, seval, c44, hin, htm, hn, mapD_nil, mapD_cons]
  refine (put1 [58]).callJ hin htm hk ?_ fun s4 h_s4 => ?_
  ·try simp only [lnw]
   omega
  have hl_s4 := congrArg List.length h_s4
  simp only [lnw] at hl_s4
  refine ARun.go 60 ?_
  simp only [W, seval, c44, hin, htm, hn, exD_eq]
  refine (ihv).callJ hin htm hk ?_ fun s5 h_s5 => ?_
  ·try simp only [lnw]
   omega
  have hl_s5 := congrArg List.length h_s5
  simp only [lnw] at hl_s5
  refine ARun.go 60 ?_
  simp only [W, seval, c44, hin, htm, hn, mapD_nil, mapD_cons]
  refine (put1 [93]).callJ hin htm hk ?_ fun s6 h_s6 => ?_
  ·try simp only [lnw]
   omega
  have hl_s6 := congrArg List.length h_s6
  simp only [lnw] at hl_s6
  refine ARun.go 20 ?_
  simp only [W, seval, c44]
  refine ARun.fin Tryz.func44 rfl (PW.retJ hin htm ?_)
  subst h_s1 h_s2 h_s3 h_s4 h_s5 h_s6 ha
  exact ⟨rfl, by simp⟩
 | len d y hd hy ih =>
  intro i t s k B T hin htm hk hb
  obtain ⟨N, hn⟩ : ∃ N, B.length = N := ⟨_, rfl⟩
  have hty : exT (.mk 12 [] 0 noT [] [y]) = [108, 101, 110, 40] ++ comT (List.map exT [y]) ++ [41] := rfl
  rw [hty] at hb ⊢
  obtain ⟨a, ha⟩ : ∃ a, s ++ ([108, 101, 110, 40] ++ comT (List.map exT [y]) ++ [41]) = a := ⟨_, rfl⟩
  dsimp only at hb ⊢
  rw [ha]
  simp only [lnw] at hb
  change AFn _ _ _ [.ptr i 0, .agg [.d (.int .i64 12), .d (.str []), .d (.int .u64 0), .d (.int .i64 0), .d (.str []), .d (.sl []), .d (.sl []), .d (.sl [exD y])]] _ _
  refine b44.go 120 rfl fun hsm => ?_
  simp only [smw] at hsm
  simp only [W, seval, c44, hin, htm, hn]
  refine (list_Expr_pl (g := 44) (l := [y]) (tx := exT) (fun x hx => by rw [List.mem_singleton.1 hx]; exact ih) [108, 101, 110, 40] [41]).callJ hin htm hk ?_ fun s1 h_s1 => ?_
  ·try simp only [lnw]
   omega
  have hl_s1 := congrArg List.length h_s1
  simp only [lnw] at hl_s1
  refine ARun.go 20 ?_
  simp only [W, seval, c44]
  refine ARun.fin Tryz.func44 rfl (PW.retJ hin htm ?_)
  subst h_s1 ha
  exact ⟨rfl, by simp⟩
 | app d y z hd hy hz ihy ihz =>
  intro i t s k B T hin htm hk hb
  obtain ⟨N, hn⟩ : ∃ N, B.length = N := ⟨_, rfl⟩
  have hyz : ∀ x ∈ [y, z], PWE x := by
   intro x hx
   rcases List.mem_cons.1 hx with rfl | hx
   ·exact ihy
   ·rw [List.mem_singleton.1 hx]
    exact ihz
  have hty : exT (.mk 13 [] 0 noT [] [y, z]) = [97, 112, 112, 101, 110, 100, 40] ++ comT (List.map exT [y, z]) ++ [41] := rfl
  rw [hty] at hb ⊢
  obtain ⟨a, ha⟩ : ∃ a, s ++ ([97, 112, 112, 101, 110, 100, 40] ++ comT (List.map exT [y, z]) ++ [41]) = a := ⟨_, rfl⟩
  dsimp only at hb ⊢
  rw [ha]
  simp only [lnw] at hb
  change AFn _ _ _ [.ptr i 0, .agg [.d (.int .i64 13), .d (.str []), .d (.int .u64 0), .d (.int .i64 0), .d (.str []), .d (.sl []), .d (.sl []), .d (.sl [exD y, exD z])]] _ _
  refine b44.go 120 rfl fun hsm => ?_
  simp only [smw] at hsm
  simp only [W, seval, c44, hin, htm, hn]
  refine (list_Expr_pl (g := 44) (l := [y, z]) (tx := exT) hyz [97, 112, 112, 101, 110, 100, 40] [41]).callJ hin htm hk ?_ fun s1 h_s1 => ?_
  ·try simp only [lnw]
   omega
  have hl_s1 := congrArg List.length h_s1
  simp only [lnw] at hl_s1
  refine ARun.go 20 ?_
  simp only [W, seval, c44]
  refine ARun.fin Tryz.func44 rfl (PW.retJ hin htm ?_)
  subst h_s1 ha
  exact ⟨rfl, by simp⟩
end Go.Proofs.YtfaoamebphckbaaGreatDoor
namespace Go.Proofs.YtfaoamebphckbaaGreatDoor
open Go.RowKit Go.Av
set_option linter.unusedSimpArgs false
set_option linter.unusedVariables false
mutual
def tokT : TyT → List Wd
 | .mk k n es => if k = 7 then [(1, n, 0)] else if k = 8 then [(3, [91], 0), (3, [93], 0)] ++ tokTl es else [(4, basT k, 0)]
def tokTl : List TyT → List Wd
 | [] => []
 | t :: _ => tokT t
end
def comK : Bool → List (List Wd) → List Wd
 | _, [] => []
 | b, x :: l => (if b = true then [(3, [44], 0)] else []) ++ (x ++ comK true l)
def parK (b : Bool) (t : List Wd) : List Wd := if b = true then [(3, [40], 0)] ++ t ++ [(3, [41], 0)] else t
def namK : List (List UInt8) → List (List Wd) → List (List Wd)
 | n :: ns, x :: xs => ([(1, n, 0)] ++ [(3, [58], 0)] ++ x) :: namK ns xs
 | _, _ => []
def tkB (k : Int) (t : List UInt8) (i : Int) (ty : TyT) (ns : List (List UInt8)) (ks : List ExT) (ts : List (List Wd)) : List Wd :=
 if k = 1 then [(1, t, 0)]
 else if k = 2 then [(2, digF 24 i.toNat, i.toNat)]
 else if k = 3 then (if i = 1 then [(4, [116, 114, 117, 101], 0)] else [(4, [102, 97, 108, 115, 101], 0)])
 else if k = 4 then [(3, [33], 0)] ++ parK (tigB (kidE ks 0)) (ts.getD 0 [])
 else if k = 5 then [(3, [45], 0)] ++ parK (tigB (kidE ks 0)) (ts.getD 0 [])
 else if k = 6 then parK (lowB (kidE ks 0) (rankS t)) (ts.getD 0 []) ++ [(3, t, 0)] ++ parK (lowB (kidE ks 1) (rankS t + 1)) (ts.getD 1 [])
 else if k = 7 then [(1, t, 0)] ++ [(3, [40], 0)] ++ comK false ts ++ [(3, [41], 0)]
 else if k = 12 then [(4, [108, 101, 110], 0)] ++ [(3, [40], 0)] ++ comK false ts ++ [(3, [41], 0)]
 else if k = 13 then [(4, [97, 112, 112, 101, 110, 100], 0)] ++ [(3, [40], 0)] ++ comK false ts ++ [(3, [41], 0)]
 else if k = 9 then parK (tigB (kidE ks 0)) (ts.getD 0 []) ++ ([(3, [46], 0)] ++ [(1, t, 0)])
 else if k = 10 then parK (tigB (kidE ks 0)) (ts.getD 0 []) ++ [(3, [91], 0)] ++ ts.getD 1 [] ++ [(3, [93], 0)]
 else if k = 11 then parK (tigB (kidE ks 0)) (ts.getD 0 []) ++ [(3, [91], 0)] ++ ts.getD 1 [] ++ [(3, [58], 0)] ++ ts.getD 2 [] ++ [(3, [93], 0)]
 else tokT ty ++ (if k = 8 then [(3, [40], 0)] ++ comK false ts ++ [(3, [41], 0)] else if k = 15 then [(3, [123], 0)] ++ comK false ts ++ [(3, [125], 0)] else [(3, [123], 0)] ++ comK false (namK ns ts) ++ [(3, [125], 0)])
mutual
def tokE : ExT → List Wd
 | .mk k t i ty ns ks => tkB k t i ty ns ks (tokEs ks)
def tokEs : List ExT → List (List Wd)
 | [] => []
 | x :: l => tokE x :: tokEs l
end
theorem tokEs_map : ∀ l : List ExT, tokEs l = l.map tokE
 | [] => by simp [tokEs]
 | x :: l => by simp [tokEs, tokEs_map l]
inductive All2 {α β : Type} (R : α → β → Prop) : List α → List β → Prop
 | nil : All2 R [] []
 | cons {a : α} {b : β} {l : List α} {m : List β} : R a b → All2 R l m → All2 R (a :: l) (b :: m)
def Lx (s : List UInt8) (t : List Wd) : Prop := ∀ (f : Nat) (r : List UInt8), stopB r = true → wordsT (f + t.length) (s ++ r) = t ++ wordsT f r
def LxA (s : List UInt8) (t : List Wd) : Prop := ∀ (f : Nat) (r : List UInt8), wordsT (f + t.length) (s ++ r) = t ++ wordsT f r
theorem LxA.lx {s : List UInt8} {t : List Wd} (h : LxA s t) : Lx s t := fun f r _ => h f r
theorem LxA.app {s1 s2 : List UInt8} {t1 t2 : List Wd} (h1 : LxA s1 t1) (h2 : LxA s2 t2) : LxA (s1 ++ s2) (t1 ++ t2) := fun f r => by
 rw [List.append_assoc, List.length_append, Nat.add_comm t1.length, ← Nat.add_assoc, h1, h2, List.append_assoc]
theorem LxA.then {s1 s2 : List UInt8} {t1 t2 : List Wd} (h1 : LxA s1 t1) (h2 : Lx s2 t2) : Lx (s1 ++ s2) (t1 ++ t2) := fun f r hr => by
 rw [List.append_assoc, List.length_append, Nat.add_comm t1.length, ← Nat.add_assoc, h1, h2 f r hr, List.append_assoc]
theorem Lx.then {s1 s2 : List UInt8} {t1 t2 : List Wd} (h1 : Lx s1 t1) (hs : ∀ r, stopB r = true → stopB (s2 ++ r) = true) (h2 : Lx s2 t2) : Lx (s1 ++ s2) (t1 ++ t2) := fun f r hr => by
 rw [List.append_assoc, List.length_append, Nat.add_comm t1.length, ← Nat.add_assoc, h1 _ _ (hs r hr), h2 f r hr, List.append_assoc]
theorem Lx.shut {s1 s2 : List UInt8} {t1 t2 : List Wd} (h1 : Lx s1 t1) (hs : ∀ r, stopB (s2 ++ r) = true) (h2 : LxA s2 t2) : LxA (s1 ++ s2) (t1 ++ t2) := fun f r => by
 rw [List.append_assoc, List.length_append, Nat.add_comm t1.length, ← Nat.add_assoc, h1 _ _ (hs r), h2 f r, List.append_assoc]
theorem lx_sign {c : UInt8} (h : c ∈ [(40 : UInt8), 41, 123, 125, 91, 93, 44, 46, 58, 45]) : LxA [c] [(3, [c], 0)] := fun f r => words_sign1 h f r
theorem lx_blank : LxA [32] [] := fun f r => by
 cases f with
 | zero => rfl
 | succ f => exact words_blank f r
theorem lx_line : LxA [10] [] := fun f r => by
 cases f with
 | zero => rfl
 | succ f => exact words_line f r
theorem lx_tabs (n : Nat) : LxA (tabT n) [] := fun f r => by
 cases f with
 | zero => rfl
 | succ f => exact words_tabs f r n
theorem lx_name {s : List UInt8} (h : identS s = true) : Lx s [(1, s, 0)] := fun f r hr => words_name h hr f
theorem lx_key {s : List UInt8} (h : s ∈ keysL) : Lx s [(4, s, 0)] := fun f r hr => words_key h hr f
theorem lx_num {i : Int} (h0 : 0 ≤ i) (h : i ≤ 18446744073709551615) : Lx (digF 24 i.toNat) [(2, digF 24 i.toNat, i.toNat)] := fun f r hr => words_num (by unfold maxU; omega) hr f
theorem lx_op {s : List UInt8} (h : 0 < rankS s) : LxA ([32] ++ s ++ [32]) [(3, s, 0)] := fun f r => by
 have h1 := words_op h f r
 have h2 := lx_blank (f + 1) (s ++ 32 :: r)
 have h3 := lx_blank f r
 rw [List.append_assoc, List.append_assoc]
 show wordsT (f + 1) ([32] ++ (s ++ 32 :: r)) = _
 rw [show wordsT (f + 1) ([32] ++ (s ++ 32 :: r)) = wordsT (f + 1) (s ++ 32 :: r) from h2, h1]
 show _ :: wordsT f ([32] ++ r) = _
 rw [show wordsT f ([32] ++ r) = wordsT f r from h3]
 rfl
theorem lx_not {s : List UInt8} {t : List Wd} (h : Lx s t) (hs : ∃ c l, s = c :: l ∧ c ≠ 61) : Lx ([33] ++ s) ([(3, [33], 0)] ++ t) := fun f r hr => by
 obtain ⟨c, l, rfl, hc⟩ := hs
 have h1 := words_not (f + t.length) (c :: l ++ r) (by simpa using hc)
 have h2 := h f r hr
 show wordsT (f + t.length + 1) (33 :: (c :: l ++ r)) = _
 rw [h1, h2]
 rfl
theorem lx_par {s : List UInt8} {t : List Wd} (h : Lx s t) (b : Bool) : Lx (parT b s) (parK b t) := by
 unfold parT parK
 split
 ·exact (((lx_sign (by decide)).then h).shut (fun r => rfl) (lx_sign (by decide))).lx
 ·exact h
theorem com_stop (l : List (List UInt8)) (r : List UInt8) (hr : stopB r = true) : stopB (comB true l ++ r) = true := by
 cases l with
 | nil => exact hr
 | cons x l => rfl
theorem lx_com (ss : List (List UInt8)) (ts : List (List Wd)) (h : All2 Lx ss ts) : ∀ b, Lx (comB b ss) (comK b ts) := by
 induction h with
 | nil => exact fun b f r _ => rfl
 | @cons s t ss ts h1 _ ih =>
  intro b
  have hx := h1.then (com_stop ss) (ih true)
  unfold comB comK
  cases b
  ·exact hx
  ·exact ((lx_sign (c := 44) (by decide)).app lx_blank).then hx
theorem lx_type : ∀ {t : TyT}, OkT t → Lx (typT t) (tokT t) := by
 intro t h
 induction h with
 | bas k h1 h2 =>
  have : basT k ∈ keysL := by
   have hk : k = 1 ∨ k = 2 ∨ k = 3 ∨ k = 4 ∨ k = 5 ∨ k = 6 := by omega
   rcases hk with rfl | rfl | rfl | rfl | rfl | rfl <;> decide
  have e1 : typT (.mk k [] []) = basT k := by unfold typT; rw [if_neg (by omega), if_neg (by omega)]
  have e2 : tokT (.mk k [] []) = [(4, basT k, 0)] := by unfold tokT; rw [if_neg (by omega), if_neg (by omega)]
  rw [e1, e2]
  exact lx_key this
 | nam n h => exact lx_name h
 | sli t h ih => exact ((lx_sign (c := 91) (by decide)).app (lx_sign (c := 93) (by decide))).then ih
theorem forall2_map {α β γ : Type} {R : β → γ → Prop} {f : α → β} {g : α → γ} : ∀ l : List α, (∀ x ∈ l, R (f x) (g x)) → All2 R (l.map f) (l.map g)
 | [], _ => .nil
 | x :: l, h => .cons (h x List.mem_cons_self) (forall2_map l fun y hy => h y (List.mem_cons_of_mem _ hy))
theorem lx_names : ∀ (ns : List (List UInt8)) (ks : List ExT), (∀ m ∈ ns, identS m = true) → (∀ x ∈ ks, Lx (exT x) (tokE x)) → All2 Lx (namT ns (ks.map exT)) (namK ns (ks.map tokE))
 | [], _, _, _ => .nil
 | _ :: _, [], _, _ => .nil
 | n :: ns, x :: ks, h1, h2 => by
  refine .cons ?_ (lx_names ns ks (fun m hm => h1 m (List.mem_cons_of_mem _ hm)) fun y hy => h2 y (List.mem_cons_of_mem _ hy))
  have hn := lx_name (h1 n List.mem_cons_self)
  exact (hn.shut (s2 := [58, 32]) (fun r => rfl) (((lx_sign (c := 58) (by decide)).app lx_blank))).then (h2 x List.mem_cons_self)
theorem par_head {s : List UInt8} (h : ∃ c l, s = c :: l ∧ c ≠ 61) (b : Bool) : ∃ c l, parT b s = c :: l ∧ c ≠ 61 := by
 unfold parT
 split
 ·exact ⟨40, s ++ [41], rfl, by decide⟩
 ·exact h
theorem head_app {s : List UInt8} (h : ∃ c l, s = c :: l ∧ c ≠ 61) (r : List UInt8) : ∃ c l, s ++ r = c :: l ∧ c ≠ 61 := by
 obtain ⟨c, l, rfl, hc⟩ := h
 exact ⟨c, l ++ r, rfl, hc⟩
theorem ident_head {s : List UInt8} (h : identS s = true) : ∃ c l, s = c :: l ∧ c ≠ 61 := by
 obtain ⟨h1, h2, _⟩ := identQ h
 cases s with
 | nil => exact absurd rfl h1
 | cons c l =>
  refine ⟨c, l, rfl, ?_⟩
  rintro rfl
  exact absurd h2 (by show ¬ letterB 61 = true; decide)
theorem type_head {t : TyT} (h : OkT t) : ∃ c l, typT t = c :: l ∧ c ≠ 61 := by
 cases h with
 | bas k h1 h2 =>
  have hk : k = 1 ∨ k = 2 ∨ k = 3 ∨ k = 4 ∨ k = 5 ∨ k = 6 := by omega
  rcases hk with rfl | rfl | rfl | rfl | rfl | rfl <;> exact ⟨_, _, rfl, by decide⟩
 | nam n h => exact ident_head h
 | sli t h => exact ⟨91, _, rfl, by decide⟩
theorem dig_head {i : Int} (h0 : 0 ≤ i) (h : i ≤ 18446744073709551615) : ∃ c l, digF 24 i.toNat = c :: l ∧ c ≠ 61 := by
 obtain ⟨h1, _, h3, _⟩ := dig_all 24 i.toNat (by omega)
 cases hq : digF 24 i.toNat with
 | nil => exact absurd hq h3
 | cons c l =>
  refine ⟨c, l, rfl, ?_⟩
  rintro rfl
  have := h1 61 (by rw [hq]; exact List.mem_cons_self)
  exact absurd this (by decide)
theorem ex_head {d : Int} {x : ExT} (h : OkE d x) : ∃ c l, exT x = c :: l ∧ c ≠ 61 := by
 induction h with
 | nam d t _ h => exact ident_head h
 | num d i _ h0 h => exact dig_head h0 h
 | tru d i _ h0 h1 =>
  have hi : i = 0 ∨ i = 1 := by omega
  rcases hi with rfl | rfl <;> exact ⟨_, _, rfl, by decide⟩
 | sgn d k y _ hk _ _ => rcases hk with rfl | rfl <;> exact ⟨_, _, rfl, by decide⟩
 | bin d t y z _ _ _ _ ihy _ => exact head_app (head_app (par_head ihy _) _) _
 | cal d t ks _ h _ _ => exact head_app (head_app (head_app (ident_head h) _) _) _
 | con d k y _ h1 h2 _ _ => exact head_app (type_head (.bas k (by omega) h2)) _
 | fld d t y _ _ _ ihy => exact head_app (par_head ihy _) _
 | idx d y z _ _ _ ihy _ => exact head_app (head_app (head_app (par_head ihy _) _) _) _
 | cut d y z u _ _ _ _ ihy _ _ => exact head_app (head_app (head_app (head_app (head_app (par_head ihy _) _) _) _) _) _
 | len d y _ _ _ => exact ⟨_, _, rfl, by decide⟩
 | app d y z _ _ _ _ _ => exact ⟨_, _, rfl, by decide⟩
 | str d n ns ks _ h _ _ _ _ => exact head_app (ident_head h) _
 | lis d t ks _ h _ _ => exact ⟨91, _, rfl, by decide⟩
theorem lx_expr {d : Int} {x : ExT} (h : OkE d x) : Lx (exT x) (tokE x) := by
 have sg : ∀ c : UInt8, c ∈ [(40 : UInt8), 41, 123, 125, 91, 93, 44, 46, 58, 45] → LxA [c] [(3, [c], 0)] := fun c h => lx_sign h
 have one : ∀ (y : ExT), Lx (exT y) (tokE y) → Lx (comB false [exT y]) (comK false [tokE y]) := fun y h => lx_com _ _ (.cons h .nil) _
 induction h with
 | nam d t _ h => exact lx_name h
 | num d i _ h0 h => exact lx_num h0 h
 | tru d i _ h0 h1 =>
  have hi : i = 0 ∨ i = 1 := by omega
  rcases hi with rfl | rfl
  ·exact lx_key (s := [102, 97, 108, 115, 101]) (by decide)
  ·exact lx_key (s := [116, 114, 117, 101]) (by decide)
 | sgn d k y _ hk hy ih =>
  rcases hk with rfl | rfl
  ·exact lx_not (lx_par ih _) (par_head (ex_head hy) _)
  ·exact (sg 45 (by decide)).then (lx_par ih _)
 | bin d t y z _ ht _ _ ihy ihz => exact ((lx_par ihy _).shut (fun r => rfl) (lx_op ht)).then (lx_par ihz _)
 | cal d t ks _ h _ ih =>
  have hc := lx_com _ _ (forall2_map ks ih) false
  show Lx (t ++ [40] ++ comT (exTs ks) ++ [41]) ([(1, t, 0)] ++ [(3, [40], 0)] ++ comK false (tokEs ks) ++ [(3, [41], 0)])
  rw [exTs_map, tokEs_map]
  exact ((((lx_name h).shut (fun r => rfl) (sg 40 (by decide))).then hc).shut (fun r => rfl) (sg 41 (by decide))).lx
 | con d k y _ h1 h2 _ ih =>
  have hk : k = 2 ∨ k = 3 ∨ k = 4 ∨ k = 5 ∨ k = 6 := by omega
  have ht := lx_type (.bas k (by omega) h2)
  exact ht.then (fun r _ => rfl) (((sg 40 (by decide)).then (one y ih)).shut (fun r => rfl) (sg 41 (by decide))).lx
 | fld d t y _ h _ ih => exact (lx_par ih _).then (fun r _ => rfl) ((sg 46 (by decide)).then (lx_name h))
 | idx d y z _ _ _ ihy ihz => exact ((((lx_par ihy _).shut (fun r => rfl) (sg 91 (by decide))).then ihz).shut (fun r => rfl) (sg 93 (by decide))).lx
 | cut d y z u _ _ _ _ ihy ihz ihu => exact ((((((lx_par ihy _).shut (fun r => rfl) (sg 91 (by decide))).then ihz).shut (fun r => rfl) (sg 58 (by decide))).then ihu).shut (fun r => rfl) (sg 93 (by decide))).lx
 | len d y _ _ ih => exact ((((lx_key (s := [108, 101, 110]) (by decide)).shut (fun r => rfl) (sg 40 (by decide))).then (one y ih)).shut (fun r => rfl) (sg 41 (by decide))).lx
 | app d y z _ _ _ ihy ihz => exact ((((lx_key (s := [97, 112, 112, 101, 110, 100]) (by decide)).shut (fun r => rfl) (sg 40 (by decide))).then (lx_com _ _ (.cons ihy (.cons ihz .nil)) false)).shut (fun r => rfl) (sg 41 (by decide))).lx
 | str d n ns ks _ h _ hns _ ih =>
  have hc := lx_com _ _ (lx_names ns ks hns ih) false
  show Lx (n ++ ([123] ++ comT (namT ns (exTs ks)) ++ [125])) ([(1, n, 0)] ++ ([(3, [123], 0)] ++ comK false (namK ns (tokEs ks)) ++ [(3, [125], 0)]))
  rw [exTs_map, tokEs_map]
  exact (lx_name h).then (fun r _ => rfl) (((sg 123 (by decide)).then hc).shut (fun r => rfl) (sg 125 (by decide))).lx
 | lis d t ks _ h _ ih =>
  have hc := lx_com _ _ (forall2_map ks ih) false
  show Lx (([91, 93] ++ typT t) ++ ([123] ++ comT (exTs ks) ++ [125])) (([(3, [91], 0), (3, [93], 0)] ++ tokT t) ++ ([(3, [123], 0)] ++ comK false (tokEs ks) ++ [(3, [125], 0)]))
  rw [exTs_map, tokEs_map]
  exact (lx_type (.sli t h)).then (fun r _ => rfl) (((sg 123 (by decide)).then hc).shut (fun r => rfl) (sg 125 (by decide))).lx
def bndP {α β : Type} (p : α × Ps) (f : α → Ps → β × Ps) : β × Ps := f p.1 p.2
theorem Dn.zero {a b : Ps} (h : Dn a b) (hb : b.e = 0) : a.e = 0 := by
 by_cases ha : a.e = 0
 ·exact ha
 ·rw [h.e ha] at hb; exact hb
theorem Dn.bad {a b : Ps} (h : Dn a b) (ha : a.e = 51) : b.e = 51 := by
 rw [h.e (by omega), ha]
structure Sim (c : Wd) (tl : List Wd) (s t : Ps) : Prop where
 se : s.e = 0
 te : t.e = 0
 h : t.h = s.h
 ws : ∃ init : List Wd, s.ws.map strip = init ++ [(0, [], 0)] ∧ t.ws.map strip = init ++ c :: tl ∧ ∀ x ∈ init, x.1 ≠ 0 ∧ x.1 ≠ 9
section
variable {c : Wd} {tl : List Wd} {s t : Ps}
def Res (c : Wd) (tl : List Wd) {α : Type} (p q : α × Ps) : Prop := p.2.e = 0 → (q.1 = p.1 ∧ Sim c tl p.2 q.2) ∨ q.2.e = 51
theorem Res.pure {α : Type} {s t : Ps} (h : Sim c tl s t) (x : α) : Res c tl (x, s) (x, t) := fun _ => .inl ⟨rfl, h⟩
theorem Res.dead {α : Type} {p q : α × Ps} (h : ¬ p.2.e = 0) : Res c tl p q := fun h0 => absurd h0 h
theorem Res.bndP {α β : Type} {p q : α × Ps} {f g : α → Ps → β × Ps} (h : Res c tl p q) (hf : ∀ x s, Dn s (f x s).2) (hg : ∀ x s, Dn s (g x s).2) (hk : Sim c tl p.2 q.2 → Res c tl (f p.1 p.2) (g p.1 q.2)) : Res c tl (bndP p f) (bndP q g) := by
 intro h0
 rcases h ((hf p.1 p.2).zero h0) with ⟨e, hs⟩ | h51
 ·have := hk hs h0
  unfold Proofs.YtfaoamebphckbaaGreatDoor.bndP
  rw [e]
  exact this
 ·exact .inr ((hg q.1 q.2).bad h51)
theorem next_step {w : WordS} {r : List WordS} {o : Int} {h : Bool} (hr : ¬ (r.headD .zero).kind = 9) : nextP ⟨w :: r, 0, o, h⟩ = ⟨r, 0, o, h⟩ := by
 unfold nextP
 rw [if_pos rfl]
 exact if_neg hr
theorem Sim.split (hs : Sim c tl s t) (hc : c.1 ≠ 9) : (s.w.kind = 0 ∧ strip t.w = c) ∨ (s.w.kind ≠ 0 ∧ strip t.w = strip s.w ∧ ∀ o o' : Int, Sim c tl (nextP ⟨s.ws, 0, o, s.h⟩) (nextP ⟨t.ws, 0, o', t.h⟩)) := by
 obtain ⟨se, te, hh, init, h1, h2, h3⟩ := hs
 cases init with
 | nil =>
  obtain ⟨w, r, e1, e2, e3⟩ := List.map_eq_cons_iff.1 h1
  obtain ⟨w', r', f1, f2, f3⟩ := List.map_eq_cons_iff.1 h2
  refine .inl ⟨?_, ?_⟩
  ·unfold Ps.w
   rw [e1]
   exact congrArg Prod.fst e2
  ·unfold Ps.w
   rw [f1]
   exact f2
 | cons x init =>
  obtain ⟨w, r, e1, e2, e3⟩ := List.map_eq_cons_iff.1 h1
  obtain ⟨w', r', f1, f2, f3⟩ := List.map_eq_cons_iff.1 h2
  have hx := h3 x List.mem_cons_self
  refine .inr ⟨?_, ?_, fun o o' => ?_⟩
  ·unfold Ps.w
   rw [e1]
   intro h0
   exact hx.1 (by rw [← e2]; exact h0)
  ·unfold Ps.w
   rw [e1, f1]
   exact f2.trans e2.symm
  ·have hr : ¬ (r.headD .zero).kind = 9 := by
    cases init with
    | nil =>
     obtain ⟨y, r2, g1, g2, _⟩ := List.map_eq_cons_iff.1 e3
     rw [g1]
     intro h9
     have : (strip y).1 = 9 := h9
     rw [g2] at this
     exact absurd this (by decide)
    | cons y l =>
     obtain ⟨y', r2, g1, g2, _⟩ := List.map_eq_cons_iff.1 e3
     rw [g1]
     intro h9
     have : (strip y').1 = 9 := h9
     rw [g2] at this
     exact (h3 y (by simp)).2 this
   have hr' : ¬ (r'.headD .zero).kind = 9 := by
    cases init with
    | nil =>
     obtain ⟨y, r2, g1, g2, _⟩ := List.map_eq_cons_iff.1 f3
     rw [g1]
     intro h9
     have : (strip y).1 = 9 := h9
     rw [g2] at this
     exact hc this
    | cons y l =>
     obtain ⟨y', r2, g1, g2, _⟩ := List.map_eq_cons_iff.1 f3
     rw [g1]
     intro h9
     have : (strip y').1 = 9 := h9
     rw [g2] at this
     exact (h3 y (by simp)).2 this
   rw [e1, f1, next_step hr, next_step hr']
   exact ⟨rfl, rfl, hh, init, e3, f3, fun y hy => h3 y (List.mem_cons_of_mem _ hy)⟩
theorem Sim.at (hs : Sim c tl s t) (hc : c.1 ≠ 9) (hk : s.w.kind ≠ 0) : t.w.kind = s.w.kind ∧ t.w.text = s.w.text ∧ t.w.int = s.w.int := by
 rcases hs.split hc with ⟨h, _⟩ | ⟨_, h, _⟩
 ·exact absurd h hk
 ·have h1 := congrArg Prod.fst h
  have h2 := congrArg (fun x : Wd => x.2.1) h
  have h3 := congrArg (fun x : Wd => x.2.2) h
  exact ⟨h1, h2, h3⟩
theorem Sim.next (hs : Sim c tl s t) (hc : c.1 ≠ 9) (hk : s.w.kind ≠ 0) : Sim c tl (nextP s) (nextP t) := by
 rcases hs.split hc with ⟨h, _⟩ | ⟨_, _, h⟩
 ·exact absurd h hk
 ·have := h s.o t.o
  obtain ⟨a, e, o, b⟩ := s
  obtain ⟨a', e', o', b'⟩ := t
  obtain rfl : e = 0 := hs.se
  obtain rfl : e' = 0 := hs.te
  exact this
theorem is_end {s : Ps} (hk : s.w.kind = 0) (T : List UInt8) : isP s T = false := by
 unfold isP
 rw [hk]
 simp
theorem Sim.is (hs : Sim c tl s t) (hc : c.1 ≠ 9) (hk : s.w.kind ≠ 0) (T : List UInt8) : isP t T = isP s T := by
 obtain ⟨h1, h2, _⟩ := hs.at hc hk
 unfold isP
 rw [h1, h2, hs.se, hs.te]
theorem bump_ways {s : Ps} (he : s.e = 0) (T : List UInt8) : (∃ o, bumpP s T = ⟨s.ws, 0, o, s.h⟩) ∨ (bumpP s T).e = 51 := by
 obtain ⟨a, e, o, b⟩ := s
 obtain rfl : e = 0 := he
 unfold bumpP failP
 split
 ·split
  ·exact .inr rfl
  ·exact .inl ⟨_, rfl⟩
 ·split
  ·exact .inl ⟨_, rfl⟩
  ·exact .inl ⟨_, rfl⟩
theorem next_off {s : Ps} (h : ¬ s.e = 0) : nextP s = s := if_neg h
theorem want_eq (s : Ps) (T : List UInt8) : wantP s T = if isP s T = true then nextP (bumpP s T) else failP s 51 := by
 unfold wantP gotP
 cases isP s T <;> rfl
end
structure Cl (c : Wd) : Prop where
 k : c.1 ≠ 9
 t : c.2.1 = [41] ∨ c.2.1 = [125] ∨ c.2.1 = []
section
variable {c : Wd} {tl : List Wd} {s t : Ps}
theorem Res.no {α β : Type} {p : α × Ps} {f : α → Ps → β × Ps} {q : β × Ps} (h : ¬ p.2.e = 0) (hf : ∀ x s, Dn s (f x s).2) : Res c tl (Proofs.YtfaoamebphckbaaGreatDoor.bndP p f) q := Res.dead fun h0 => h ((hf p.1 p.2).zero h0)
variable {n : Nat} {E : EP}
theorem list_eq (E : EP) (en : List UInt8) (comma : Bool) (m : Nat) (s : Ps) : listL E en comma (m + 1) s = if s.e = 0 ∧ isP s en = false then bndP (E s) fun x s1 => bndP (gotP s1 [44]) fun b s2 =>
 if b = true then bndP ((), if comma = false ∧ isP s2 en = true then failP s2 51 else s2) fun _ s3 => bndP (listL E en comma m s3) fun l s4 => (x :: l, s4) else ([x], s2) else ([], s) := by
 conv => lhs; unfold listL
 split
 ·unfold Proofs.YtfaoamebphckbaaGreatDoor.bndP
  rcases E s with ⟨x, s1⟩
  dsimp only
  rcases gotP s1 [44] with ⟨_ | _, s2⟩ <;> rfl
 ·rfl
theorem fld_eq (E : EP) (m : Nat) (s : Ps) : fldL E (m + 1) s = if s.e = 0 ∧ isP s [125] = false then bndP (nameP s) fun t s1 => bndP ((), wantP s1 [58]) fun _ s2 => bndP (E s2) fun x s3 => bndP (gotP s3 [44]) fun b s4 =>
 if b = true then bndP (fldL E m s4) fun p s5 => ((t :: p.1, x :: p.2), s5) else (([t], [x]), s4) else (([], []), s) := by
 conv => lhs; unfold fldL
 split
 ·unfold Proofs.YtfaoamebphckbaaGreatDoor.bndP
  rcases nameP s with ⟨x, s1⟩
  dsimp only
  rcases E (wantP s1 [58]) with ⟨y, s2⟩
  dsimp only
  rcases gotP s2 [44] with ⟨_ | _, s3⟩ <;> rfl
 ·rfl
theorem named_eq (E : EP) (m : Nat) (s : Ps) : namedP true E m s = bndP (nameP s) fun t s1 => bndP (gotP s1 [40]) fun b s2 => if b = true then bndP (listP E [41] false m s2) fun l s3 => (.mk 7 t 0 noT [] l, s3)
 else if s2.h = false then bndP (gotP s2 [123]) fun b s3 => if b = true then bndP (fldL E m s3) fun p s4 => (.mk 14 [] 0 (.mk 7 t []) p.1 p.2, wantP s4 [125]) else (.mk 1 t 0 noT [] [], s3) else (.mk 1 t 0 noT [] [], s2) := by
 conv => lhs; unfold namedP
 unfold Proofs.YtfaoamebphckbaaGreatDoor.bndP
 rcases nameP s with ⟨x, s0⟩
 dsimp only
 rcases hg : gotP s0 [40] with ⟨_ | _, s1⟩
 ·obtain rfl := got_no hg
  simp only [Bool.false_eq_true, if_false]
  split
  ·rcases hg2 : gotP s1 [123] with ⟨_ | _, s2⟩
   ·obtain rfl := got_no hg2
    rfl
   ·rfl
  ·rfl
 ·rfl
def keyQ (E : EP) (k : List UInt8) (s : Ps) : ExT × Ps := bndP ((), wantP s [40]) fun _ s1 => bndP (E s1) fun x s2 => if k = [97, 112, 112, 101, 110, 100] then bndP ((), wantP s2 [44]) fun _ s3 => bndP (E s3) fun y s4 => (.mk 13 [] 0 noT [] [x, y], wantP s4 [41])
 else if 1 < kindS k then (.mk 8 [] 0 (.mk (kindS k) [] []) [] [x], wantP s2 [41]) else (.mk 12 [] 0 noT [] [x], wantP s2 [41])
theorem keyed_eq (E : EP) (s : Ps) : keyedP E s = if s.w.text = [116, 114, 117, 101] then (.mk 3 [] 1 noT [] [], nextP s) else if s.w.text = [102, 97, 108, 115, 101] then (.mk 3 [] 0 noT [] [], nextP s) else keyQ E s.w.text (nextP s) := rfl
def primQ (E : EP) (m : Nat) (s : Ps) : ExT × Ps := bndP (gotP s [40]) fun b s1 => if b = true then bndP (E s1) fun x s2 => (x, wantP s2 [41])
 else if s1.h = false ∧ isP s1 [91] = true then bndP (typP m s1) fun t s2 => bndP ((), wantP s2 [123]) fun _ s3 => bndP (listP E [125] true m s3) fun l s4 => (.mk 15 [] 0 t [] l, s4) else (zeroE, failP s1 51)
theorem prim_eq (E : EP) (m : Nat) (s : Ps) : primP true E m s = if ¬ s.e = 0 then (zeroE, s) else if s.w.kind = 2 then (.mk 2 [] (s.w.int : Int) noT [] [], nextP s) else if s.w.kind = 1 then namedP true E m s else if keyB s = true then keyedP E s else primQ E m s := by
 conv => lhs; unfold primP
 split
 ·rfl
 split
 ·rfl
 split
 ·rfl
 split
 ·rfl
 unfold primQ
 rcases hg : gotP s [40] with ⟨_ | _, s1⟩
 ·obtain rfl := got_no hg
  rfl
 ·rfl
end
section
variable {c : Wd} {tl : List Wd} {s t : Ps} {n : Nat} {E : EP}
theorem sgn_eq (m : Nat) (s : Ps) : sgnL (m + 1) s = if isP s [33] = true then bndP (sgnL m (nextP s)) fun l s1 => (4 :: l, s1) else if isP s [45] = true then bndP (sgnL m (nextP s)) fun l s1 => (5 :: l, s1) else ([], s) := rfl
theorem pst_eq (E : EP) (m : Nat) (x : ExT) (s : Ps) : pstL E (m + 1) x s = if ¬ s.e = 0 then (x, s) else bndP (gotP s [46]) fun b s1 => if b = true then bndP (nameP s1) fun t s2 => pstL E m (.mk 9 t 0 noT [] [x]) s2
 else bndP (gotP s1 [91]) fun b s2 => if b = true then bndP (E s2) fun y s3 => bndP (gotP s3 [58]) fun b s4 => if b = true then bndP (E s4) fun z s5 => bndP ((), wantP s5 [93]) fun _ s6 => pstL E m (.mk 11 [] 0 noT [] [x, y, z]) s6
  else bndP ((), wantP s4 [93]) fun _ s5 => pstL E m (.mk 10 [] 0 noT [] [x, y]) s5 else (x, s2) := by
 conv => lhs; unfold pstL
 split
 ·rfl
 unfold Proofs.YtfaoamebphckbaaGreatDoor.bndP
 rcases hg : gotP s [46] with ⟨_ | _, s1⟩
 ·obtain rfl := got_no hg
  simp only [Bool.false_eq_true, if_false]
  rcases hg2 : gotP s1 [91] with ⟨_ | _, s2⟩
  ·obtain rfl := got_no hg2
   rfl
  ·dsimp only
   rcases E s2 with ⟨y, s3⟩
   dsimp only
   rcases gotP s3 [58] with ⟨_ | _, s4⟩ <;> rfl
 ·rfl
theorem oper_eq (E : EP) (m : Nat) (s : Ps) : operP true E m s = bndP (sgnL m s) fun l s1 => bndP (primP true E m s1) fun x s2 => bndP (pstL E m x s2) fun y s3 => (signT l y, s3) := rfl
theorem rank_eq (O : EP) (r : Int) (m : Nat) (x : ExT) (s : Ps) : rankL O r (m + 1) x s = if s.e = 0 ∧ s.w.kind = 3 ∧ rankS s.w.text = r then bndP (O (nextP s)) fun y s1 => rankL O r m (.mk 6 s.w.text 0 noT [] [x, y]) s1 else (x, s) := rfl
theorem climb_eq (O : EP) (m k : Nat) (s : Ps) : climbP O m (k + 1) s = if ¬ s.e = 0 then O s else bndP (climbP O m k s) fun x s1 => rankL (climbP O m k) (5 - (k : Int)) m x s1 := rfl
end
def Nine (s : Ps) : Prop := ∃ init : List Wd, s.ws.map strip = init ++ [(9, [], 0)] ∧ ∀ x ∈ init, x.1 ≠ 0 ∧ x.1 ≠ 9
def Nn {α : Type} (p : α × Ps) : Prop := p.2.e = 0 → Nine p.2
theorem Nn.pure {α : Type} {s : Ps} (h : Nine s) (x : α) : Nn (x, s) := fun _ => h
theorem Nn.bndP {α β : Type} {p : α × Ps} {f : α → Ps → β × Ps} (h : Nn p) (hf : ∀ x s, Dn s (f x s).2) (hk : ∀ x s, Nine s → Nn (f x s)) : Nn (bndP p f) := fun h0 => hk _ _ (h ((hf _ _).zero h0)) h0
variable {E : EP}
structure At (s : Ps) (l : List Wd) : Prop where
 e : s.e = 0
 ws : s.ws.map strip = l
theorem At.w {s : Ps} {x : Wd} {l : List Wd} (h : At s (x :: l)) : strip s.w = x := by
 obtain ⟨w, r, e1, e2, _⟩ := List.map_eq_cons_iff.1 h.ws
 unfold Ps.w
 rw [e1]
 exact e2
theorem At.kind {s : Ps} {x : Wd} {l : List Wd} (h : At s (x :: l)) : s.w.kind = x.1 ∧ s.w.text = x.2.1 := ⟨congrArg Prod.fst h.w, congrArg (fun x : Wd => x.2.1) h.w⟩
theorem At.next {s : Ps} {x y : Wd} {l : List Wd} (h : At s (x :: y :: l)) (hy : y.1 ≠ 9) : At (nextP s) (y :: l) := by
 obtain ⟨w, r, e1, e2, e3⟩ := List.map_eq_cons_iff.1 h.ws
 obtain ⟨w2, r2, g1, g2, g3⟩ := List.map_eq_cons_iff.1 e3
 obtain ⟨a, e, o, b⟩ := s
 obtain rfl : e = 0 := h.e
 obtain rfl : a = w :: r := e1
 rw [next_step (by rw [g1]; intro h9; exact hy (by rw [← g2]; exact h9))]
 exact ⟨rfl, e3⟩
theorem At.take {s : Ps} {x y : Wd} {l : List Wd} (h : At s (x :: y :: l)) (hy : y.1 ≠ 9) (T : List UInt8) : At (nextP (bumpP s T)) (y :: l) ∨ (nextP (bumpP s T)).e = 51 := by
 rcases bump_ways h.e T with ⟨o, h1⟩ | h1
 ·rw [h1]
  exact .inl (At.next (s := ⟨s.ws, 0, o, s.h⟩) ⟨rfl, h.ws⟩ hy)
 ·exact .inr (by rw [next_off (by omega)]; exact h1)
theorem At.is {s : Ps} {x : Wd} {l : List Wd} (h : At s (x :: l)) (T : List UInt8) : isP s T = ((decide (x.1 = 3) || decide (x.1 = 4)) && decide (x.2.1 = T)) := by
 unfold isP
 rw [h.e, h.kind.1, h.kind.2]
 simp
theorem next_h (s : Ps) : (nextP s).h = s.h := by
 unfold nextP
 split
 ·split <;> rfl
 ·rfl
theorem Cl.rank {c : Wd} (hc : Cl c) : rankS c.2.1 = 0 := by
 rcases hc.t with e | e | e <;> rw [e] <;> decide
def bumpN (T : List UInt8) (o : Int) : Option Int := if opnB T = true then (if 100 < IntKind.i64.wrap (o + 1) then none else some (IntKind.i64.wrap (o + 1))) else if clsB T = true then some (IntKind.i64.wrap (o - 1)) else some o
theorem bump_N {s : Ps} (he : s.e = 0) {T : List UInt8} {o : Int} (ho : bumpN T s.o = some o) : bumpP s T = ⟨s.ws, 0, o, s.h⟩ := by
 obtain ⟨a, e, q, b⟩ := s
 obtain rfl : e = 0 := he
 unfold bumpN at ho
 unfold bumpP
 split
 ·rename_i h
  rw [if_pos h] at ho
  split
  ·rename_i h2
   rw [if_pos h2] at ho
   cases ho
  ·rename_i h2
   rw [if_neg h2] at ho
   cases ho
   rfl
 ·rename_i h
  rw [if_neg h] at ho
  split
  ·rename_i h2
   rw [if_pos h2] at ho
   cases ho
   rfl
  ·rename_i h2
   rw [if_neg h2] at ho
   cases ho
   rfl
structure AtO (s : Ps) (l : List Wd) (o : Int) : Prop where
 at' : At s l
 h : s.h = false
 o : s.o = o
section
variable {s : Ps} {x y : Wd} {l : List Wd} {o : Int}
theorem AtO.next (h : AtO s (x :: y :: l) o) (hy : y.1 ≠ 9) : AtO (nextP s) (y :: l) o := by
 refine ⟨h.at'.next hy, by rw [next_h, h.h], ?_⟩
 rw [← h.o]
 unfold nextP
 split
 ·split <;> rfl
 ·rfl
theorem AtO.yes (h : AtO s (x :: y :: l) o) (hy : y.1 ≠ 9) {T : List UInt8} (hT : ((decide (x.1 = 3) || decide (x.1 = 4)) && decide (x.2.1 = T)) = true) {o' : Int} (ho : bumpN T o = some o') : ∃ s', gotP s T = (true, s') ∧ wantP s T = s' ∧ AtO s' (y :: l) o' := by
 have hi : isP s T = true := by rw [h.at'.is]; exact hT
 have hb := bump_N h.at'.e (T := T) (by rw [h.o]; exact ho)
 refine ⟨nextP (bumpP s T), ?_, ?_, ?_⟩
 ·unfold gotP
  rw [if_pos hi]
 ·rw [want_eq, if_pos hi]
 ·rw [hb]
  exact AtO.next (s := ⟨s.ws, 0, o', s.h⟩) ⟨⟨rfl, h.at'.ws⟩, h.h, rfl⟩ hy
theorem AtO.no (h : AtO s (x :: l) o) {T : List UInt8} (hT : ((decide (x.1 = 3) || decide (x.1 = 4)) && decide (x.2.1 = T)) = false) : gotP s T = (false, s) := by
 unfold gotP
 rw [h.at'.is, hT]
 rfl
theorem AtO.name {t : List UInt8} {i : Nat} (h : AtO s ((1, t, i) :: y :: l) o) (hy : y.1 ≠ 9) : ∃ s', nameP s = (t, s') ∧ AtO s' (y :: l) o := by
 refine ⟨nextP s, ?_, h.next hy⟩
 unfold nameP
 rw [if_pos ⟨h.at'.e, h.at'.kind.1⟩, h.at'.kind.2]
end
def isW (c : Wd) (T : List UInt8) : Bool := (decide (c.1 = 3) || decide (c.1 = 4)) && decide (c.2.1 = T)
theorem comK_cons (b : Bool) (x : List Wd) (l : List (List Wd)) : comK b (x :: l) = (if b = true then [(3, [44], 0)] else []) ++ (x ++ comK true l) := rfl
theorem tokEs_cons (x : ExT) (l : List ExT) : tokEs (x :: l) = tokE x :: tokEs l := by rw [tokEs]
theorem namK_cons (n : List UInt8) (ns : List (List UInt8)) (x : List Wd) (xs : List (List Wd)) : namK (n :: ns) (x :: xs) = ([(1, n, 0)] ++ [(3, [58], 0)] ++ x) :: namK ns xs := rfl
structure Bf (s : Ps) (l : List Wd) (o : Int) (h : Bool) : Prop where
 at' : At s l
 o : s.o = o
 h : s.h = h
section
variable {s : Ps} {x y : Wd} {l : List Wd} {o : Int} {h : Bool}
theorem Bf.mu (b : Bf s l o h) : mu s = l.length := by
 rw [mu_live b.at'.e, ← b.at'.ws, List.length_map]
theorem Bf.next (b : Bf s (x :: y :: l) o h) (hy : y.1 ≠ 9) : Bf (nextP s) (y :: l) o h := by
 refine ⟨b.at'.next hy, ?_, by rw [next_h, b.h]⟩
 rw [← b.o]
 unfold nextP
 split
 ·split <;> rfl
 ·rfl
theorem Bf.is (b : Bf s (x :: l) o h) (T : List UInt8) : isP s T = isW x T := b.at'.is T
theorem Bf.yes (b : Bf s (x :: y :: l) o h) (hy : y.1 ≠ 9) {T : List UInt8} (hT : isW x T = true) {o' : Int} (ho : bumpN T o = some o') : ∃ s', gotP s T = (true, s') ∧ wantP s T = s' ∧ Bf s' (y :: l) o' h := by
 have hi : isP s T = true := by rw [b.is]; exact hT
 have hb := bump_N b.at'.e (T := T) (by rw [b.o]; exact ho)
 refine ⟨nextP (bumpP s T), ?_, ?_, ?_⟩
 ·unfold gotP
  rw [if_pos hi]
 ·rw [want_eq, if_pos hi]
 ·rw [hb]
  exact Bf.next (s := ⟨s.ws, 0, o', s.h⟩) ⟨⟨rfl, b.at'.ws⟩, rfl, b.h⟩ hy
theorem Bf.no (b : Bf s (x :: l) o h) {T : List UInt8} (hT : isW x T = false) : gotP s T = (false, s) := by
 unfold gotP
 rw [b.is, hT]
 rfl
theorem Bf.name {t : List UInt8} {i : Nat} (b : Bf s ((1, t, i) :: y :: l) o h) (hy : y.1 ≠ 9) : ∃ s', nameP s = (t, s') ∧ Bf s' (y :: l) o h := by
 refine ⟨nextP s, ?_, b.next hy⟩
 unfold nameP
 rw [if_pos ⟨b.at'.e, b.at'.kind.1⟩, b.at'.kind.2]
end
theorem wrap_sm {n : Int} (h : -100 ≤ n ∧ n ≤ 200) : IntKind.i64.wrap n = n := IntWalk.i64_in _ (by omega)
theorem bump_open {T : List UInt8} (hT : opnB T = true) {o : Int} (h : 0 ≤ o ∧ o ≤ 99) : bumpN T o = some (o + 1) := by
 unfold bumpN
 rw [if_pos hT, wrap_sm (by omega), if_neg (by omega)]
theorem bump_close {T : List UInt8} (h1 : opnB T = false) (hT : clsB T = true) {o : Int} (h : 0 ≤ o ∧ o ≤ 100) : bumpN T o = some (o - 1) := by
 unfold bumpN
 rw [h1, if_neg (by decide), if_pos hT, wrap_sm (by omega)]
theorem bump_not {T : List UInt8} (h1 : opnB T = false) (h2 : clsB T = false) (o : Int) : bumpN T o = some o := by
 unfold bumpN
 rw [h1, h2, if_neg (by decide), if_neg (by decide)]
structure Fol (k : Nat) (h : Bool) (c : Wd) : Prop where
 n9 : c.1 ≠ 9
 dot : isW c [46] = false
 bra : isW c [91] = false
 par : isW c [40] = false
 cur : h = false → isW c [123] = false
 rk : c.1 = 3 → rankS c.2.1 < 6 - (k : Int)
theorem fol_close {c : Wd} (hc : c = (3, [41], 0) ∨ c = (3, [93], 0) ∨ c = (3, [125], 0) ∨ c = (3, [44], 0) ∨ c = (3, [58], 0)) (k : Nat) (hk : k ≤ 5) (h : Bool) : Fol k h c := by
 have hr : rankS [41] = 0 ∧ rankS [93] = 0 ∧ rankS [125] = 0 ∧ rankS [44] = 0 ∧ rankS [58] = 0 := by decide
 rcases hc with rfl | rfl | rfl | rfl | rfl
 all_goals exact ⟨by decide, by decide, by decide, by decide, fun _ => by decide, fun _ => by dsimp only; omega⟩
theorem Fol.down {k : Nat} {h : Bool} {c : Wd} (f : Fol (k + 1) h c) : Fol k h c := ⟨f.n9, f.dot, f.bra, f.par, f.cur, fun h3 => by have := f.rk h3; omega⟩
theorem Fol.to {k j : Nat} {h : Bool} {c : Wd} (f : Fol k h c) (hj : j ≤ k) : Fol j h c := ⟨f.n9, f.dot, f.bra, f.par, f.cur, fun h3 => by have := f.rk h3; omega⟩
structure Fst (w : Wd) : Prop where
 n9 : w.1 ≠ 9
 c1 : isW w [41] = false
 c2 : isW w [125] = false
 c3 : isW w [93] = false
theorem fst_par {b : Bool} {t : List Wd} (h : ∃ w l, t = w :: l ∧ Fst w) : ∃ w l, parK b t = w :: l ∧ Fst w := by
 unfold parK
 split
 ·exact ⟨_, _, rfl, by decide, by decide, by decide, by decide⟩
 ·exact h
theorem fst_app {t : List Wd} (h : ∃ w l, t = w :: l ∧ Fst w) (r : List Wd) : ∃ w l, t ++ r = w :: l ∧ Fst w := by
 obtain ⟨w, l, rfl, hw⟩ := h
 exact ⟨w, l ++ r, rfl, hw⟩
theorem fst_name (t : List UInt8) : Fst (1, t, 0) := ⟨(show ¬ (1 : Nat) = 9 by decide), rfl, rfl, rfl⟩
theorem tok_bas {k : Int} (h1 : 1 ≤ k) (h2 : k ≤ 6) : tokT (.mk k [] []) = [(4, basT k, 0)] := by unfold tokT; rw [if_neg (by omega), if_neg (by omega)]
theorem fst_bas {k : Int} (h1 : 1 ≤ k) (h2 : k ≤ 6) : Fst (4, basT k, 0) := by
 have hk : k = 1 ∨ k = 2 ∨ k = 3 ∨ k = 4 ∨ k = 5 ∨ k = 6 := by omega
 rcases hk with rfl | rfl | rfl | rfl | rfl | rfl <;> exact ⟨by decide, by decide, by decide, by decide⟩
theorem fst_type {t : TyT} (h : OkT t) : ∃ w l, tokT t = w :: l ∧ Fst w := by
 cases h with
 | bas k h1 h2 => exact ⟨_, _, tok_bas h1 h2, fst_bas h1 h2⟩
 | nam n h => exact ⟨_, _, rfl, fst_name n⟩
 | sli t h => exact ⟨_, _, rfl, by decide, by decide, by decide, by decide⟩
theorem fst_expr {d : Int} {x : ExT} (h : OkE d x) : ∃ w l, tokE x = w :: l ∧ Fst w := by
 induction h with
 | nam d t _ h => exact ⟨_, _, rfl, fst_name t⟩
 | num d i _ h0 h => exact ⟨_, _, rfl, ⟨(show ¬ (2 : Nat) = 9 by decide), rfl, rfl, rfl⟩⟩
 | tru d i _ h0 h1 =>
  have hi : i = 0 ∨ i = 1 := by omega
  rcases hi with rfl | rfl <;> exact ⟨_, _, rfl, by decide, by decide, by decide, by decide⟩
 | sgn d k y _ hk _ _ => rcases hk with rfl | rfl <;> exact ⟨_, _, rfl, by decide, by decide, by decide, by decide⟩
 | bin d t y z _ _ _ _ ihy _ => exact fst_app (fst_app (fst_par ihy) _) _
 | cal d t ks _ h _ _ => exact ⟨_, _, rfl, fst_name t⟩
 | con d k y _ h1 h2 _ _ => exact fst_app (fst_type (.bas k (by omega) h2)) _
 | fld d t y _ _ _ ihy => exact fst_app (fst_par ihy) _
 | idx d y z _ _ _ ihy _ => exact fst_app (fst_app (fst_app (fst_par ihy) _) _) _
 | cut d y z u _ _ _ _ ihy _ _ => exact fst_app (fst_app (fst_app (fst_app (fst_app (fst_par ihy) _) _) _) _) _
 | len d y _ _ _ => exact ⟨_, _, rfl, by decide, by decide, by decide, by decide⟩
 | app d y z _ _ _ _ _ => exact ⟨_, _, rfl, by decide, by decide, by decide, by decide⟩
 | str d n ns ks _ h _ _ _ _ => exact ⟨_, _, rfl, fst_name n⟩
 | lis d t ks _ h _ _ => exact ⟨_, _, rfl, by decide, by decide, by decide, by decide⟩
theorem wrap_out : ∀ (n : Nat) (t : TyT), wrapT n (.mk 8 [] [t]) = .mk 8 [] [wrapT n t]
 | 0, _ => rfl
 | n + 1, t => by
  show wrapT n (.mk 8 [] [.mk 8 [] [t]]) = .mk 8 [] [wrapT n (.mk 8 [] [t])]
  exact wrap_out n _
theorem read_type {t : TyT} (ht : OkT t) : ∀ (m : Nat) (s : Ps) (c : Wd) (tl : List Wd) (o : Int) (h : Bool), Bf s (tokT t ++ c :: tl) o h → c.1 ≠ 9 → 0 ≤ o → o ≤ 99 → mu s ≤ m → ∃ s', typP m s = (t, s') ∧ Bf s' (c :: tl) o h := by
 -- levels, then what they are of
 have key : ∀ (m : Nat) (s : Ps) (c : Wd) (tl : List Wd) (o : Int) (h : Bool), Bf s (tokT t ++ c :: tl) o h → c.1 ≠ 9 → 0 ≤ o → o ≤ 99 → mu s ≤ m → ∃ n s1 t0 s', upP m s = (n, s1) ∧ baseP s1 = (t0, s') ∧ wrapT n t0 = t ∧ Bf s' (c :: tl) o h := by
  induction ht with
  | bas k h1 h2 =>
   intro m s c tl o h b hc h0 ho hm
   rw [tok_bas h1 h2] at b
   have b : Bf s ((4, basT k, 0) :: c :: tl) o h := b
   have hk : k = 1 ∨ k = 2 ∨ k = 3 ∨ k = 4 ∨ k = 5 ∨ k = 6 := by omega
   have hkind : kindS (basT k) = k ∧ isW (4, basT k, 0) [91] = false ∧ isW (4, basT k, 0) (basT k) = true := by rcases hk with rfl | rfl | rfl | rfl | rfl | rfl <;> decide
   have hup : upP m s = (0, s) := by
    cases m with
    | zero => rfl
    | succ m => unfold upP; rw [b.no hkind.2.1]
   refine ⟨0, s, .mk k [] [], nextP s, hup, ?_, rfl, b.next hc⟩
   unfold baseP
   rw [show s.w.text = basT k from b.at'.kind.2, hkind.1, if_pos ⟨by omega, by rw [b.is]; exact hkind.2.2⟩]
  | nam n hn =>
   intro m s c tl o h b hc h0 ho hm
   have b : Bf s ((1, n, 0) :: c :: tl) o h := b
   have hup : upP m s = (0, s) := by
    cases m with
    | zero => rfl
    | succ m => unfold upP; rw [b.no (T := [91]) rfl]
   obtain ⟨s', e1, b1⟩ := b.name hc
   refine ⟨0, s, .mk 7 n [], s', hup, ?_, rfl, b1⟩
   unfold baseP
   rw [if_neg (fun hh => by have := hh.2; rw [b.is] at this; exact absurd this (by show ¬ isW (1, n, 0) _ = true; simp [isW])), e1]
  | sli t ht ih =>
   intro m s c tl o h b hc h0 ho hm
   obtain ⟨w, l, hw, hf⟩ := fst_app (fst_type ht) (c :: tl)
   have b : Bf s ((3, [91], 0) :: (3, [93], 0) :: (tokT t ++ c :: tl)) o h := b
   obtain ⟨s1, g1, _, b1⟩ := b.yes (by decide) (T := [91]) (by decide) (bump_open (by decide) ⟨h0, ho⟩)
   rw [hw] at b1
   obtain ⟨s2, _, g2, b2⟩ := b1.yes hf.n9 (T := [93]) (by decide) (bump_close (by decide) (by decide) ⟨by omega, by omega⟩)
   rw [← hw, show o + 1 - 1 = o by omega] at b2
   have hmu := b.mu
   have hmu2 := b2.mu
   obtain ⟨m, rfl⟩ : ∃ j, m = j + 1 := ⟨m - 1, by simp at hmu; omega⟩
   obtain ⟨n, s3, t0, s', e1, e2, e3, e4⟩ := ih m s2 c tl o h b2 hc h0 ho (by simp at hmu hmu2; omega)
   refine ⟨n + 1, s3, t0, s', ?_, e2, ?_, e4⟩
   ·unfold upP
    rw [g1]
    dsimp only
    rw [g2, e1]
   ·show wrapT n (.mk 8 [] [t0]) = _
    rw [wrap_out, e3]
 intro m s c tl o h b hc h0 ho hm
 obtain ⟨n, s1, t0, s', e1, e2, e3, e4⟩ := key m s c tl o h b hc h0 ho hm
 refine ⟨s', ?_, e4⟩
 unfold typP
 rw [e1]
 dsimp only
 rw [e2]
 dsimp only
 rw [e3]
def RdE (E : EP) (n : Nat) : Prop := ∀ (d : Int) (x : ExT), OkE d x → ∀ (s : Ps) (c : Wd) (tl : List Wd) (o : Int) (h : Bool), Bf s (tokE x ++ c :: tl) o h → Fol 5 h c → 0 ≤ o → o ≤ d + 39 → (h = true → headS x = true) → mu s < n → ∃ s', E s = (x, s') ∧ Bf s' (c :: tl) o h
section
variable {E : EP} {n : Nat}
theorem heads_mem {l : List ExT} (h : headsS l = true) : ∀ x ∈ l, headS x = true := by
 induction l with
 | nil => exact fun _ hx => absurd hx List.not_mem_nil
 | cons y l ih =>
  unfold headsS at h
  rw [Bool.and_eq_true] at h
  intro x hx
  rcases List.mem_cons.1 hx with e | hx
  ·rw [e]; exact h.1
  ·exact ih h.2 x hx
theorem read_list (hE : RdE E n) (en : List UInt8) (comma : Bool) (hen : en = [41] ∨ en = [125]) (d : Int) : ∀ (ks : List ExT), ks ≠ [] → (∀ x ∈ ks, OkE d x) → ∀ (m : Nat) (s : Ps) (tl : List Wd) (o : Int) (h : Bool), Bf s (comK false (tokEs ks) ++ (3, en, 0) :: tl) o h → 0 ≤ o → o ≤ d + 39 → (h = true → headsS ks = true) → mu s < n → mu s ≤ m → ∃ s', listL E en comma m s = (ks, s') ∧ Bf s' ((3, en, 0) :: tl) o h
 | [], hne, _, _, _, _, _, _, _, _, _, _, _, _ => absurd rfl hne
 | x :: ks, _, hks, m, s, tl, o, h, b, h0, ho, hh, hn, hm => by
  have hx := hks x List.mem_cons_self
  obtain ⟨w, l, hw, hf⟩ := fst_expr hx
  have hen9 : ((3, en, 0) : Wd).1 ≠ 9 := show ¬ (3 : Nat) = 9 by decide
  have hwe : isW w en = false := by rcases hen with rfl | rfl; exact hf.c1; exact hf.c2
  have hmu := b.mu
  have hb : comK false (tokEs (x :: ks)) ++ (3, en, 0) :: tl = tokE x ++ (comK true (tokEs ks) ++ (3, en, 0) :: tl) := by
   rw [tokEs_cons, comK_cons, if_neg (by decide), List.nil_append, List.append_assoc]
  rw [hb] at b hmu
  have hb0 := b
  rw [hw] at hb0
  have hi : isP s en = false := by
   have : Bf s (w :: (l ++ (comK true (tokEs ks) ++ (3, en, 0) :: tl))) o h := hb0
   rw [this.is]; exact hwe
  have hhx : h = true → headS x = true ∧ headsS ks = true := fun e => by
   have := hh e
   unfold headsS at this
   rw [Bool.and_eq_true] at this
   exact this
  obtain ⟨m, rfl⟩ : ∃ j, m = j + 1 := ⟨m - 1, by rw [hmu] at hm; simp at hm; omega⟩
  rw [list_eq, if_pos ⟨b.at'.e, hi⟩]
  cases ks with
  | nil =>
   have b : Bf s (tokE x ++ (3, en, 0) :: tl) o h := b
   obtain ⟨s1, e1, b1⟩ := hE d x hx s (3, en, 0) tl o h b (fol_close (by rcases hen with rfl | rfl <;> simp) 5 (by omega) h) h0 ho (fun e => (hhx e).1) hn
   refine ⟨s1, ?_, b1⟩
   unfold bndP
   rw [e1]
   dsimp only
   rw [b1.no (T := [44]) (by rcases hen with rfl | rfl <;> decide)]
   rfl
  | cons y ks =>
   have b : Bf s (tokE x ++ (3, [44], 0) :: (comK false (tokEs (y :: ks)) ++ (3, en, 0) :: tl)) o h := by
    have e : comK true (tokEs (y :: ks)) ++ (3, en, 0) :: tl = (3, [44], 0) :: (comK false (tokEs (y :: ks)) ++ (3, en, 0) :: tl) := by
     rw [tokEs_cons, comK_cons, comK_cons, if_pos rfl, if_neg (by decide)]
     rfl
    rw [← e]
    exact b
   have hmu1 := b.mu
   rw [List.length_append, List.length_cons] at hmu1
   obtain ⟨s1, e1, b1⟩ := hE d x hx s _ _ o h b (fol_close (by simp) 5 (by omega) h) h0 ho (fun e => (hhx e).1) hn
   obtain ⟨w2, l2, hw2, hf2⟩ := fst_expr (hks y (by simp))
   have hc2 : comK false (tokEs (y :: ks)) ++ (3, en, 0) :: tl = w2 :: (l2 ++ (comK true (tokEs ks) ++ (3, en, 0) :: tl)) := by
    rw [tokEs_cons, comK_cons, if_neg (by decide), List.nil_append, List.append_assoc, hw2]
    rfl
   rw [hc2] at b1
   obtain ⟨s2, g2, _, b2⟩ := b1.yes hf2.n9 (T := [44]) (by decide) (bump_not (by decide) (by decide) o)
   have hi2 : isP s2 en = false := by
    rw [b2.is]
    rcases hen with rfl | rfl
    ·exact hf2.c1
    ·exact hf2.c2
   rw [← hc2] at b2
   have hmu2 := b2.mu
   obtain ⟨s3, e3, b3⟩ := read_list hE en comma hen d (y :: ks) (by simp) (fun z hz => hks z (List.mem_cons_of_mem _ hz)) m s2 tl o h b2 h0 ho (fun e => (hhx e).2) (by omega) (by omega)
   refine ⟨s3, ?_, b3⟩
   unfold bndP
   rw [e1]
   dsimp only
   rw [g2]
   dsimp only
   rw [if_pos rfl, hi2, if_neg (by simp), e3]
theorem read_fields (hE : RdE E n) (d : Int) : ∀ (ns : List (List UInt8)) (ks : List ExT), ns.length = ks.length → (∀ m ∈ ns, identS m = true) → (∀ x ∈ ks, OkE d x) → ∀ (m : Nat) (s : Ps) (tl : List Wd) (o : Int), Bf s (comK false (namK ns (tokEs ks)) ++ (3, [125], 0) :: tl) o false → 0 ≤ o → o ≤ d + 39 → mu s < n → mu s ≤ m → ∃ s', fldL E m s = ((ns, ks), s') ∧ Bf s' ((3, [125], 0) :: tl) o false
 | [], [], _, _, _, m, s, tl, o, b, _, _, _, _ => by
  have b : Bf s ((3, [125], 0) :: tl) o false := b
  refine ⟨s, ?_, b⟩
  cases m with
  | zero => rfl
  | succ m =>
   rw [fld_eq, if_neg]
   rintro ⟨_, h2⟩
   rw [b.is] at h2
   exact absurd h2 (by decide)
 | q :: ns, x :: ks, hlen, hns, hks, m, s, tl, o, b, h0, ho, hn, hm => by
  have hx := hks x List.mem_cons_self
  obtain ⟨w, l, hw, hf⟩ := fst_expr hx
  have hb : comK false (namK (q :: ns) (tokEs (x :: ks))) ++ (3, [125], 0) :: tl = (1, q, 0) :: (3, [58], 0) :: (tokE x ++ (comK true (namK ns (tokEs ks)) ++ (3, [125], 0) :: tl)) := by
   rw [tokEs_cons, namK_cons, comK_cons, if_neg (by decide), List.nil_append, List.append_assoc, List.append_assoc]
   rfl
  rw [hb] at b
  have hmu := b.mu
  simp only [List.length_cons, List.length_append] at hmu
  have hi : isP s [125] = false := by rw [b.is]; rfl
  obtain ⟨m, rfl⟩ : ∃ j, m = j + 1 := ⟨m - 1, by omega⟩
  rw [fld_eq, if_pos ⟨b.at'.e, hi⟩]
  obtain ⟨s1, e1, b1⟩ := b.name (by decide)
  have hb1 := b1
  rw [hw] at b1
  obtain ⟨s2, _, e2, b2⟩ := Bf.yes (y := w) (l := l ++ (comK true (namK ns (tokEs ks)) ++ (3, [125], 0) :: tl)) b1 hf.n9 (T := [58]) (by decide) (bump_not (by decide) (by decide) o)
  have b2 : Bf s2 (tokE x ++ (comK true (namK ns (tokEs ks)) ++ (3, [125], 0) :: tl)) o false := by rw [hw]; exact b2
  have hmu2 := b2.mu
  simp only [List.length_append, List.length_cons] at hmu2
  cases ns with
  | nil =>
   obtain rfl : ks = [] := List.eq_nil_of_length_eq_zero (by simpa using hlen.symm)
   have b2 : Bf s2 (tokE x ++ (3, [125], 0) :: tl) o false := b2
   obtain ⟨s3, e3, b3⟩ := hE d x hx s2 _ _ o false b2 (fol_close (by simp) 5 (by omega) _) h0 ho (fun e => by cases e) (by omega)
   refine ⟨s3, ?_, b3⟩
   unfold bndP
   rw [e1]
   dsimp only
   rw [e2, e3]
   dsimp only
   rw [b3.no (T := [44]) (by decide)]
   rfl
  | cons q2 ns =>
   obtain ⟨x2, ks, rfl⟩ : ∃ a l, ks = a :: l := by
    cases ks with
    | nil => cases hlen
    | cons a l => exact ⟨a, l, rfl⟩
   have e : comK true (namK (q2 :: ns) (tokEs (x2 :: ks))) ++ (3, [125], 0) :: tl = (3, [44], 0) :: (comK false (namK (q2 :: ns) (tokEs (x2 :: ks))) ++ (3, [125], 0) :: tl) := by
    rw [tokEs_cons, namK_cons, comK_cons, comK_cons, if_pos rfl, if_neg (by decide)]
    rfl
   rw [e] at b2
   have hmu2 := b2.mu
   simp only [List.length_append, List.length_cons] at hmu2
   obtain ⟨s3, e3, b3⟩ := hE d x hx s2 _ _ o false b2 (fol_close (by simp) 5 (by omega) _) h0 ho (fun e => by cases e) (by rw [b2.mu]; simp only [List.length_append, List.length_cons]; omega)
   have hc2 : comK false (namK (q2 :: ns) (tokEs (x2 :: ks))) ++ (3, [125], 0) :: tl = (1, q2, 0) :: ([(3, [58], 0)] ++ tokE x2 ++ comK true (namK ns (tokEs ks)) ++ (3, [125], 0) :: tl) := by
    rw [tokEs_cons, namK_cons, comK_cons, if_neg (by decide), List.nil_append]
    simp
   rw [hc2] at b3
   obtain ⟨s4, g4, _, b4⟩ := b3.yes (show ¬ (1 : Nat) = 9 by decide) (T := [44]) (by decide) (bump_not (by decide) (by decide) o)
   rw [← hc2] at b4
   have hmu4 := b4.mu
   simp only [List.length_append, List.length_cons] at hmu4
   obtain ⟨s5, e5, b5⟩ := read_fields hE d (q2 :: ns) (x2 :: ks) (by simpa using hlen) (fun z hz => hns z (List.mem_cons_of_mem _ hz)) (fun z hz => hks z (List.mem_cons_of_mem _ hz)) m s4 tl o b4 h0 ho (by omega) (by omega)
   refine ⟨s5, ?_, b5⟩
   unfold bndP
   rw [e1]
   dsimp only
   rw [e2, e3]
   dsimp only
   rw [g4]
   dsimp only
   rw [if_pos rfl, e5]
 | [], _ :: _, h, _, _, _, _, _, _, _, _, _, _, _ => by cases h
 | _ :: _, [], h, _, _, _, _, _, _, _, _, _, _, _ => by cases h
end
theorem ok_deep {d : Int} {x : ExT} (h : OkE d x) : d ≤ 60 := by cases h <;> assumption
def keyW (x : Wd) : Bool := isW x [116, 114, 117, 101] || isW x [102, 97, 108, 115, 101] || isW x [108, 101, 110] || isW x [97, 112, 112, 101, 110, 100] || (decide (x.1 = 4) && decide (1 < kindS x.2.1))
section
variable {s : Ps} {x : Wd} {l tl : List Wd} {o : Int} {h : Bool} {E : EP} {n : Nat} {c : Wd}
theorem Bf.key (b : Bf s (x :: l) o h) : keyB s = keyW x := by
 unfold keyB keyW
 rw [b.is, b.is, b.is, b.is, b.at'.kind.1, b.at'.kind.2]
theorem Bf.prim (b : Bf s (x :: l) o h) (m : Nat) : primP true E m s = if x.1 = 2 then (.mk 2 [] (x.2.2 : Int) noT [] [], nextP s) else if x.1 = 1 then namedP true E m s else if keyW x = true then keyedP E s else primQ E m s := by
 rw [prim_eq, if_neg (by rw [b.at'.e]; simp), b.key, b.at'.kind.1, show s.w.int = x.2.2 from congrArg (fun x : Wd => x.2.2) b.at'.w]
theorem par_true (t : List Wd) : parK true t = (3, [40], 0) :: (t ++ [(3, [41], 0)]) := rfl
theorem par_false (t : List Wd) : parK false t = t := rfl
theorem read_par (hE : RdE E n) {d : Int} {y : ExT} (hy : OkE d y) (m : Nat) (b : Bf s (parK true (tokE y) ++ c :: tl) o h) (hc : c.1 ≠ 9) (h0 : 0 ≤ o) (ho : o + 1 ≤ d + 39) (hh : h = true → headS y = true) (hn : mu s ≤ n) : ∃ s', primP true E m s = (y, s') ∧ Bf s' (c :: tl) o h := by
 obtain ⟨w, l, hw, hf⟩ := fst_expr hy
 have hd := ok_deep hy
 have b0 : Bf s ((3, [40], 0) :: (tokE y ++ (3, [41], 0) :: c :: tl)) o h := by
  rw [par_true, List.cons_append, List.append_assoc] at b
  exact b
 have hmu := b0.mu
 rw [b0.prim, if_neg (show ¬ (3 : Nat) = 2 by decide), if_neg (show ¬ (3 : Nat) = 1 by decide), if_neg (show ¬ keyW (3, [40], 0) = true by decide)]
 have b1 : Bf s ((3, [40], 0) :: w :: (l ++ (3, [41], 0) :: c :: tl)) o h := by
  rw [hw] at b0
  exact b0
 obtain ⟨s1, g1, _, b1⟩ := b1.yes hf.n9 (T := [40]) (by decide) (bump_open (by decide) ⟨h0, by omega⟩)
 have b2 : Bf s1 (tokE y ++ (3, [41], 0) :: c :: tl) (o + 1) h := by
  rw [hw]
  exact b1
 have hmu2 := b2.mu
 simp only [List.length_cons, List.length_append] at hmu hmu2
 obtain ⟨s2, e2, b3⟩ := hE d y hy s1 _ _ (o + 1) h b2 (fol_close (by simp) 5 (by omega) h) (by omega) (by omega) hh (by omega)
 obtain ⟨s3, _, e3, b4⟩ := b3.yes hc (T := [41]) (by decide) (bump_close (by decide) (by decide) ⟨by omega, by omega⟩)
 rw [show o + 1 - 1 = o by omega] at b4
 refine ⟨s3, ?_, b4⟩
 unfold primQ bndP
 rw [g1]
 dsimp only
 rw [if_pos rfl, e2]
 dsimp only
 rw [e3]
theorem read_args (hE : RdE E n) (en : List UInt8) (comma : Bool) (hen : en = [41] ∨ en = [125]) {d : Int} {ks : List ExT} (hks : ∀ x ∈ ks, OkE d x) {m : Nat} (b : Bf s (comK false (tokEs ks) ++ (3, en, 0) :: c :: tl) (o + 1) h) (hc : c.1 ≠ 9) (h0 : 0 ≤ o) (ho : o + 1 ≤ d + 39) (hd : d ≤ 61)
 (hh : h = true → headsS ks = true) (hn : mu s < n) (hm : mu s ≤ m) : ∃ s', listP E en comma m s = (ks, s') ∧ Bf s' (c :: tl) o h := by
 have hw : isW (3, en, 0) en = true := by rcases hen with rfl | rfl <;> decide
 have hb : bumpN en (o + 1) = some o := by
  rw [bump_close (by rcases hen with rfl | rfl <;> decide) (by rcases hen with rfl | rfl <;> decide) ⟨by omega, by omega⟩, show o + 1 - 1 = o by omega]
 have key : ∃ s1, listL E en comma m s = (ks, s1) ∧ Bf s1 ((3, en, 0) :: c :: tl) (o + 1) h := by
  cases ks with
  | nil =>
   have b : Bf s ((3, en, 0) :: c :: tl) (o + 1) h := b
   refine ⟨s, ?_, b⟩
   cases m with
   | zero => rfl
   | succ m =>
    rw [list_eq, if_neg]
    rintro ⟨_, h2⟩
    rw [b.is, hw] at h2
    cases h2
  | cons x ks => exact read_list hE en comma hen d (x :: ks) (by simp) hks m s _ (o + 1) h b (by omega) ho hh hn hm
 obtain ⟨s1, e1, b1⟩ := key
 obtain ⟨s2, _, e2, b2⟩ := b1.yes hc hw hb
 refine ⟨s2, ?_, b2⟩
 unfold listP
 rw [e1]
 dsimp only
 rw [e2]
theorem com_first {d : Int} {ks : List ExT} (hks : ∀ x ∈ ks, OkE d x) (en : List UInt8) (r : List Wd) : ∃ w l, comK false (tokEs ks) ++ (3, en, 0) :: r = w :: l ∧ w.1 ≠ 9 := by
 cases ks with
 | nil => exact ⟨_, _, rfl, show ¬ (3 : Nat) = 9 by decide⟩
 | cons x ks =>
  obtain ⟨w, l, hw, hf⟩ := fst_expr (hks x List.mem_cons_self)
  refine ⟨w, l ++ comK true (tokEs ks) ++ (3, en, 0) :: r, ?_, hf.n9⟩
  rw [tokEs_cons, comK_cons, if_neg (by decide), List.nil_append, hw]
  rfl
theorem nam_first {ns : List (List UInt8)} {ks : List ExT} (r : List Wd) : ∃ w l, comK false (namK ns (tokEs ks)) ++ (3, [125], 0) :: r = w :: l ∧ w.1 ≠ 9 := by
 cases ns with
 | nil => exact ⟨_, _, rfl, show ¬ (3 : Nat) = 9 by decide⟩
 | cons q ns =>
  cases ks with
  | nil => exact ⟨_, _, rfl, show ¬ (3 : Nat) = 9 by decide⟩
  | cons x ks =>
   refine ⟨(1, q, 0), ([(3, [58], 0)] ++ tokE x ++ comK true (namK ns (tokEs ks))) ++ (3, [125], 0) :: r, ?_, show ¬ (1 : Nat) = 9 by decide⟩
   rw [tokEs_cons, namK_cons, comK_cons, if_neg (by decide), List.nil_append]
   rfl
theorem read_keyed (hE : RdE E n) {k : List UInt8} {d : Int} {y : ExT} (hk : kindS k ≠ 0 ∨ k = [108, 101, 110]) (hk1 : ¬ kindS k = 1) (hy : OkE (d + 1) y) (m : Nat) (b : Bf s ((4, k, 0) :: (3, [40], 0) :: (tokE y ++ (3, [41], 0) :: c :: tl)) o h) (hkey : keyW (4, k, 0) = true) (hne : k ≠ [116, 114, 117, 101] ∧ k ≠ [102, 97, 108, 115, 101] ∧ k ≠ [97, 112, 112, 101, 110, 100]) (hc : c.1 ≠ 9) (h0 : 0 ≤ o) (ho : o ≤ d + 39) (hh : h = true → headS y = true) (hn : mu s ≤ n) :
 ∃ s', primP true E m s = (if 1 < kindS k then .mk 8 [] 0 (.mk (kindS k) [] []) [] [y] else .mk 12 [] 0 noT [] [y], s') ∧ Bf s' (c :: tl) o h := by
 have hd := ok_deep hy
 obtain ⟨w, l, hw, hf⟩ := fst_expr hy
 have hmu := b.mu
 rw [b.prim, if_neg (show ¬ (4 : Nat) = 2 by decide), if_neg (show ¬ (4 : Nat) = 1 by decide), if_pos hkey, keyed_eq, b.at'.kind.2, if_neg hne.1, if_neg hne.2.1]
 have b1 := b.next (show ¬ (3 : Nat) = 9 by decide)
 have b1' : Bf (nextP s) ((3, [40], 0) :: w :: (l ++ (3, [41], 0) :: c :: tl)) o h := by
  rw [hw] at b1
  exact b1
 obtain ⟨s2, _, e2, b2'⟩ := b1'.yes hf.n9 (T := [40]) (by decide) (bump_open (by decide) ⟨h0, by omega⟩)
 have b2 : Bf s2 (tokE y ++ (3, [41], 0) :: c :: tl) (o + 1) h := by
  rw [hw]
  exact b2'
 have hmu2 := b2.mu
 simp only [List.length_cons, List.length_append] at hmu hmu2
 obtain ⟨s3, e3, b3⟩ := hE (d + 1) y hy s2 _ _ (o + 1) h b2 (fol_close (by simp) 5 (by omega) h) (by omega) (by omega) hh (by omega)
 obtain ⟨s4, _, e4, b4⟩ := b3.yes hc (T := [41]) (by decide) (bump_close (by decide) (by decide) ⟨by omega, by omega⟩)
 rw [show o + 1 - 1 = o by omega] at b4
 refine ⟨s4, ?_, b4⟩
 unfold keyQ bndP
 dsimp only
 rw [e2, e3]
 dsimp only
 rw [if_neg hne.2.2, e4]
 split <;> rfl
end
section
variable {E : EP} {n : Nat}
theorem headS_kids {k : Int} {t : List UInt8} {i : Int} {ty : TyT} {ns : List (List UInt8)} {ks : List ExT} (h : headS (.mk k t i ty ns ks) = true) : k ≠ 14 ∧ k ≠ 15 ∧ headsS ks = true := by
 unfold headS at h
 simpa [and_assoc] using h
theorem headS_kid {h : Bool} {k : Int} {t : List UInt8} {i : Int} {ty : TyT} {ns : List (List UInt8)} {ks : List ExT} (hh : h = true → headS (.mk k t i ty ns ks) = true) {y : ExT} (hy : y ∈ ks) : h = true → headS y = true :=
 fun e => heads_mem (headS_kids (hh e)).2.2 y hy
def RdP (E : EP) (n : Nat) (d : Int) (y : ExT) (b : Bool) : Prop := ∀ (m : Nat) (s : Ps) (c : Wd) (tl : List Wd) (o : Int) (h : Bool), (b = true ∨ tigB y = false) → Bf s (parK b (tokE y) ++ c :: tl) o h → c.1 ≠ 9 → isW c [40] = false → (h = false → isW c [123] = false) →
 0 ≤ o → o ≤ d + 39 → (b = true → o + 1 ≤ d + 39) → (h = true → headS y = true) → mu s ≤ n → mu s ≤ m → ∃ m' s', bndP (primP true E m s) (fun x s1 => pstL E m x s1) = pstL E m' y s' ∧ Bf s' (c :: tl) o h ∧ mu s' ≤ m'
theorem rdp_true (hE : RdE E n) {d : Int} {y : ExT} (hy : OkE d y) : RdP E n d y true := by
 intro m s c tl o h _ b hc _ _ h0 _ ho hh hn hm
 obtain ⟨s', e, b'⟩ := read_par hE hy m b hc h0 (ho rfl) hh hn
 refine ⟨m, s', ?_, b', ?_⟩
 ·rw [e]
  rfl
 ·have h1 := b.mu
  have h2 := b'.mu
  simp only [par_true, List.length_cons, List.length_append] at h1 h2
  omega
theorem rdp_of (hE : RdE E n) {d : Int} {y : ExT} (hy : OkE d y) (b : Bool) (h : b = false → RdP E n d y false) : RdP E n d y b := by
 cases b with
 | true => exact rdp_true hE hy
 | false => exact h rfl
theorem rdp_once {d : Int} {y : ExT} (h : ∀ (m : Nat) (s : Ps) (c : Wd) (tl : List Wd) (o : Int) (h : Bool), Bf s (tokE y ++ c :: tl) o h → c.1 ≠ 9 → isW c [40] = false → (h = false → isW c [123] = false) →
 0 ≤ o → o ≤ d + 39 → (h = true → headS y = true) → mu s ≤ n → mu s ≤ m → ∃ s', primP true E m s = (y, s') ∧ Bf s' (c :: tl) o h) : RdP E n d y false := by
 intro m s c tl o h' _ b hc h1 h2 h0 ho _ hh hn hm
 rw [par_false] at b
 obtain ⟨s', e, b'⟩ := h m s c tl o h' b hc h1 h2 h0 ho hh hn hm
 refine ⟨m, s', ?_, b', ?_⟩
 ·rw [e]
  rfl
 ·have h1 := b.mu
  have h2 := b'.mu
  simp only [List.length_cons, List.length_append] at h1 h2
  omega
theorem rdp_name {d : Int} {t : List UInt8} : RdP E n d (.mk 1 t 0 noT [] []) false := by
 refine rdp_once fun m s c tl o h b hc hp hq h0 ho hh hn hm => ?_
 have b : Bf s ((1, t, 0) :: c :: tl) o h := b
 obtain ⟨s1, e1, b1⟩ := b.name hc
 refine ⟨s1, ?_, b1⟩
 rw [b.prim, if_neg (show ¬ (1 : Nat) = 2 by decide), if_pos rfl, named_eq]
 unfold bndP
 rw [e1]
 dsimp only
 rw [b1.no hp]
 dsimp only
 rw [if_neg (by decide)]
 cases h with
 | true => rw [if_neg (by rw [b1.h]; decide)]
 | false => rw [if_pos b1.h, b1.no (hq rfl)]; rfl
theorem rdp_call (hE : RdE E n) {d : Int} (hd : d ≤ 60) {t : List UInt8} {ks : List ExT} (hks : ∀ x ∈ ks, OkE (d + 1) x) : RdP E n d (.mk 7 t 0 noT [] ks) false := by
 refine rdp_once fun m s c tl o h b hc hp hq h0 ho hh hn hm => ?_
 have b0 : Bf s ((1, t, 0) :: (3, [40], 0) :: (comK false (tokEs ks) ++ (3, [41], 0) :: c :: tl)) o h := by
  have e : tokE (.mk 7 t 0 noT [] ks) ++ c :: tl = (1, t, 0) :: (3, [40], 0) :: (comK false (tokEs ks) ++ (3, [41], 0) :: c :: tl) := by
   show ([(1, t, 0)] ++ [(3, [40], 0)] ++ comK false (tokEs ks) ++ [(3, [41], 0)]) ++ c :: tl = _
   simp
  rw [← e]
  exact b
 have hmu := b0.mu
 obtain ⟨w, l, hw, hf⟩ := com_first hks [41] (c :: tl)
 rw [b0.prim, if_neg (show ¬ (1 : Nat) = 2 by decide), if_pos rfl, named_eq]
 obtain ⟨s1, e1, b1⟩ := b0.name (show ¬ (3 : Nat) = 9 by decide)
 have b1' := b1
 rw [hw] at b1'
 obtain ⟨s2, e2, _, b2⟩ := b1'.yes hf (T := [40]) (by decide) (bump_open (by decide) ⟨h0, by omega⟩)
 rw [← hw] at b2
 have hmu2 := b2.mu
 simp only [List.length_cons, List.length_append] at hmu hmu2
 obtain ⟨s3, e3, b3⟩ := read_args hE [41] false (.inl rfl) hks b2 hc h0 (by omega) (by omega) (fun e => (headS_kids (hh e)).2.2) (m := m) (by omega) (by omega)
 refine ⟨s3, ?_, b3⟩
 unfold bndP
 rw [e1]
 dsimp only
 rw [e2]
 dsimp only
 rw [if_pos rfl, e3]
theorem rdp_str (hE : RdE E n) {d : Int} (hd : d ≤ 60) {t : List UInt8} {ns : List (List UInt8)} {ks : List ExT} (hl : ns.length = ks.length) (hns : ∀ m ∈ ns, identS m = true) (hks : ∀ x ∈ ks, OkE (d + 1) x) : RdP E n d (.mk 14 [] 0 (.mk 7 t []) ns ks) false := by
 refine rdp_once fun m s c tl o h b hc hp hq h0 ho hh hn hm => ?_
 obtain rfl : h = false := by
  cases h with
  | false => rfl
  | true => exact absurd rfl (headS_kids (hh rfl)).1
 have b0 : Bf s ((1, t, 0) :: (3, [123], 0) :: (comK false (namK ns (tokEs ks)) ++ (3, [125], 0) :: c :: tl)) o false := by
  have e : tokE (.mk 14 [] 0 (.mk 7 t []) ns ks) ++ c :: tl = (1, t, 0) :: (3, [123], 0) :: (comK false (namK ns (tokEs ks)) ++ (3, [125], 0) :: c :: tl) := by
   show ([(1, t, 0)] ++ ([(3, [123], 0)] ++ comK false (namK ns (tokEs ks)) ++ [(3, [125], 0)])) ++ c :: tl = _
   simp
  rw [← e]
  exact b
 have hmu := b0.mu
 obtain ⟨w, l, hw, hf⟩ := nam_first (ns := ns) (ks := ks) (c :: tl)
 rw [b0.prim, if_neg (show ¬ (1 : Nat) = 2 by decide), if_pos rfl, named_eq]
 obtain ⟨s1, e1, b1⟩ := b0.name (show ¬ (3 : Nat) = 9 by decide)
 have b1' := b1
 rw [hw] at b1'
 obtain ⟨s2, e2, _, b2⟩ := b1'.yes hf (T := [123]) (by decide) (bump_open (by decide) ⟨h0, by omega⟩)
 rw [← hw] at b2
 have hmu2 := b2.mu
 simp only [List.length_cons, List.length_append] at hmu hmu2
 obtain ⟨s3, e3, b3⟩ := read_fields hE (d + 1) ns ks hl hns hks m s2 _ (o + 1) b2 (by omega) (by omega) (by omega) (by omega)
 obtain ⟨s4, _, e4, b4⟩ := b3.yes hc (T := [125]) (by decide) (bump_close (by decide) (by decide) ⟨by omega, by omega⟩)
 rw [show o + 1 - 1 = o by omega] at b4
 refine ⟨s4, ?_, b4⟩
 unfold bndP
 rw [e1]
 dsimp only
 rw [b1.no (T := [40]) (by decide)]
 dsimp only
 rw [if_neg (by decide), if_pos b1.h, e2]
 dsimp only
 rw [if_pos rfl, e3]
 dsimp only
 rw [e4]
theorem rdp_lis (hE : RdE E n) {d : Int} (hd : d ≤ 60) {t : TyT} (ht : OkT t) {ks : List ExT} (hks : ∀ x ∈ ks, OkE (d + 1) x) : RdP E n d (.mk 15 [] 0 (.mk 8 [] [t]) [] ks) false := by
 refine rdp_once fun m s c tl o h b hc hp hq h0 ho hh hn hm => ?_
 obtain rfl : h = false := by
  cases h with
  | false => rfl
  | true => exact absurd rfl (headS_kids (hh rfl)).2.1
 have b0 : Bf s (tokT (.mk 8 [] [t]) ++ (3, [123], 0) :: (comK false (tokEs ks) ++ (3, [125], 0) :: c :: tl)) o false := by
  have e : tokE (.mk 15 [] 0 (.mk 8 [] [t]) [] ks) ++ c :: tl = tokT (.mk 8 [] [t]) ++ (3, [123], 0) :: (comK false (tokEs ks) ++ (3, [125], 0) :: c :: tl) := by
   show (tokT (.mk 8 [] [t]) ++ ([(3, [123], 0)] ++ comK false (tokEs ks) ++ [(3, [125], 0)])) ++ c :: tl = _
   simp
  rw [← e]
  exact b
 have bb : Bf s ((3, [91], 0) :: (3, [93], 0) :: (tokT t ++ (3, [123], 0) :: (comK false (tokEs ks) ++ (3, [125], 0) :: c :: tl))) o false := b0
 have hmu := b0.mu
 obtain ⟨w, l, hw, hf⟩ := com_first hks [125] (c :: tl)
 rw [bb.prim, if_neg (show ¬ (3 : Nat) = 2 by decide), if_neg (show ¬ (3 : Nat) = 1 by decide), if_neg (show ¬ keyW (3, [91], 0) = true by decide)]
 obtain ⟨s1, e1, b1⟩ := read_type (.sli t ht) m s _ _ o false b0 (show ¬ (3 : Nat) = 9 by decide) h0 (by omega) hm
 have b1' := b1
 rw [hw] at b1'
 obtain ⟨s2, _, e2, b2⟩ := b1'.yes hf (T := [123]) (by decide) (bump_open (by decide) ⟨h0, by omega⟩)
 rw [← hw] at b2
 have hmu2 := b2.mu
 simp only [List.length_cons, List.length_append] at hmu hmu2
 obtain ⟨s3, e3, b3⟩ := read_args hE [125] true (.inr rfl) hks b2 hc h0 (by omega) (by omega) (fun e => by cases e) (m := m) (by omega) (by omega)
 refine ⟨s3, ?_, b3⟩
 unfold primQ bndP
 rw [bb.no (T := [40]) (by decide)]
 dsimp only
 rw [if_neg (by decide), if_pos ⟨bb.h, by rw [bb.is]; decide⟩, e1]
 dsimp only
 rw [e2, e3]
theorem rdp_app (hE : RdE E n) {d : Int} (hd : d ≤ 60) {y z : ExT} (hy : OkE (d + 1) y) (hz : OkE (d + 1) z) : RdP E n d (.mk 13 [] 0 noT [] [y, z]) false := by
 refine rdp_once fun m s c tl o h b hc hp hq h0 ho hh hn hm => ?_
 have b0 : Bf s ((4, [97, 112, 112, 101, 110, 100], 0) :: (3, [40], 0) :: (tokE y ++ (3, [44], 0) :: (tokE z ++ (3, [41], 0) :: c :: tl))) o h := by
  have e : tokE (.mk 13 [] 0 noT [] [y, z]) ++ c :: tl = (4, [97, 112, 112, 101, 110, 100], 0) :: (3, [40], 0) :: (tokE y ++ (3, [44], 0) :: (tokE z ++ (3, [41], 0) :: c :: tl)) := by
   show ([(4, [97, 112, 112, 101, 110, 100], 0)] ++ [(3, [40], 0)] ++ comK false [tokE y, tokE z] ++ [(3, [41], 0)]) ++ c :: tl = _
   simp [comK]
  rw [← e]
  exact b
 obtain ⟨w, l, hw, hf⟩ := fst_expr hy
 obtain ⟨w2, l2, hw2, hf2⟩ := fst_expr hz
 have hmu := b0.mu
 rw [b0.prim, if_neg (show ¬ (4 : Nat) = 2 by decide), if_neg (show ¬ (4 : Nat) = 1 by decide), if_pos (show keyW (4, [97, 112, 112, 101, 110, 100], 0) = true by decide), keyed_eq, b0.at'.kind.2, if_neg (by decide), if_neg (by decide)]
 have b1 := b0.next (show ¬ (3 : Nat) = 9 by decide)
 have b1' : Bf (nextP s) ((3, [40], 0) :: w :: (l ++ (3, [44], 0) :: (tokE z ++ (3, [41], 0) :: c :: tl))) o h := by
  rw [hw] at b1
  exact b1
 obtain ⟨s2, _, e2, b2'⟩ := b1'.yes hf.n9 (T := [40]) (by decide) (bump_open (by decide) ⟨h0, by omega⟩)
 have b2 : Bf s2 (tokE y ++ (3, [44], 0) :: (tokE z ++ (3, [41], 0) :: c :: tl)) (o + 1) h := by
  rw [hw]
  exact b2'
 have hmu2 := b2.mu
 simp only [List.length_cons, List.length_append] at hmu hmu2
 obtain ⟨s3, e3, b3⟩ := hE (d + 1) y hy s2 _ _ (o + 1) h b2 (fol_close (by simp) 5 (by omega) h) (by omega) (by omega) (headS_kid hh (by simp)) (by omega)
 have b3' : Bf s3 ((3, [44], 0) :: w2 :: (l2 ++ (3, [41], 0) :: c :: tl)) (o + 1) h := by
  rw [hw2] at b3
  exact b3
 obtain ⟨s4, _, e4, b4'⟩ := b3'.yes hf2.n9 (T := [44]) (by decide) (bump_not (by decide) (by decide) _)
 have b4 : Bf s4 (tokE z ++ (3, [41], 0) :: c :: tl) (o + 1) h := by
  rw [hw2]
  exact b4'
 have hmu4 := b4.mu
 simp only [List.length_cons, List.length_append] at hmu4
 obtain ⟨s5, e5, b5⟩ := hE (d + 1) z hz s4 _ _ (o + 1) h b4 (fol_close (by simp) 5 (by omega) h) (by omega) (by omega) (headS_kid hh (by simp)) (by omega)
 obtain ⟨s6, _, e6, b6⟩ := b5.yes hc (T := [41]) (by decide) (bump_close (by decide) (by decide) ⟨by omega, by omega⟩)
 rw [show o + 1 - 1 = o by omega] at b6
 refine ⟨s6, ?_, b6⟩
 unfold keyQ bndP
 dsimp only
 rw [e2, e3]
 dsimp only
 rw [if_pos rfl, e4, e5]
 dsimp only
 rw [e6]
end
section
variable {E : EP} {n : Nat}
theorem rdp_len (hE : RdE E n) {d : Int} {y : ExT} (hy : OkE (d + 1) y) : RdP E n d (.mk 12 [] 0 noT [] [y]) false := by
 refine rdp_once fun m s c tl o h b hc hp hq h0 ho hh hn hm => ?_
 have b0 : Bf s ((4, [108, 101, 110], 0) :: (3, [40], 0) :: (tokE y ++ (3, [41], 0) :: c :: tl)) o h := by
  have e : tokE (.mk 12 [] 0 noT [] [y]) ++ c :: tl = (4, [108, 101, 110], 0) :: (3, [40], 0) :: (tokE y ++ (3, [41], 0) :: c :: tl) := by
   show ([(4, [108, 101, 110], 0)] ++ [(3, [40], 0)] ++ comK false [tokE y] ++ [(3, [41], 0)]) ++ c :: tl = _
   simp [comK]
  rw [← e]
  exact b
 obtain ⟨s', e, b'⟩ := read_keyed hE (.inr rfl) (by decide) hy m b0 (by decide) (by decide) hc h0 ho (headS_kid hh (by simp)) hn
 exact ⟨s', by rw [e]; rfl, b'⟩
theorem rdp_con (hE : RdE E n) {d k : Int} (h1 : 2 ≤ k) (h2 : k ≤ 6) {y : ExT} (hy : OkE (d + 1) y) : RdP E n d (.mk 8 [] 0 (.mk k [] []) [] [y]) false := by
 refine rdp_once fun m s c tl o h b hc hp hq h0 ho hh hn hm => ?_
 have hk : k = 2 ∨ k = 3 ∨ k = 4 ∨ k = 5 ∨ k = 6 := by omega
 have hall : kindS (basT k) = k ∧ keyW (4, basT k, 0) = true ∧ basT k ≠ [116, 114, 117, 101] ∧ basT k ≠ [102, 97, 108, 115, 101] ∧ basT k ≠ [97, 112, 112, 101, 110, 100] := by
  rcases hk with rfl | rfl | rfl | rfl | rfl <;> decide
 have b0 : Bf s ((4, basT k, 0) :: (3, [40], 0) :: (tokE y ++ (3, [41], 0) :: c :: tl)) o h := by
  have e : tokE (.mk 8 [] 0 (.mk k [] []) [] [y]) ++ c :: tl = (4, basT k, 0) :: (3, [40], 0) :: (tokE y ++ (3, [41], 0) :: c :: tl) := by
   show (tokT (.mk k [] []) ++ ([(3, [40], 0)] ++ comK false [tokE y] ++ [(3, [41], 0)])) ++ c :: tl = _
   rw [tok_bas (by omega) h2]
   simp [comK]
  rw [← e]
  exact b
 obtain ⟨s', e, b'⟩ := read_keyed hE (.inl (by rw [hall.1]; omega)) (by rw [hall.1]; omega) hy m b0 hall.2.1 hall.2.2 hc h0 ho (headS_kid hh (by simp)) hn
 exact ⟨s', by rw [e, hall.1, if_pos (by omega)], b'⟩
theorem rdp_num {d i : Int} (h0 : 0 ≤ i) : RdP E n d (.mk 2 [] i noT [] []) false := by
 refine rdp_once fun m s c tl o h b hc hp hq _ ho hh hn hm => ?_
 have b0 : Bf s ((2, digF 24 i.toNat, i.toNat) :: c :: tl) o h := b
 refine ⟨nextP s, ?_, b0.next hc⟩
 rw [b0.prim, if_pos rfl]
 show (ExT.mk 2 [] ((i.toNat : Nat) : Int) noT [] [], nextP s) = _
 rw [Int.toNat_of_nonneg h0]
theorem rdp_tru {d i : Int} (h0 : 0 ≤ i) (h1 : i ≤ 1) : RdP E n d (.mk 3 [] i noT [] []) false := by
 refine rdp_once fun m s c tl o h b hc hp hq _ ho hh hn hm => ?_
 have hi : i = 0 ∨ i = 1 := by omega
 rcases hi with rfl | rfl
 ·have b0 : Bf s ((4, [102, 97, 108, 115, 101], 0) :: c :: tl) o h := b
  refine ⟨nextP s, ?_, b0.next hc⟩
  rw [b0.prim, if_neg (show ¬ (4 : Nat) = 2 by decide), if_neg (show ¬ (4 : Nat) = 1 by decide), if_pos (show keyW (4, [102, 97, 108, 115, 101], 0) = true by decide), keyed_eq, b0.at'.kind.2, if_neg (by decide), if_pos rfl]
 ·have b0 : Bf s ((4, [116, 114, 117, 101], 0) :: c :: tl) o h := b
  refine ⟨nextP s, ?_, b0.next hc⟩
  rw [b0.prim, if_neg (show ¬ (4 : Nat) = 2 by decide), if_neg (show ¬ (4 : Nat) = 1 by decide), if_pos (show keyW (4, [116, 114, 117, 101], 0) = true by decide), keyed_eq, b0.at'.kind.2, if_pos rfl]
theorem tig_or (y : ExT) : tigB y = true ∨ tigB y = false := by cases tigB y <;> simp
theorem rdp_fld (hE : RdE E n) {d : Int} (hd : d ≤ 60) {t : List UInt8} {y : ExT} (ih : RdP E n (d + 1) y (tigB y)) : RdP E n d (.mk 9 t 0 noT [] [y]) false := by
 intro m s c tl o h _ b hc hp hq h0 ho _ hh hn hm
 have b0 : Bf s (parK (tigB y) (tokE y) ++ (3, [46], 0) :: (1, t, 0) :: c :: tl) o h := by
  have e : parK false (tokE (.mk 9 t 0 noT [] [y])) ++ c :: tl = parK (tigB y) (tokE y) ++ (3, [46], 0) :: (1, t, 0) :: c :: tl := by
   show (parK (tigB y) (tokE y) ++ ([(3, [46], 0)] ++ [(1, t, 0)])) ++ c :: tl = _
   simp
  rw [← e]
  exact b
 obtain ⟨m', s', e1, b1, hm1⟩ := ih m s _ _ o h (tig_or y) b0 (show ¬ (3 : Nat) = 9 by decide) (by decide) (fun _ => by decide) h0 (by omega) (fun _ => by omega) (headS_kid hh (by simp)) hn hm
 have hmu1 := b1.mu
 simp only [List.length_cons] at hmu1
 obtain ⟨k, rfl⟩ : ∃ k, m' = k + 1 := ⟨m' - 1, by omega⟩
 obtain ⟨s2, e2, _, b2⟩ := b1.yes (show ¬ (1 : Nat) = 9 by decide) (T := [46]) (by decide) (bump_not (by decide) (by decide) _)
 obtain ⟨s3, e3, b3⟩ := b2.name hc
 have hmu3 := b3.mu
 simp only [List.length_cons] at hmu3
 refine ⟨k, s3, ?_, b3, by omega⟩
 rw [e1, pst_eq, if_neg (by rw [b1.at'.e]; simp)]
 unfold bndP
 rw [e2]
 dsimp only
 rw [if_pos rfl, e3]
theorem rdp_idx (hE : RdE E n) {d : Int} (hd : d ≤ 60) {y z : ExT} (hz : OkE (d + 1) z) (ih : RdP E n (d + 1) y (tigB y)) : RdP E n d (.mk 10 [] 0 noT [] [y, z]) false := by
 intro m s c tl o h _ b hc hp hq h0 ho _ hh hn hm
 obtain ⟨w, l, hw, hf⟩ := fst_expr hz
 have b0 : Bf s (parK (tigB y) (tokE y) ++ (3, [91], 0) :: (tokE z ++ (3, [93], 0) :: c :: tl)) o h := by
  have e : parK false (tokE (.mk 10 [] 0 noT [] [y, z])) ++ c :: tl = parK (tigB y) (tokE y) ++ (3, [91], 0) :: (tokE z ++ (3, [93], 0) :: c :: tl) := by
   show (parK (tigB y) (tokE y) ++ [(3, [91], 0)] ++ tokE z ++ [(3, [93], 0)]) ++ c :: tl = _
   simp
  rw [← e]
  exact b
 have hmu := b0.mu
 obtain ⟨m', s', e1, b1, hm1⟩ := ih m s _ _ o h (tig_or y) b0 (show ¬ (3 : Nat) = 9 by decide) (by decide) (fun _ => by decide) h0 (by omega) (fun _ => by omega) (headS_kid hh (by simp)) hn hm
 have hmu1 := b1.mu
 simp only [List.length_cons, List.length_append] at hmu hmu1
 obtain ⟨k, rfl⟩ : ∃ k, m' = k + 1 := ⟨m' - 1, by omega⟩
 have b1' : Bf s' ((3, [91], 0) :: w :: (l ++ (3, [93], 0) :: c :: tl)) o h := by
  rw [hw] at b1
  exact b1
 obtain ⟨s2, e2, _, b2'⟩ := b1'.yes hf.n9 (T := [91]) (by decide) (bump_open (by decide) ⟨h0, by omega⟩)
 have b2 : Bf s2 (tokE z ++ (3, [93], 0) :: c :: tl) (o + 1) h := by
  rw [hw]
  exact b2'
 have hmu2 := b2.mu
 simp only [List.length_cons, List.length_append] at hmu2
 obtain ⟨s3, e3, b3⟩ := hE (d + 1) z hz s2 _ _ (o + 1) h b2 (fol_close (by simp) 5 (by omega) h) (by omega) (by omega) (headS_kid hh (by simp)) (by omega)
 obtain ⟨s4, _, e4, b4⟩ := b3.yes hc (T := [93]) (by decide) (bump_close (by decide) (by decide) ⟨by omega, by omega⟩)
 rw [show o + 1 - 1 = o by omega] at b4
 have hmu4 := b4.mu
 simp only [List.length_cons] at hmu4
 refine ⟨k, s4, ?_, b4, by omega⟩
 rw [e1, pst_eq, if_neg (by rw [b1.at'.e]; simp)]
 unfold bndP
 rw [b1.no (T := [46]) (by decide)]
 dsimp only
 rw [if_neg (by decide), e2]
 dsimp only
 rw [if_pos rfl, e3]
 dsimp only
 rw [b3.no (T := [58]) (by decide)]
 dsimp only
 rw [if_neg (by decide), e4]
theorem rdp_cut (hE : RdE E n) {d : Int} (hd : d ≤ 60) {y z u : ExT} (hz : OkE (d + 1) z) (hu : OkE (d + 1) u) (ih : RdP E n (d + 1) y (tigB y)) : RdP E n d (.mk 11 [] 0 noT [] [y, z, u]) false := by
 intro m s c tl o h _ b hc hp hq h0 ho _ hh hn hm
 obtain ⟨w, l, hw, hf⟩ := fst_expr hz
 obtain ⟨w2, l2, hw2, hf2⟩ := fst_expr hu
 have b0 : Bf s (parK (tigB y) (tokE y) ++ (3, [91], 0) :: (tokE z ++ (3, [58], 0) :: (tokE u ++ (3, [93], 0) :: c :: tl))) o h := by
  have e : parK false (tokE (.mk 11 [] 0 noT [] [y, z, u])) ++ c :: tl = parK (tigB y) (tokE y) ++ (3, [91], 0) :: (tokE z ++ (3, [58], 0) :: (tokE u ++ (3, [93], 0) :: c :: tl)) := by
   show (parK (tigB y) (tokE y) ++ [(3, [91], 0)] ++ tokE z ++ [(3, [58], 0)] ++ tokE u ++ [(3, [93], 0)]) ++ c :: tl = _
   simp
  rw [← e]
  exact b
 have hmu := b0.mu
 obtain ⟨m', s', e1, b1, hm1⟩ := ih m s _ _ o h (tig_or y) b0 (show ¬ (3 : Nat) = 9 by decide) (by decide) (fun _ => by decide) h0 (by omega) (fun _ => by omega) (headS_kid hh (by simp)) hn hm
 have hmu1 := b1.mu
 simp only [List.length_cons, List.length_append] at hmu hmu1
 obtain ⟨k, rfl⟩ : ∃ k, m' = k + 1 := ⟨m' - 1, by omega⟩
 have b1' : Bf s' ((3, [91], 0) :: w :: (l ++ (3, [58], 0) :: (tokE u ++ (3, [93], 0) :: c :: tl))) o h := by
  rw [hw] at b1
  exact b1
 obtain ⟨s2, e2, _, b2'⟩ := b1'.yes hf.n9 (T := [91]) (by decide) (bump_open (by decide) ⟨h0, by omega⟩)
 have b2 : Bf s2 (tokE z ++ (3, [58], 0) :: (tokE u ++ (3, [93], 0) :: c :: tl)) (o + 1) h := by
  rw [hw]
  exact b2'
 have hmu2 := b2.mu
 simp only [List.length_cons, List.length_append] at hmu2
 obtain ⟨s3, e3, b3⟩ := hE (d + 1) z hz s2 _ _ (o + 1) h b2 (fol_close (by simp) 5 (by omega) h) (by omega) (by omega) (headS_kid hh (by simp)) (by omega)
 have b3' : Bf s3 ((3, [58], 0) :: w2 :: (l2 ++ (3, [93], 0) :: c :: tl)) (o + 1) h := by
  rw [hw2] at b3
  exact b3
 obtain ⟨s4, e4, _, b4'⟩ := b3'.yes hf2.n9 (T := [58]) (by decide) (bump_not (by decide) (by decide) _)
 have b4 : Bf s4 (tokE u ++ (3, [93], 0) :: c :: tl) (o + 1) h := by
  rw [hw2]
  exact b4'
 have hmu4 := b4.mu
 simp only [List.length_cons, List.length_append] at hmu4
 obtain ⟨s5, e5, b5⟩ := hE (d + 1) u hu s4 _ _ (o + 1) h b4 (fol_close (by simp) 5 (by omega) h) (by omega) (by omega) (headS_kid hh (by simp)) (by omega)
 obtain ⟨s6, _, e6, b6⟩ := b5.yes hc (T := [93]) (by decide) (bump_close (by decide) (by decide) ⟨by omega, by omega⟩)
 rw [show o + 1 - 1 = o by omega] at b6
 have hmu6 := b6.mu
 simp only [List.length_cons] at hmu6
 refine ⟨k, s6, ?_, b6, by omega⟩
 rw [e1, pst_eq, if_neg (by rw [b1.at'.e]; simp)]
 unfold bndP
 rw [b1.no (T := [46]) (by decide)]
 dsimp only
 rw [if_neg (by decide), e2]
 dsimp only
 rw [if_pos rfl, e3]
 dsimp only
 rw [e4]
 dsimp only
 rw [if_pos rfl, e5]
 dsimp only
 rw [e6]
theorem rdp_all (hE : RdE E n) {d : Int} {y : ExT} (hy : OkE d y) : ∀ b, RdP E n d y b := by
 induction hy with
 | nam d t hd h => exact fun b => rdp_of hE (.nam d t hd h) b fun _ => rdp_name
 | num d i hd h0 h => exact fun b => rdp_of hE (.num d i hd h0 h) b fun _ => rdp_num h0
 | tru d i hd h0 h1 => exact fun b => rdp_of hE (.tru d i hd h0 h1) b fun _ => rdp_tru h0 h1
 | sgn d k y hd hk hy ih =>
  refine fun b => rdp_of hE (.sgn d k y hd hk hy) b fun _ => ?_
  intro m s c tl o h hb
  rcases hb with hb | hb
  ·cases hb
  ·rcases hk with rfl | rfl <;> exact absurd hb (by simp [tigB, ExT.kind])
 | bin d t y z hd ht hy hz ihy ihz =>
  refine fun b => rdp_of hE (.bin d t y z hd ht hy hz) b fun _ => ?_
  intro m s c tl o h hb
  rcases hb with hb | hb
  ·cases hb
  ·exact absurd hb (by simp [tigB, ExT.kind])
 | cal d t ks hd h hks ih => exact fun b => rdp_of hE (.cal d t ks hd h hks) b fun _ => rdp_call hE hd hks
 | con d k y hd h1 h2 hy ih => exact fun b => rdp_of hE (.con d k y hd h1 h2 hy) b fun _ => rdp_con hE h1 h2 hy
 | fld d t y hd h hy ih => exact fun b => rdp_of hE (.fld d t y hd h hy) b fun _ => rdp_fld hE hd (ih _)
 | idx d y z hd hy hz ihy ihz => exact fun b => rdp_of hE (.idx d y z hd hy hz) b fun _ => rdp_idx hE hd hz (ihy _)
 | cut d y z u hd hy hz hu ihy ihz ihu => exact fun b => rdp_of hE (.cut d y z u hd hy hz hu) b fun _ => rdp_cut hE hd hz hu (ihy _)
 | len d y hd hy ih => exact fun b => rdp_of hE (.len d y hd hy) b fun _ => rdp_len hE hy
 | app d y z hd hy hz ihy ihz => exact fun b => rdp_of hE (.app d y z hd hy hz) b fun _ => rdp_app hE hd hy hz
 | str d q ns ks hd h hl hns hks ih => exact fun b => rdp_of hE (.str d q ns ks hd h hl hns hks) b fun _ => rdp_str hE hd hl hns hks
 | lis d t ks hd h hks ih => exact fun b => rdp_of hE (.lis d t ks hd h hks) b fun _ => rdp_lis hE hd h hks
end
def NoS (t : List Wd) : Prop := ∃ w l, t = w :: l ∧ w.1 ≠ 9 ∧ isW w [33] = false ∧ isW w [45] = false
theorem nos_app {t : List Wd} (h : NoS t) (r : List Wd) : NoS (t ++ r) := by
 obtain ⟨w, l, rfl, hw⟩ := h
 exact ⟨w, l ++ r, rfl, hw⟩
theorem nos_par {t : List Wd} {b : Bool} (h : b = true ∨ NoS t) : NoS (parK b t) := by
 cases b with
 | true => exact ⟨_, _, rfl, show ¬ (3 : Nat) = 9 by decide, by decide, by decide⟩
 | false =>
  rcases h with h | h
  ·cases h
  ·exact h
theorem nos_name (t : List UInt8) (r : List Wd) : NoS ((1, t, 0) :: r) := ⟨_, _, rfl, show ¬ (1 : Nat) = 9 by decide, rfl, rfl⟩
theorem nos_expr {d : Int} {x : ExT} (h : OkE d x) : tigB x = false → NoS (tokE x) := by
 have two : ∀ y : ExT, (tigB y = false → NoS (tokE y)) → NoS (parK (tigB y) (tokE y)) := fun y h => nos_par (by
  rcases tig_or y with e | e
  ·exact .inl e
  ·exact .inr (h e))
 induction h with
 | nam d t _ h => exact fun _ => nos_name t _
 | num d i _ h0 h => exact fun _ => ⟨_, _, rfl, show ¬ (2 : Nat) = 9 by decide, rfl, rfl⟩
 | tru d i _ h0 h1 =>
  have hi : i = 0 ∨ i = 1 := by omega
  rcases hi with rfl | rfl <;> exact fun _ => ⟨_, _, rfl, by decide, by decide, by decide⟩
 | sgn d k y _ hk _ _ =>
  intro h
  rcases hk with rfl | rfl <;> exact absurd h (by simp [tigB, ExT.kind])
 | bin d t y z _ _ _ _ _ _ => exact fun h => absurd h (by simp [tigB, ExT.kind])
 | cal d t ks _ h _ _ => exact fun _ => nos_name t _
 | con d k y _ h1 h2 _ _ =>
  intro _
  have hk : k = 2 ∨ k = 3 ∨ k = 4 ∨ k = 5 ∨ k = 6 := by omega
  rcases hk with rfl | rfl | rfl | rfl | rfl <;> exact ⟨_, _, rfl, by decide, by decide, by decide⟩
 | fld d t y _ _ _ ih => exact fun _ => nos_app (two y ih) _
 | idx d y z _ _ _ ih _ => exact fun _ => nos_app (nos_app (nos_app (two y ih) _) _) _
 | cut d y z u _ _ _ _ ih _ _ => exact fun _ => nos_app (nos_app (nos_app (nos_app (nos_app (two y ih) _) _) _) _) _
 | len d y _ _ _ => exact fun _ => ⟨_, _, rfl, by decide, by decide, by decide⟩
 | app d y z _ _ _ _ _ => exact fun _ => ⟨_, _, rfl, by decide, by decide, by decide⟩
 | str d q ns ks _ h _ _ _ _ => exact fun _ => nos_name q _
 | lis d t ks _ h _ _ => exact fun _ => ⟨_, _, rfl, by decide, by decide, by decide⟩
section
variable {E : EP} {n : Nat} {s : Ps} {c : Wd} {tl : List Wd} {o : Int} {h : Bool}
theorem Bf.nosgn {t : List Wd} (b : Bf s t o h) (ht : NoS t) (m : Nat) : sgnL m s = ([], s) := by
 obtain ⟨w, l, rfl, _, h1, h2⟩ := ht
 cases m with
 | zero => rfl
 | succ m => rw [sgn_eq, b.is, h1, if_neg (by decide), b.is, h2, if_neg (by decide)]
theorem Bf.pend (b : Bf s (c :: tl) o h) (h1 : isW c [46] = false) (h2 : isW c [91] = false) (m : Nat) (y : ExT) : pstL E m y s = (y, s) := by
 cases m with
 | zero => rfl
 | succ m =>
  rw [pst_eq, if_neg (by rw [b.at'.e]; simp)]
  unfold bndP
  rw [b.no h1]
  dsimp only
  rw [if_neg (by decide), b.no h2]
  rfl
theorem read_oper (hE : RdE E n) {d : Int} {y : ExT} (hy : OkE d y) (b : Bool) (hb : b = true ∨ ¬ y.kind = 6) (m : Nat) (bf : Bf s (parK b (tokE y) ++ c :: tl) o h) (hf : Fol 0 h c) (h0 : 0 ≤ o) (ho : o ≤ d + 39) (hbo : b = true → o + 1 ≤ d + 39) (hh : h = true → headS y = true) (hn : mu s ≤ n) (hm : mu s ≤ m) :
 ∃ s', operP true E m s = (y, s') ∧ Bf s' (c :: tl) o h := by
 by_cases hs : b = true ∨ tigB y = false
 ·have hno : NoS (parK b (tokE y)) := nos_par (by
   rcases hs with e | e
   ·exact .inl e
   ·exact .inr (nos_expr hy e))
  obtain ⟨m', s', e1, b1, hm1⟩ := rdp_all hE hy b m s c tl o h hs bf hf.n9 hf.par hf.cur h0 ho hbo hh hn hm
  rw [b1.pend hf.dot hf.bra] at e1
  refine ⟨s', ?_, b1⟩
  rw [oper_eq, bf.nosgn (nos_app hno _)]
  unfold bndP at e1 ⊢
  dsimp only at e1 ⊢
  rw [e1]
  rfl
 ·have hb' : b = false := by
   cases b with
   | false => rfl
   | true => exact absurd (.inl rfl) hs
  subst hb'
  have ht : ¬ tigB y = false := fun e => hs (.inr e)
  cases hy with
  | sgn _ k z hd hk hz =>
   have hno : NoS (parK (tigB z) (tokE z)) := nos_par (by
    rcases tig_or z with e | e
    ·exact .inl e
    ·exact .inr (nos_expr hz e))
   obtain ⟨w, l, hw, hw9, _⟩ := nos_app hno (c :: tl)
   obtain ⟨m, rfl⟩ : ∃ j, m = j + 1 := by
    refine ⟨m - 1, ?_⟩
    have h1 := bf.mu
    rw [List.length_append, List.length_cons] at h1
    omega
   -- the sign, and what is behind it
   have go : ∀ (T : List UInt8) (hT : isW (3, T, 0) T = true), Bf s ((3, T, 0) :: (parK (tigB z) (tokE z) ++ c :: tl)) o h → ∃ s', (∃ m', bndP (primP true E (m + 1) (nextP s)) (fun x s1 => pstL E (m + 1) x s1) = pstL E m' z s') ∧ Bf s' (c :: tl) o h ∧ sgnL m (nextP s) = ([], nextP s) := by
    intro T hT b0
    have hmu := b0.mu
    have b0' := b0
    rw [hw] at b0'
    have b1' := b0'.next hw9
    have b1 : Bf (nextP s) (parK (tigB z) (tokE z) ++ c :: tl) o h := by
     rw [hw]
     exact b1'
    have hmu1 := b1.mu
    rw [List.length_cons] at hmu
    obtain ⟨m', s', e1, b2, _⟩ := rdp_all hE hz (tigB z) (m + 1) (nextP s) c tl o h (tig_or z) b1 hf.n9 hf.par hf.cur h0 (by omega) (fun _ => by omega) (headS_kid hh (by simp)) (by omega) (by omega)
    exact ⟨s', ⟨m', e1⟩, b2, b1.nosgn (nos_app hno _) m⟩
   rcases hk with rfl | rfl
   ·have b0 : Bf s ((3, [33], 0) :: (parK (tigB z) (tokE z) ++ c :: tl)) o h := bf
    obtain ⟨s', ⟨m', e1⟩, b2, e2⟩ := go [33] (by decide) b0
    rw [b2.pend hf.dot hf.bra] at e1
    refine ⟨s', ?_, b2⟩
    rw [oper_eq, sgn_eq, b0.is, if_pos (by decide), e2]
    unfold bndP at e1 ⊢
    dsimp only at e1 ⊢
    rw [e1]
    rfl
   ·have b0 : Bf s ((3, [45], 0) :: (parK (tigB z) (tokE z) ++ c :: tl)) o h := bf
    obtain ⟨s', ⟨m', e1⟩, b2, e2⟩ := go [45] (by decide) b0
    rw [b2.pend hf.dot hf.bra] at e1
    refine ⟨s', ?_, b2⟩
    rw [oper_eq, sgn_eq, b0.is, if_neg (by decide), b0.is, if_pos (by decide), e2]
    unfold bndP at e1 ⊢
    dsimp only at e1 ⊢
    rw [e1]
    rfl
  | bin _ t u z _ _ _ _ =>
   rcases hb with hb | hb
   ·cases hb
   ·exact absurd rfl hb
  | _ => exact absurd rfl ht
def CLk (O : EP) (n m k : Nat) : Prop := ∀ (d : Int) (x : ExT), OkE d x → ∀ (b : Bool), (b = true ∨ lowB x (6 - (k : Int)) = false) → ∀ (s : Ps) (c : Wd) (tl : List Wd) (o : Int) (h : Bool), Bf s (parK b (tokE x) ++ c :: tl) o h → Fol k h c →
 0 ≤ o → o ≤ d + 39 → (b = true → o + 1 ≤ d + 39) → (h = true → headS x = true) → mu s ≤ n → mu s ≤ m → ∃ s', climbP O m k s = (x, s') ∧ Bf s' (c :: tl) o h
theorem rank_ne {t : List UInt8} (h : 0 < rankS t) {T : List UInt8} (hT : rankS T = 0) : isW (3, t, 0) T = false := by
 unfold isW
 rw [decide_eq_false (show ¬ ((3, t, 0) : Wd).2.1 = T from fun e => by
  have e : t = T := e
  rw [e, hT] at h
  omega), Bool.and_false]
theorem fol_op {t : List UInt8} (h : 0 < rankS t) {k : Nat} (hk : rankS t < 6 - (k : Int)) (hd : Bool) : Fol k hd (3, t, 0) :=
 ⟨show ¬ (3 : Nat) = 9 by decide, rank_ne h (by decide), rank_ne h (by decide), rank_ne h (by decide), fun _ => rank_ne h (by decide), fun _ => hk⟩
theorem low_or (y : ExT) (r : Int) : lowB y r = true ∨ lowB y r = false := by cases lowB y r <;> simp
theorem climb_low {k : Nat} (hk : k ≤ 4) {O : EP} {m : Nat} (ih : CLk O n m k) : ∀ (d : Int) (x : ExT), OkE d x → ∀ (b : Bool), (b = true ∨ lowB x (5 - (k : Int)) = false) → ∀ (s : Ps) (c : Wd) (tl : List Wd) (o : Int) (h : Bool), Bf s (parK b (tokE x) ++ c :: tl) o h → Fol k h c →
 0 ≤ o → o ≤ d + 39 → (b = true → o + 1 ≤ d + 39) → (h = true → headS x = true) → mu s ≤ n → mu s ≤ m → ∃ m' s', bndP (climbP O m k s) (fun x s1 => rankL (climbP O m k) (5 - (k : Int)) m x s1) = rankL (climbP O m k) (5 - (k : Int)) m' x s' ∧ Bf s' (c :: tl) o h ∧ mu s' ≤ m' := by
 intro d x hx
 -- what is read at once
 have once : ∀ (d : Int) (x : ExT), OkE d x → ∀ (b : Bool), (b = true ∨ lowB x (6 - (k : Int)) = false) → ∀ (s : Ps) (c : Wd) (tl : List Wd) (o : Int) (h : Bool), Bf s (parK b (tokE x) ++ c :: tl) o h → Fol k h c →
  0 ≤ o → o ≤ d + 39 → (b = true → o + 1 ≤ d + 39) → (h = true → headS x = true) → mu s ≤ n → mu s ≤ m → ∃ m' s', bndP (climbP O m k s) (fun x s1 => rankL (climbP O m k) (5 - (k : Int)) m x s1) = rankL (climbP O m k) (5 - (k : Int)) m' x s' ∧ Bf s' (c :: tl) o h ∧ mu s' ≤ m' := by
  intro d x hx b hb s c tl o h bf hf h0 ho hbo hh hn hm
  obtain ⟨s', e, b'⟩ := ih d x hx b hb s c tl o h bf hf h0 ho hbo hh hn hm
  refine ⟨m, s', by rw [e]; rfl, b', ?_⟩
  have h1 := bf.mu
  have h2 := b'.mu
  rw [List.length_append] at h1
  omega
 induction hx with
 | bin d t y z hd ht hy hz ihy ihz =>
  intro b hb s c tl o h bf hf h0 ho hbo hh hn hm
  by_cases hs : b = true ∨ lowB (.mk 6 t 0 noT [] [y, z]) (6 - (k : Int)) = false
  ·exact once d _ (.bin d t y z hd ht hy hz) b hs s c tl o h bf hf h0 ho hbo hh hn hm
  have hb' : b = false := by
   cases b with
   | false => rfl
   | true => exact absurd (.inl rfl) hs
  subst hb'
  have hr : rankS t = 5 - (k : Int) := by
   have h1 : ¬ lowB (.mk 6 t 0 noT [] [y, z]) (6 - (k : Int)) = false := fun e => hs (.inr e)
   have h2 : lowB (.mk 6 t 0 noT [] [y, z]) (5 - (k : Int)) = false := by
    rcases hb with hb | hb
    ·cases hb
    ·exact hb
   have h3 : rankS t < 6 - (k : Int) := by
    by_cases e : rankS t < 6 - (k : Int)
    ·exact e
    ·exact absurd (show (decide ((6 : Int) = 6) && decide (rankS t < 6 - (k : Int))) = false by rw [decide_eq_false e, Bool.and_false]) h1
   have h4 : ¬ rankS t < 5 - (k : Int) := fun e => by
    have : (decide ((6 : Int) = 6) && decide (rankS t < 5 - (k : Int))) = false := h2
    rw [decide_eq_true e] at this
    exact absurd this (by decide)
   omega
  have b0 : Bf s (parK (lowB y (rankS t)) (tokE y) ++ (3, t, 0) :: (parK (lowB z (rankS t + 1)) (tokE z) ++ c :: tl)) o h := by
   have e : parK false (tokE (.mk 6 t 0 noT [] [y, z])) ++ c :: tl = parK (lowB y (rankS t)) (tokE y) ++ (3, t, 0) :: (parK (lowB z (rankS t + 1)) (tokE z) ++ c :: tl) := by
    show (parK (lowB y (rankS t)) (tokE y) ++ [(3, t, 0)] ++ parK (lowB z (rankS t + 1)) (tokE z)) ++ c :: tl = _
    simp
   rw [← e]
   exact bf
  have hmu := b0.mu
  obtain ⟨m', s', e1, b1, hm1⟩ := ihy (lowB y (rankS t)) (by rw [← hr]; exact low_or _ _) s _ _ o h b0 (fol_op ht (by omega) h) h0 (by omega) (fun _ => by omega) (headS_kid hh (by simp)) hn hm
  have hmu1 := b1.mu
  simp only [List.length_cons, List.length_append] at hmu hmu1
  obtain ⟨q, rfl⟩ : ∃ q, m' = q + 1 := ⟨m' - 1, by omega⟩
  obtain ⟨w, l, hw, hwf⟩ := fst_app (fst_par (b := lowB z (rankS t + 1)) (fst_expr hz)) (c :: tl)
  have b1' := b1
  rw [hw] at b1'
  have b2' := b1'.next hwf.n9
  have b2 : Bf (nextP s') (parK (lowB z (rankS t + 1)) (tokE z) ++ c :: tl) o h := by
   rw [hw]
   exact b2'
  have hmu2 := b2.mu
  simp only [List.length_cons, List.length_append] at hmu2
  obtain ⟨s3, e3, b3⟩ := ih (d + 1) z hz (lowB z (rankS t + 1)) (by rw [hr, show (5 - (k : Int)) + 1 = 6 - (k : Int) by omega]; exact low_or _ _) (nextP s') c tl o h b2 hf h0 (by omega) (fun _ => by omega) (headS_kid hh (by simp)) (by omega) (by omega)
  have hmu3 := b3.mu
  simp only [List.length_cons] at hmu3
  refine ⟨q, s3, ?_, b3, by omega⟩
  rw [e1, rank_eq, if_pos ⟨b1.at'.e, b1.at'.kind.1, by rw [b1.at'.kind.2]; exact hr⟩, e3, b1.at'.kind.2]
  rfl
 | nam d t hd h => exact fun b _ => once d _ (.nam d t hd h) b (.inr rfl)
 | num d i hd h0 h => exact fun b _ => once d _ (.num d i hd h0 h) b (.inr rfl)
 | tru d i hd h0 h1 => exact fun b _ => once d _ (.tru d i hd h0 h1) b (.inr rfl)
 | sgn d k' y hd hk' hy ihy =>
  refine fun b _ => once d _ (.sgn d k' y hd hk' hy) b (.inr ?_)
  rcases hk' with rfl | rfl <;> rfl
 | cal d t ks hd h hks _ => exact fun b _ => once d _ (.cal d t ks hd h hks) b (.inr rfl)
 | con d k' y hd h1 h2 hy _ => exact fun b _ => once d _ (.con d k' y hd h1 h2 hy) b (.inr rfl)
 | fld d t y hd h hy _ => exact fun b _ => once d _ (.fld d t y hd h hy) b (.inr rfl)
 | idx d y z hd hy hz _ _ => exact fun b _ => once d _ (.idx d y z hd hy hz) b (.inr rfl)
 | cut d y z u hd hy hz hu _ _ _ => exact fun b _ => once d _ (.cut d y z u hd hy hz hu) b (.inr rfl)
 | len d y hd hy _ => exact fun b _ => once d _ (.len d y hd hy) b (.inr rfl)
 | app d y z hd hy hz _ _ => exact fun b _ => once d _ (.app d y z hd hy hz) b (.inr rfl)
 | str d q ns ks hd h hl hns hks _ => exact fun b _ => once d _ (.str d q ns ks hd h hl hns hks) b (.inr rfl)
 | lis d t ks hd h hks _ => exact fun b _ => once d _ (.lis d t ks hd h hks) b (.inr rfl)
theorem Bf.rend {k : Nat} {O : EP} (b : Bf s (c :: tl) o h) (hf : Fol (k + 1) h c) (m : Nat) (x : ExT) : rankL O (5 - (k : Int)) m x s = (x, s) := by
 cases m with
 | zero => rfl
 | succ m =>
  rw [rank_eq, if_neg]
  rintro ⟨_, h1, h2⟩
  rw [b.at'.kind.1] at h1
  rw [b.at'.kind.2] at h2
  have := hf.rk h1
  omega
theorem climb_all (hE : RdE E n) (m : Nat) : ∀ k : Nat, k ≤ 5 → CLk (operP true E m) n m k
 | 0, _ => fun d x hx b hb s c tl o h bf hf h0 ho hbo hh hn hm => read_oper hE hx b (by
  rcases hb with hb | hb
  ·exact .inl hb
  ·refine .inr fun e => ?_
   unfold lowB at hb
   rw [decide_eq_true e, Bool.true_and] at hb
   have h6 : ∀ t : List UInt8, rankS t < 6 := fun t => by
    rcases rank_in t with ⟨y, hy, rfl⟩ | hno
    ·revert y
     decide
    ·unfold rankS
     rw [List.find?_eq_none.2 (fun y hy => by rw [beq_eq_false_iff_ne.2 (fun e2 => by have := hno y hy; rw [← e2] at this; simp at this)]; simp)]
     decide
   exact of_decide_eq_false hb (h6 _)) m bf hf h0 ho hbo hh hn hm
 | k + 1, hk => fun d x hx b hb s c tl o h bf hf h0 ho hbo hh hn hm => by
  have ih := climb_all hE m k (by omega)
  obtain ⟨m', s', e, b', _⟩ := climb_low (by omega) ih d x hx b (by rw [show (6 : Int) - ((k + 1 : Nat) : Int) = 5 - (k : Int) by omega] at hb; exact hb) s c tl o h bf hf.down h0 ho hbo hh hn hm
  refine ⟨s', ?_, b'⟩
  have he : s.e = 0 := bf.at'.e
  rw [climb_eq, if_neg (by rw [he]; simp), e, b'.rend hf]
theorem pe_expr : ∀ n : Nat, RdE (exprF true n) n
 | 0 => fun _ _ _ _ _ _ _ _ _ _ _ _ _ h => absurd h (Nat.not_lt_zero _)
 | n + 1 => fun d x hx s c tl o h bf hf h0 ho hh hn => by
  have hl : lowB x (6 - ((5 : Nat) : Int)) = false := by
   cases hx with
   | bin _ t y z _ ht _ _ =>
    show (decide ((6 : Int) = 6) && decide (rankS t < 6 - ((5 : Nat) : Int))) = false
    rw [decide_eq_false (show ¬ rankS t < 6 - ((5 : Nat) : Int) by omega), Bool.and_false]
   | sgn _ k y _ hk _ => rcases hk with rfl | rfl <;> rfl
   | _ => rfl
  exact climb_all (pe_expr n) (n + 1) 5 (Nat.le_refl _) d x hx false (.inr hl) s c tl o h bf hf h0 ho (fun e => by cases e) hh (by omega) (by omega)
end
inductive OkS : Int → StT → Prop
 | var (d : Int) (n : List UInt8) (t : TyT) : d ≤ 60 → identS n = true → OkT t → OkS d (.mk 1 [n] t [] [] [] [] [])
 | set (d : Int) (ls es : List ExT) : d ≤ 60 → ls ≠ [] → es ≠ [] → (∀ x ∈ ls, placeS x = true) → (∀ x ∈ ls, OkE (d + 1) x) → (∀ x ∈ es, OkE (d + 1) x) → OkS d (.mk 2 [] noT ls es [] [] [])
 | iff (d : Int) (x : ExT) (b e : List StT) : d ≤ 60 → OkE (d + 1) x → headS x = true → (∀ y ∈ b, OkS (d + 1) y) → (∀ y ∈ e, OkS (d + 1) y) → OkS d (.mk 3 [] noT [] [x] b e [])
 | fro (d : Int) (x : ExT) (b : List StT) : d ≤ 60 → OkE (d + 1) x → headS x = true → (∀ y ∈ b, OkS (d + 1) y) → OkS d (.mk 4 [] noT [] [x] b [] [])
 | swi (d : Int) (x : ExT) (e : List StT) (cs : List CaT) : d ≤ 60 → OkE (d + 1) x → headS x = true → (∀ y ∈ e, OkS (d + 1) y) → (∀ c ∈ cs, 0 ≤ c.int ∧ c.int ≤ 18446744073709551615) → (∀ c ∈ cs, ∀ y ∈ c.body, OkS (d + 2) y) → OkS d (.mk 5 [] noT [] [x] [] e cs)
 | ret (d : Int) (es : List ExT) : d ≤ 60 → es ≠ [] → (∀ x ∈ es, OkE (d + 1) x) → OkS d (.mk 6 [] noT [] es [] [] [])
mutual
def tokS : StT → List Wd
 | .mk k ns ty ls es b e cs =>
  if k = 1 then (4, [118, 97, 114], 0) :: (1, ns.getD 0 [], 0) :: tokT ty
  else if k = 2 then comK false (tokEs ls) ++ (3, [61], 0) :: comK false (tokEs es)
  else if k = 6 then (4, [114, 101, 116, 117, 114, 110], 0) :: comK false (tokEs es)
  else if k = 3 then (4, [105, 102], 0) :: (tokE (kidE es 0) ++ (3, [123], 0) :: (tokSs b ++ (3, [125], 0) :: (if e.isEmpty = true then [] else (4, [101, 108, 115, 101], 0) :: (3, [123], 0) :: (tokSs e ++ [(3, [125], 0)]))))
  else if k = 4 then (4, [102, 111, 114], 0) :: (tokE (kidE es 0) ++ (3, [123], 0) :: (tokSs b ++ [(3, [125], 0)]))
  else (4, [115, 119, 105, 116, 99, 104], 0) :: (tokE (kidE es 0) ++ (3, [123], 0) :: (tokCs cs ++ ((if e.isEmpty = true then [] else (4, [100, 101, 102, 97, 117, 108, 116], 0) :: (3, [58], 0) :: tokSs e) ++ [(3, [125], 0)])))
def tokSs : List StT → List Wd
 | [] => []
 | s :: l => tokS s ++ tokSs l
def tokCs : List CaT → List Wd
 | [] => []
 | .mk i b :: l => (4, [99, 97, 115, 101], 0) :: (2, digF 24 i.toNat, i.toNat) :: (3, [58], 0) :: (tokSs b ++ tokCs l)
end
structure FolS (c : Wd) : Prop where
 f : Fol 5 false c
 com : isW c [44] = false
 els : isW c [101, 108, 115, 101] = false
structure FstS (w : Wd) : Prop where
 f : FolS w
 c1 : isW w [125] = false
 c2 : isW w [99, 97, 115, 101] = false
 c3 : isW w [100, 101, 102, 97, 117, 108, 116] = false
theorem fst_key {t : List UInt8} (h : t ∈ [([118, 97, 114] : List UInt8), [114, 101, 116, 117, 114, 110], [105, 102], [102, 111, 114], [115, 119, 105, 116, 99, 104]]) : FstS (4, t, 0) := by
 have h4 : ¬ (4 : Nat) = 9 ∧ ¬ (4 : Nat) = 3 := by decide
 simp only [List.mem_cons, List.not_mem_nil, or_false] at h
 rcases h with rfl | rfl | rfl | rfl | rfl
 all_goals exact ⟨⟨⟨by decide, by decide, by decide, by decide, fun _ => by decide, fun h3 => absurd h3 h4.2⟩, by decide, by decide⟩, by decide, by decide, by decide⟩
theorem fst_nameS (t : List UInt8) : FstS (1, t, 0) := ⟨⟨⟨show ¬ (1 : Nat) = 9 by decide, rfl, rfl, rfl, fun _ => rfl, fun h3 => absurd h3 (show ¬ (1 : Nat) = 3 by decide)⟩, rfl, rfl⟩, rfl, rfl, rfl⟩
theorem fol_end {c : Wd} (h : c = (3, [125], 0) ∨ c = (4, [99, 97, 115, 101], 0) ∨ c = (4, [100, 101, 102, 97, 117, 108, 116], 0)) : FolS c := by
 have h4 : ¬ (4 : Nat) = 3 := by decide
 rcases h with rfl | rfl | rfl
 ·exact ⟨fol_close (by simp) 5 (by omega) _, by decide, by decide⟩
 ·exact ⟨⟨by decide, by decide, by decide, by decide, fun _ => by decide, fun h3 => absurd h3 h4⟩, by decide, by decide⟩
 ·exact ⟨⟨by decide, by decide, by decide, by decide, fun _ => by decide, fun h3 => absurd h3 h4⟩, by decide, by decide⟩
theorem place_first {d : Int} {x : ExT} (hx : OkE d x) : placeS x = true → ∃ t l, tokE x = (1, t, 0) :: l := by
 induction hx with
 | nam d t _ _ => exact fun _ => ⟨t, [], rfl⟩
 | fld d t y _ _ hy ih =>
  intro h
  obtain ⟨t', l, e⟩ := ih h
  have ht : tigB y = false := by
   cases hy with
   | sgn _ k z _ hk _ => rcases hk with rfl | rfl <;> exact absurd h (by simp [placeS])
   | bin => exact absurd h (by simp [placeS])
   | _ => rfl
  refine ⟨t', l ++ ([(3, [46], 0)] ++ [(1, t, 0)]), ?_⟩
  show parK (tigB y) (tokE y) ++ ([(3, [46], 0)] ++ [(1, t, 0)]) = _
  rw [ht, e]
  rfl
 | sgn d k y _ hk _ _ => rcases hk with rfl | rfl <;> exact fun h => absurd h (by simp [placeS])
 | cal d t ks _ _ _ _ =>
  intro h
  unfold placeS at h
  split at h <;> simp at h
 | str d q ns ks _ _ _ _ _ _ =>
  intro h
  unfold placeS at h
  split at h <;> simp at h
 | lis d t ks _ _ _ _ =>
  intro h
  unfold placeS at h
  split at h <;> simp at h
 | _ => exact fun h => absurd h (by simp [placeS])
theorem tokS_set (ls es : List ExT) : tokS (.mk 2 [] noT ls es [] [] []) = comK false (tokEs ls) ++ (3, [61], 0) :: comK false (tokEs es) := rfl
theorem fst_stmt {d : Int} {x : StT} (hx : OkS d x) : ∃ w l, tokS x = w :: l ∧ FstS w := by
 cases hx with
 | var _ n t _ _ _ => exact ⟨_, _, rfl, fst_key (by simp)⟩
 | set _ ls es _ hl _ hp ho _ =>
  cases ls with
  | nil => exact absurd rfl hl
  | cons x ls =>
   obtain ⟨t, l, e⟩ := place_first (ho x List.mem_cons_self) (hp x List.mem_cons_self)
   refine ⟨(1, t, 0), l ++ comK true (tokEs ls) ++ (3, [61], 0) :: comK false (tokEs es), ?_, fst_nameS t⟩
   rw [tokS_set, tokEs_cons, comK_cons, if_neg (by decide), List.nil_append, e]
   rfl
 | iff _ x b e _ _ _ _ _ => exact ⟨_, _, rfl, fst_key (by simp)⟩
 | fro _ x b _ _ _ _ => exact ⟨_, _, rfl, fst_key (by simp)⟩
 | swi _ x e cs _ _ _ _ _ _ => exact ⟨_, _, rfl, fst_key (by simp)⟩
 | ret _ es _ _ _ => exact ⟨_, _, rfl, fst_key (by simp)⟩
section
variable {E : EP} {n : Nat}
theorem vals_eq (E : EP) (m : Nat) (s : Ps) : valsP E (m + 1) s = bndP (E s) fun x s1 => bndP (gotP s1 [44]) fun b s2 => if b = true then bndP (valsP E m s2) fun l s3 => (x :: l, s3) else ([x], s2) := by
 conv => lhs; unfold valsP
 unfold Proofs.YtfaoamebphckbaaGreatDoor.bndP
 rcases E s with ⟨x, s1⟩
 dsimp only
 rcases gotP s1 [44] with ⟨_ | _, s2⟩ <;> rfl
theorem read_vals (hE : RdE E n) (d : Int) : ∀ (ks : List ExT), ks ≠ [] → (∀ x ∈ ks, OkE d x) → ∀ (m : Nat) (s : Ps) (c : Wd) (tl : List Wd) (o : Int), Bf s (comK false (tokEs ks) ++ c :: tl) o false → FolS c → 0 ≤ o → o ≤ d + 39 → mu s < n → mu s ≤ m → ∃ s', valsP E m s = (ks, s') ∧ Bf s' (c :: tl) o false
 | [], hne, _, _, _, _, _, _, _, _, _, _, _, _ => absurd rfl hne
 | x :: ks, _, hks, m, s, c, tl, o, b, hc, h0, ho, hn, hm => by
  have hx := hks x List.mem_cons_self
  have hb : comK false (tokEs (x :: ks)) ++ c :: tl = tokE x ++ (comK true (tokEs ks) ++ c :: tl) := by
   rw [tokEs_cons, comK_cons, if_neg (by decide), List.nil_append, List.append_assoc]
  rw [hb] at b
  have hmu := b.mu
  simp only [List.length_append, List.length_cons] at hmu
  obtain ⟨m, rfl⟩ : ∃ j, m = j + 1 := ⟨m - 1, by omega⟩
  rw [vals_eq]
  cases ks with
  | nil =>
   have b : Bf s (tokE x ++ c :: tl) o false := b
   obtain ⟨s1, e1, b1⟩ := hE d x hx s c tl o false b hc.f h0 ho (fun e => by cases e) hn
   refine ⟨s1, ?_, b1⟩
   unfold bndP
   rw [e1]
   dsimp only
   rw [b1.no hc.com]
   rfl
  | cons y ks =>
   have e : comK true (tokEs (y :: ks)) ++ c :: tl = (3, [44], 0) :: (comK false (tokEs (y :: ks)) ++ c :: tl) := by
    rw [tokEs_cons, comK_cons, comK_cons, if_pos rfl, if_neg (by decide)]
    rfl
   rw [e] at b
   have hmu1 := b.mu
   simp only [List.length_append, List.length_cons] at hmu1
   obtain ⟨s1, e1, b1⟩ := hE d x hx s _ _ o false b (fol_close (by simp) 5 (by omega) false) h0 ho (fun e => by cases e) hn
   obtain ⟨w2, l2, hw2, hf2⟩ := fst_expr (hks y (by simp))
   have hc2 : comK false (tokEs (y :: ks)) ++ c :: tl = w2 :: (l2 ++ (comK true (tokEs ks) ++ c :: tl)) := by
    rw [tokEs_cons, comK_cons, if_neg (by decide), List.nil_append, List.append_assoc, hw2]
    rfl
   rw [hc2] at b1
   obtain ⟨s2, g2, _, b2⟩ := b1.yes hf2.n9 (T := [44]) (by decide) (bump_not (by decide) (by decide) o)
   rw [← hc2] at b2
   have hmu2 := b2.mu
   simp only [List.length_append, List.length_cons] at hmu2
   obtain ⟨s3, e3, b3⟩ := read_vals hE d (y :: ks) (by simp) (fun z hz => hks z (List.mem_cons_of_mem _ hz)) m s2 c tl o b2 hc h0 ho (by omega) (by omega)
   refine ⟨s3, ?_, b3⟩
   unfold bndP
   rw [e1]
   dsimp only
   rw [g2]
   dsimp only
   rw [if_pos rfl, e3]
theorem dot_eq (m : Nat) (x : ExT) (s : Ps) : dotL (m + 1) x s = bndP (gotP s [46]) fun b s1 => if b = true then bndP (nameP s1) fun t s2 => dotL m (.mk 9 t 0 noT [] [x]) s2 else (x, s1) := by
 conv => lhs; unfold dotL
 unfold Proofs.YtfaoamebphckbaaGreatDoor.bndP
 rcases gotP s [46] with ⟨_ | _, s2⟩ <;> rfl
theorem read_place {d : Int} {x : ExT} (hx : OkE d x) : placeS x = true → ∀ (m : Nat) (s : Ps) (c : Wd) (tl : List Wd) (o : Int), Bf s (tokE x ++ c :: tl) o false → c.1 ≠ 9 → mu s ≤ m → ∃ m' s', bndP (nameP s) (fun t s1 => dotL m (.mk 1 t 0 noT [] []) s1) = dotL m' x s' ∧ Bf s' (c :: tl) o false ∧ mu s' ≤ m' := by
 induction hx with
 | nam d t _ _ =>
  intro _ m s c tl o b hc hm
  have b : Bf s ((1, t, 0) :: c :: tl) o false := b
  obtain ⟨s1, e1, b1⟩ := b.name hc
  refine ⟨m, s1, by rw [e1]; rfl, b1, ?_⟩
  have h1 := b.mu
  have h2 := b1.mu
  simp only [List.length_cons] at h1 h2
  omega
 | fld d t y _ _ hy ih =>
  intro h m s c tl o b hc hm
  have ht : tigB y = false := by
   cases hy with
   | sgn _ k z _ hk _ => rcases hk with rfl | rfl <;> exact absurd h (by simp [placeS])
   | bin => exact absurd h (by simp [placeS])
   | _ => rfl
  have b0 : Bf s (tokE y ++ (3, [46], 0) :: (1, t, 0) :: c :: tl) o false := by
   have e : tokE (.mk 9 t 0 noT [] [y]) ++ c :: tl = tokE y ++ (3, [46], 0) :: (1, t, 0) :: c :: tl := by
    show (parK (tigB y) (tokE y) ++ ([(3, [46], 0)] ++ [(1, t, 0)])) ++ c :: tl = _
    rw [ht, par_false]
    simp
   rw [← e]
   exact b
  obtain ⟨m', s', e1, b1, hm1⟩ := ih h m s _ _ o b0 (show ¬ (3 : Nat) = 9 by decide) hm
  have hmu1 := b1.mu
  simp only [List.length_cons] at hmu1
  obtain ⟨k, rfl⟩ : ∃ k, m' = k + 1 := ⟨m' - 1, by omega⟩
  obtain ⟨s2, e2, _, b2⟩ := b1.yes (show ¬ (1 : Nat) = 9 by decide) (T := [46]) (by decide) (bump_not (by decide) (by decide) _)
  obtain ⟨s3, e3, b3⟩ := b2.name hc
  have hmu3 := b3.mu
  simp only [List.length_cons] at hmu3
  refine ⟨k, s3, ?_, b3, by omega⟩
  rw [e1, dot_eq]
  unfold bndP
  rw [e2]
  dsimp only
  rw [if_pos rfl, e3]
 | sgn d k y _ hk _ _ => rcases hk with rfl | rfl <;> exact fun h => absurd h (by simp [placeS])
 | cal d t ks _ _ _ _ =>
  intro h
  unfold placeS at h
  split at h <;> simp at h
 | str d q ns ks _ _ _ _ _ _ =>
  intro h
  unfold placeS at h
  split at h <;> simp at h
 | lis d t ks _ _ _ _ =>
  intro h
  unfold placeS at h
  split at h <;> simp at h
 | _ => exact fun h => absurd h (by simp [placeS])
theorem left_eq (m k : Nat) (s : Ps) : leftL m (k + 1) s = bndP (bndP (nameP s) fun t s1 => dotL m (.mk 1 t 0 noT [] []) s1) fun x s2 => bndP (gotP s2 [44]) fun b s3 => if b = true then bndP (leftL m k s3) fun l s4 => (x :: l, s4) else ([x], s3) := by
 conv => lhs; unfold leftL
 unfold Proofs.YtfaoamebphckbaaGreatDoor.bndP
 rcases nameP s with ⟨t, s1⟩
 dsimp only
 rcases dotL m (.mk 1 t 0 noT [] []) s1 with ⟨x, s2⟩
 dsimp only
 rcases gotP s2 [44] with ⟨_ | _, s3⟩ <;> rfl
theorem Bf.dend {s : Ps} {c : Wd} {tl : List Wd} {o : Int} {h : Bool} (b : Bf s (c :: tl) o h) (h1 : isW c [46] = false) (m : Nat) (y : ExT) : dotL m y s = (y, s) := by
 cases m with
 | zero => rfl
 | succ m =>
  rw [dot_eq]
  unfold bndP
  rw [b.no h1]
  rfl
theorem read_left (d : Int) (m : Nat) : ∀ (ks : List ExT), ks ≠ [] → (∀ x ∈ ks, OkE d x) → (∀ x ∈ ks, placeS x = true) → ∀ (k : Nat) (s : Ps) (tl : List Wd) (o : Int), Bf s (comK false (tokEs ks) ++ (3, [61], 0) :: tl) o false → mu s ≤ m → mu s ≤ k → ∃ s', leftL m k s = (ks, s') ∧ Bf s' ((3, [61], 0) :: tl) o false
 | [], hne, _, _, _, _, _, _, _, _, _ => absurd rfl hne
 | x :: ks, _, hks, hp, k, s, tl, o, b, hm, hk => by
  have hx := hks x List.mem_cons_self
  have hb : comK false (tokEs (x :: ks)) ++ (3, [61], 0) :: tl = tokE x ++ (comK true (tokEs ks) ++ (3, [61], 0) :: tl) := by
   rw [tokEs_cons, comK_cons, if_neg (by decide), List.nil_append, List.append_assoc]
  rw [hb] at b
  have hmu := b.mu
  simp only [List.length_append, List.length_cons] at hmu
  obtain ⟨k, rfl⟩ : ∃ j, k = j + 1 := ⟨k - 1, by omega⟩
  rw [left_eq]
  cases ks with
  | nil =>
   have b : Bf s (tokE x ++ (3, [61], 0) :: tl) o false := b
   obtain ⟨m', s1, e1, b1, _⟩ := read_place hx (hp x List.mem_cons_self) m s _ tl o b (show ¬ (3 : Nat) = 9 by decide) hm
   rw [b1.dend (by decide)] at e1
   refine ⟨s1, ?_, b1⟩
   rw [e1]
   unfold bndP
   dsimp only
   rw [b1.no (T := [44]) (by decide)]
   rfl
  | cons y ks =>
   have e : comK true (tokEs (y :: ks)) ++ (3, [61], 0) :: tl = (3, [44], 0) :: (comK false (tokEs (y :: ks)) ++ (3, [61], 0) :: tl) := by
    rw [tokEs_cons, comK_cons, comK_cons, if_pos rfl, if_neg (by decide)]
    rfl
   rw [e] at b
   have hmu1 := b.mu
   simp only [List.length_append, List.length_cons] at hmu1
   obtain ⟨m', s1, e1, b1, _⟩ := read_place hx (hp x List.mem_cons_self) m s _ _ o b (show ¬ (3 : Nat) = 9 by decide) hm
   rw [b1.dend (by decide)] at e1
   obtain ⟨w2, l2, hw2, hf2⟩ := fst_expr (hks y (by simp))
   have hc2 : comK false (tokEs (y :: ks)) ++ (3, [61], 0) :: tl = w2 :: (l2 ++ (comK true (tokEs ks) ++ (3, [61], 0) :: tl)) := by
    rw [tokEs_cons, comK_cons, if_neg (by decide), List.nil_append, List.append_assoc, hw2]
    rfl
   rw [hc2] at b1
   obtain ⟨s2, g2, _, b2⟩ := b1.yes hf2.n9 (T := [44]) (by decide) (bump_not (by decide) (by decide) o)
   rw [← hc2] at b2
   have hmu2 := b2.mu
   simp only [List.length_append, List.length_cons] at hmu2
   obtain ⟨s3, e3, b3⟩ := read_left d m (y :: ks) (by simp) (fun z hz => hks z (List.mem_cons_of_mem _ hz)) (fun z hz => hp z (List.mem_cons_of_mem _ hz)) k s2 tl o b2 (by omega) (by omega)
   refine ⟨s3, ?_, b3⟩
   rw [e1]
   unfold bndP
   dsimp only
   rw [g2]
   dsimp only
   rw [if_pos rfl, e3]
end
end Go.Proofs.YtfaoamebphckbaaGreatDoor
namespace Go.Proofs.YtfaoamebphckbaaGreatDoor
open Go.RowKit Go.Av Go.Ab
set_option linter.unusedSimpArgs false
set_option linter.unusedVariables false
set_option maxRecDepth 100000
set_option linter.defProp false
def c115 := by
 have c := KK_of Tryz.f115 (by conv => lhs; cbv)
 dsimp only [KK, KxP, doO, opO, List.map_cons, List.map_nil, List.toList_toArray] at c
 exact c
theorem b115 : FnIs Tryz.prog 115 Tryz.f115 15 := ⟨Tryz.func115, by kernel_rfl⟩
def c53 := by
 have c := KK_of Tryz.f53 (by conv => lhs; cbv)
 dsimp only [KK, KxP, doO, opO, List.map_cons, List.map_nil, List.toList_toArray] at c
 exact c
theorem b53 : FnIs Tryz.prog 53 Tryz.f53 30 := ⟨Tryz.func53, by kernel_rfl⟩
def c116 := by
 have c := KK_of Tryz.f116 (by conv => lhs; cbv)
 dsimp only [KK, KxP, doO, opO, List.map_cons, List.map_nil, List.toList_toArray] at c
 exact c
theorem b116 : FnIs Tryz.prog 116 Tryz.f116 19 := ⟨Tryz.func116, by kernel_rfl⟩
def PK (ok : Nat → Prop) (f : FuncId) (ar : List V) (u : Nat → List UInt8) : Prop := ∀ (i t : Nat) (s : List UInt8) (k : Nat) (B : List (List V)) (T : List (Nat × Nat)), i < B.length → t < T.length → ok k → s.length + (u k).length ≤ mostW →
 AFn Tryz.prog TabI f (.ptr i 0 :: ar) ⟨B.set i (bxW i t s k), T.set t (s.length, 1)⟩ (Same (.tup []) ⟨B.set i (bxW i t (s ++ u k) k), T.set t ((s ++ u k).length, 1)⟩)
section
variable {ok : Nat → Prop} {f : FuncId} {ar : List V} {u : Nat → List UInt8} {i t k : Nat} {s : List UInt8} {B J : List (List V)} {T : List (Nat × Nat)} {stop : Cont} {q : List Item} {d : Option Tmp} {env : List V}
theorem PK.callJ (h : PK ok f ar u) (hi : i < B.length) (ht : t < T.length) (hk : ok k) (hb : s.length + (u k).length ≤ mostW) (hc : ∀ s', s ++ u k = s' → stop q (setV env d (.tup [])) ⟨B.set i (bxW i t s' k) ++ J, T.set t (s'.length, 1)⟩) :
 callS Tryz.prog TabI stop (.func f [] []) (.ptr i 0 :: ar) q d env ⟨B.set i (bxW i t s k) ++ J, T.set t (s.length, 1)⟩ := by
 have h' := h i t s k (B ++ J) T (by simp; omega) ht hk hb
 rw [List.set_append_left _ _ hi, List.set_append_left _ _ hi] at h'
 exact callS_fn h' fun _ _ ⟨e1, e2⟩ => by rw [e1, e2]; exact hc _ rfl
theorem PK.call0 (h : PK ok f ar u) (hi : i < B.length) (ht : t < T.length) (hk : ok k) (hb : s.length + (u k).length ≤ mostW) (hc : ∀ s', s ++ u k = s' → stop q (setV env d (.tup [])) ⟨B.set i (bxW i t s' k), T.set t (s'.length, 1)⟩) :
 callS Tryz.prog TabI stop (.func f [] []) (.ptr i 0 :: ar) q d env ⟨B.set i (bxW i t s k), T.set t (s.length, 1)⟩ :=
 callS_fn (h i t s k B T hi ht hk hb) fun _ _ ⟨e1, e2⟩ => by rw [e1, e2]; exact hc _ rfl
end
theorem PK.mono {ok ok' : Nat → Prop} {f : FuncId} {ar : List V} {u : Nat → List UInt8} (h : PK ok f ar u) (hk : ∀ k, ok' k → ok k) : PK ok' f ar u := fun i t s k B T a b c e => h i t s k B T a b (hk k c) e
theorem fitsJ {i t k : Nat} {s s' : List UInt8} {B A : List (List V)} {T : List (Nat × Nat)} {a b : Nat × Nat} (hi : i < B.length) (ht : t < T.length) (hf : Fits ⟨B.set i (bxW i t s k) ++ A, T.set t a⟩) : Fits ⟨B.set i (bxW i t s' k) ++ A, T.set t b⟩ := by
 rw [← List.set_append_left _ _ hi] at hf ⊢
 exact fitsW (B := B ++ A) (L := B ++ A) rfl rfl rfl (by simp; omega) ht hf (.refl _ _ _)
theorem line_pw (l : List (List UInt8)) (hl : l.length ≤ 10) : PW 115 [.sl (ssD l) .full] fun k => tabT k ++ l.flatten := by
 intro i t s k B T hin htm hk hb
 obtain ⟨a, ha⟩ : ∃ a, s ++ (tabT k ++ l.flatten) = a := ⟨_, rfl⟩
 dsimp only at hb ⊢
 rw [ha]
 simp only [lnw] at hb
 have hrep := fun S => repeat_ab 9 k (by omega) S
 rw [show List.replicate k 9 = tabT k from rfl] at hrep
 have hrd : bxW i t s k = [.self i 54, .buf (s.map byteRow) t 5, .d (.int .i64 (k : Int))] := rfl
 refine b115.go 40 rfl fun hsm => ?_
 simp only [smw] at hsm
 simp only [W, seval, c115, hin, htm, hrd]
 rw [← hrd]
 refine callS_fn (hrep _) ?_
 rintro _ _ ⟨rfl, rfl⟩
 refine ARun.go 20 ?_
 simp only [W, seval, c115, hin, htm, mapD_nil, mapD_cons]
 refine (put1 (tabT k)).call0 hin htm hk ?_ fun s1 h_s1 => ?_
 ·try simp only [lnw]
  omega
 have hl_s1 := congrArg List.length h_s1
 simp only [lnw] at hl_s1
 refine ARun.go 20 ?_
 simp only [W, seval, c115]
 refine (put_pw l hl).call0 hin htm hk ?_ fun s2 h_s2 => ?_
 ·try simp only [lnw]
  omega
 have hl_s2 := congrArg List.length h_s2
 simp only [lnw] at hl_s2
 refine ARun.go 20 ?_
 simp only [W, seval, c115]
 refine ARun.fin Tryz.func115 rfl (PW.ret0 hin htm ?_)
 subst h_s1 h_s2 ha
 exact ⟨rfl, by simp⟩
theorem line0 : PW 115 [.sl [] .full] fun k => tabT k := (line_pw [] (by simp)).cong fun _ => by simp
theorem line1 (x : List UInt8) : PW 115 [.sl [[.str x]] .full] fun k => tabT k ++ x := (line_pw [x] (by simp)).cong fun _ => by simp
theorem line2 (x y : List UInt8) : PW 115 [.sl [[.str x], [.str y]] .full] fun k => tabT k ++ (x ++ y) := (line_pw [x, y] (by simp)).cong fun _ => by simp
theorem line3 (x y z : List UInt8) : PW 115 [.sl [[.str x], [.str y], [.str z]] .full] fun k => tabT k ++ (x ++ y ++ z) := (line_pw [x, y, z] (by simp)).cong fun _ => by simp
theorem stTs_drop (n : Nat) (l : List StT) (j : Nat) (h : j < l.length) : stTs n (l.drop j) = stT n l[j] ++ stTs n (l.drop (j + 1)) := by
 rw [List.drop_eq_getElem_cons h, stTs]
set_option maxHeartbeats 2000000 in
theorem block_pk {ok : Nat → Prop} {l : List StT} (hl : ∀ x ∈ l, PK ok 87 [stV x] fun k => stT k x) : PK (fun k => ok (k + 1) ∧ k ≤ 800) 53 [.d (.sl (l.map stD))] fun k => stTs (k + 1) l := by
 intro i t s k B T hin htm hk hb
 obtain ⟨hok, hk8⟩ := hk
 obtain ⟨N, hn⟩ : ∃ N, B.length = N := ⟨_, rfl⟩
 obtain ⟨a, ha⟩ : ∃ a, s ++ stTs (k + 1) l = a := ⟨_, rfl⟩
 have hal := congrArg List.length ha
 rw [List.length_append] at hal
 dsimp only at hb ⊢
 rw [ha]
 have hin' : i < N := by omega
 have hwk := wrap_in ((k : Int) + 1) (by omega)
 have hwd := wrap_in ((k : Int) + 1 - 1) (by omega)
 have hwk0 := wrap_in (k : Int) (by omega)
 have hrd : ∀ s, bxW i t s k = [.self i 54, .buf (s.map byteRow) t 5, .d (.int .i64 (k : Int))] := fun s => rfl
 have hrd1 : ∀ s, bxW i t s (k + 1) = [.self i 54, .buf (s.map byteRow) t 5, .d (.int .i64 ((k : Int) + 1))] := fun s => rfl
 refine b53.go 40 rfl fun hsm => ?_
 simp only [smw] at hsm
 simp only [W, seval, c53, hin, hin', htm, hn, hrd, hwk]
 rw [← hrd1, ← hrd]
 refine ARun.fits fun hf => ?_
 refine ARun.loopB (fun p : Nat × List UInt8 => (envS 30 [(0, .ptr i 0), (13, .d (.sl (l.map stD))), (14, .d (.int .i64 (l.length : Int))), (15, .d (.int .i64 (p.1 : Int)))], ⟨B.set i (bxW i t p.2 (k + 1)), T.set t (p.2.length, 1)⟩)) (fun p => p.1 ≤ l.length ∧ p.2 ++ stTs (k + 1) (l.drop p.1) = a) (fun p => l.length - p.1) (0, s) ⟨by simp, ha⟩ ?_ rfl ?_
 ·skip
  refine Agree.env _ ?_
  simp only [agw, seval, hn]
 rintro ⟨j, s1⟩ ⟨h1, h2⟩ ih
 dsimp only at h1 h2 ih ⊢
 by_cases hlt : j < l.length
 case neg =>
  have e1 : decide ((j : Int) < (l.length : Int)) = false := decide_eq_false (by omega)
  rw [List.drop_eq_nil_of_le (by omega), stTs, List.append_nil] at h2
  subst h2
  refine ARun.go 60 ?_
  simp only [W, seval, c53, e1, hin, htm, hrd1, hwd, hwk0, Int.add_sub_cancel]
  rw [← hrd]
  refine ARun.fin Tryz.func53 rfl (PW.ret0 hin htm ?_)
  exact ⟨rfl, rfl⟩
 have e1 : decide ((j : Int) < (l.length : Int)) = true := decide_eq_true (by omega)
 have hwj := wrap_in ((j : Int) + 1) (by omega)
 have hga := List.getElem?_eq_getElem hlt
 have hgx := hl l[j] (List.getElem_mem hlt)
 rw [stTs_drop _ l j hlt, ← List.append_assoc] at h2
 obtain ⟨x, hx⟩ : ∃ x, l[j] = x := ⟨_, rfl⟩
 rw [hx] at hga h2 hgx
 have h2l := congrArg List.length h2
 simp only [lnw] at h2l
 refine ARun.go 60 ?_
 simp only [W, seval, c53, e1, hn, List.getElem?_map, hga, stD_eq]
 refine (hgx).callJ hin htm hok ?_ fun s2 h_s2 => ?_
 ·try simp only [lnw]
  omega
 have hl_s2 := congrArg List.length h_s2
 simp only [lnw] at hl_s2
 rw [h_s2] at h2
 refine ARun.go 60 ?_
 simp only [W, seval, c53, hwj]
 refine ih (j + 1, s2) ⟨by dsimp only; omega, h2⟩ (by dsimp only; omega) _ _ _ _ rfl ⟨by simp [hn], by simp⟩ ?_ ?_
 ·have := fitsJ (s' := s2) (b := (s2.length, 1)) (A := []) hin htm (by rw [List.append_nil]; exact hf)
  rwa [List.append_nil] at this
 refine AgreeF.env _ ?_
 simp only [agf, seval, hn, htm]
 exact decide_eq_true hin'
theorem headT_len (n : Nat) (key : List UInt8) (es : List ExT) : (hedT n key es).length = n + (key.length + 1) + (exT (kidE es 0)).length + 3 := by
 unfold hedT tabT
 simp
 omega
set_option maxHeartbeats 2000000 in
theorem head_pw {d : Int} {x : ExT} (hx : OkE d x) (key : List UInt8) (q : Int) (b e : List StT) (cs : List CaT) : PW 116 [.d (.str key), stV (.mk q [] noT [] [x] b e cs)] fun k => hedT k key [x] := by
 intro i t s k B T hin htm hk hb
 obtain ⟨N, hn⟩ : ∃ N, B.length = N := ⟨_, rfl⟩
 obtain ⟨a, ha⟩ : ∃ a, s ++ hedT k key [x] = a := ⟨_, rfl⟩
 dsimp only at hb ⊢
 rw [headT_len, show kidE [x] 0 = x from rfl] at hb
 rw [ha]
 have htab : (tabT k).length = k := by simp [tabT]
 change AFn _ _ _ [.ptr i 0, .d (.str key), .agg [.d (.int .i64 q), .d (.sl []), .d (.int .i64 0), .d (.str []), .d (.sl []), .d (.sl []), .d (.sl [exD x]), .d (.sl (b.map stD)), .d (.sl (e.map stD)), .d (.sl (cs.map caD))]] _ _
 refine b116.go 40 rfl fun _ => ?_
 simp only [W, seval, c116, hin, htm, hn, mapD_nil, mapD_cons]
 refine (line2 key [32]).callJ hin htm hk ?_ fun s1 h_s1 => ?_
 ·try simp only [lnw]
  omega
 have hl_s1 := congrArg List.length h_s1
 simp only [lnw] at hl_s1
 refine ARun.go 40 ?_
 simp only [W, seval, c116, hin, htm, hn, exD_eq]
 refine (expr_pw hx).callJ hin htm hk ?_ fun s2 h_s2 => ?_
 ·try simp only [lnw]
  omega
 have hl_s2 := congrArg List.length h_s2
 simp only [lnw] at hl_s2
 refine ARun.go 40 ?_
 simp only [W, seval, c116, hin, htm, hn, mapD_nil, mapD_cons]
 refine (put1 [32, 123, 10]).callJ hin htm hk ?_ fun s3 h_s3 => ?_
 ·try simp only [lnw]
  omega
 have hl_s3 := congrArg List.length h_s3
 simp only [lnw] at hl_s3
 refine ARun.go 20 ?_
 simp only [W, seval, c116]
 refine ARun.fin Tryz.func116 rfl (PW.retJ hin htm ?_)
 subst h_s1 h_s2 h_s3 ha
 exact ⟨rfl, by simp [hedT, show kidE [x] 0 = x from rfl]⟩
def c87 := by
 have c := KK_of Tryz.f87 (by conv => lhs; cbv)
 dsimp only [KK, KxP, doO, opO, List.map_cons, List.map_nil, List.toList_toArray] at c
 exact c
theorem b87 : FnIs Tryz.prog 87 Tryz.f87 120 := ⟨Tryz.func87, by kernel_rfl⟩
def PWS (d : Int) (x : StT) : Prop := PK (fun k => (k : Int) ≤ d + 1) 87 [stV x] fun k => stT k x
theorem PWS.block {d : Int} {l : List StT} (h : ∀ x ∈ l, PWS d x) : PK (fun k => (k : Int) ≤ d ∧ k ≤ 800) 53 [.d (.sl (l.map stD))] fun k => stTs (k + 1) l :=
 (block_pk h).mono fun k hk => ⟨by have := hk.1; omega, hk.2⟩
theorem caTs_one (k : Nat) (c : CaT) (l : List CaT) : caTs k (c :: l) = (tabT k ++ ([99, 97, 115, 101, 32] ++ digF 24 c.int.toNat ++ [58, 10])) ++ stTs (k + 1) c.body ++ caTs k l := by
 cases c
 rw [caTs]
 rfl
theorem caTs_drop (n : Nat) (l : List CaT) (j : Nat) (h : j < l.length) : caTs n (l.drop j) = (tabT n ++ ([99, 97, 115, 101, 32] ++ digF 24 l[j].int.toNat ++ [58, 10])) ++ stTs (n + 1) l[j].body ++ caTs n (l.drop (j + 1)) := by
 rw [List.drop_eq_getElem_cons h, caTs_one]
set_option maxHeartbeats 8000000 in
theorem stmt_ps {d : Int} {x : StT} (h : OkS d x) : PWS d x := by
 induction h with
 | var d n y hd hid hy =>
  intro i t s k B T hin htm hkd hb
  have hk : k ≤ 900 := by omega
  obtain ⟨N, hn⟩ : ∃ N, B.length = N := ⟨_, rfl⟩
  have hty : stT k (.mk 1 [n] y [] [] [] [] []) = tabT k ++ ([118, 97, 114, 32] ++ n ++ [32]) ++ typT y ++ [10] := rfl
  dsimp only at hb ⊢
  rw [hty] at hb ⊢
  obtain ⟨a, ha⟩ : ∃ a, s ++ (tabT k ++ ([118, 97, 114, 32] ++ n ++ [32]) ++ typT y ++ [10]) = a := ⟨_, rfl⟩
  rw [ha]
  simp only [lnw] at hb
  change AFn _ _ _ [.ptr i 0, .agg [.d (.int .i64 1), .d (.sl [[.str n]]), .d (.int .i64 y.kind), .d (.str y.name), .d (.sl (y.elem.map tyD)), .d (.sl []), .d (.sl []), .d (.sl []), .d (.sl []), .d (.sl [])]] _ _
  refine b87.go 90 rfl fun hsm => ?_
  simp only [smw] at hsm
  simp only [W, seval, c87, hin, htm, hn, mapD_nil, mapD_cons]
  refine (line3 [118, 97, 114, 32] n [32]).callJ hin htm hk ?_ fun s1 h_s1 => ?_
  ·try simp only [lnw]
   omega
  have hl_s1 := congrArg List.length h_s1
  simp only [lnw] at hl_s1
  refine ARun.go 40 ?_
  simp only [W, seval, c87, hin, htm, hn]
  refine (typ_pw hy).callJ hin htm hk ?_ fun s2 h_s2 => ?_
  ·try simp only [lnw]
   omega
  have hl_s2 := congrArg List.length h_s2
  simp only [lnw] at hl_s2
  refine ARun.go 40 ?_
  simp only [W, seval, c87, hin, htm, hn, mapD_nil, mapD_cons]
  refine (put1 [10]).callJ hin htm hk ?_ fun s3 h_s3 => ?_
  ·try simp only [lnw]
   omega
  have hl_s3 := congrArg List.length h_s3
  simp only [lnw] at hl_s3
  refine ARun.go 20 ?_
  simp only [W, seval, c87]
  refine ARun.fin Tryz.func87 rfl (PW.retJ hin htm ?_)
  subst h_s1 h_s2 h_s3 ha
  exact ⟨rfl, by simp⟩
 | set d ls es hd hl0 he0 hpl hls hes =>
  intro i t s k B T hin htm hkd hb
  have hk : k ≤ 900 := by omega
  obtain ⟨N, hn⟩ : ∃ N, B.length = N := ⟨_, rfl⟩
  have hty : stT k (.mk 2 [] noT ls es [] [] []) = tabT k ++ comT (ls.map exT) ++ ([32, 61, 32] ++ comT (es.map exT) ++ [10]) := by
   rw [← exTs_map, ← exTs_map, List.append_assoc [32, 61, 32]]
   rfl
  dsimp only at hb ⊢
  rw [hty] at hb ⊢
  obtain ⟨a, ha⟩ : ∃ a, s ++ (tabT k ++ comT (ls.map exT) ++ ([32, 61, 32] ++ comT (es.map exT) ++ [10])) = a := ⟨_, rfl⟩
  rw [ha]
  simp only [lnw] at hb
  change AFn _ _ _ [.ptr i 0, .agg [.d (.int .i64 2), .d (.sl []), .d (.int .i64 0), .d (.str []), .d (.sl []), .d (.sl (ls.map exD)), .d (.sl (es.map exD)), .d (.sl []), .d (.sl []), .d (.sl [])]] _ _
  refine b87.go 90 rfl fun hsm => ?_
  simp only [smw] at hsm
  simp only [W, seval, c87, hin, htm, hn, mapD_nil, mapD_cons]
  refine (line0).callJ hin htm hk ?_ fun s1 h_s1 => ?_
  ·try simp only [lnw]
   omega
  have hl_s1 := congrArg List.length h_s1
  simp only [lnw] at hl_s1
  refine ARun.go 40 ?_
  simp only [W, seval, c87, hin, htm, hn]
  refine (each_Expr_pl (g := 44) (tx := exT) (fun x hx => expr_pw (hls x hx))).callJ hin htm hk ?_ fun s2 h_s2 => ?_
  ·try simp only [lnw]
   omega
  have hl_s2 := congrArg List.length h_s2
  simp only [lnw] at hl_s2
  refine ARun.go 40 ?_
  simp only [W, seval, c87, hin, htm, hn]
  refine (list_Expr_pl (g := 44) (tx := exT) (fun x hx => expr_pw (hes x hx)) [32, 61, 32] [10]).callJ hin htm hk ?_ fun s3 h_s3 => ?_
  ·try simp only [lnw]
   omega
  have hl_s3 := congrArg List.length h_s3
  simp only [lnw] at hl_s3
  refine ARun.go 20 ?_
  simp only [W, seval, c87]
  refine ARun.fin Tryz.func87 rfl (PW.retJ hin htm ?_)
  subst h_s1 h_s2 h_s3 ha
  exact ⟨rfl, by simp⟩
 | ret d es hd he0 hes =>
  intro i t s k B T hin htm hkd hb
  have hk : k ≤ 900 := by omega
  obtain ⟨N, hn⟩ : ∃ N, B.length = N := ⟨_, rfl⟩
  have hty : stT k (.mk 6 [] noT [] es [] [] []) = tabT k ++ ([114, 101, 116, 117, 114, 110, 32] ++ comT (es.map exT) ++ [10]) := by
   rw [← exTs_map, List.append_assoc [114, 101, 116, 117, 114, 110, 32]]
   rfl
  dsimp only at hb ⊢
  rw [hty] at hb ⊢
  obtain ⟨a, ha⟩ : ∃ a, s ++ (tabT k ++ ([114, 101, 116, 117, 114, 110, 32] ++ comT (es.map exT) ++ [10])) = a := ⟨_, rfl⟩
  rw [ha]
  simp only [lnw] at hb
  change AFn _ _ _ [.ptr i 0, .agg [.d (.int .i64 6), .d (.sl []), .d (.int .i64 0), .d (.str []), .d (.sl []), .d (.sl []), .d (.sl (es.map exD)), .d (.sl []), .d (.sl []), .d (.sl [])]] _ _
  refine b87.go 90 rfl fun hsm => ?_
  simp only [smw] at hsm
  simp only [W, seval, c87, hin, htm, hn, mapD_nil, mapD_cons]
  refine (line0).callJ hin htm hk ?_ fun s1 h_s1 => ?_
  ·try simp only [lnw]
   omega
  have hl_s1 := congrArg List.length h_s1
  simp only [lnw] at hl_s1
  refine ARun.go 40 ?_
  simp only [W, seval, c87, hin, htm, hn]
  refine (list_Expr_pl (g := 44) (tx := exT) (fun x hx => expr_pw (hes x hx)) [114, 101, 116, 117, 114, 110, 32] [10]).callJ hin htm hk ?_ fun s2 h_s2 => ?_
  ·try simp only [lnw]
   omega
  have hl_s2 := congrArg List.length h_s2
  simp only [lnw] at hl_s2
  refine ARun.go 20 ?_
  simp only [W, seval, c87]
  refine ARun.fin Tryz.func87 rfl (PW.retJ hin htm ?_)
  subst h_s1 h_s2 ha
  exact ⟨rfl, by simp⟩
 | fro d x b hd hx hh hbo ihb =>
  intro i t s k B T hin htm hkd hb
  have hk : k ≤ 900 := by omega
  obtain ⟨N, hn⟩ : ∃ N, B.length = N := ⟨_, rfl⟩
  have hkb : (k : Int) ≤ d + 1 ∧ k ≤ 800 := ⟨hkd, by omega⟩
  have hty : stT k (.mk 4 [] noT [] [x] b [] []) = hedT k [102, 111, 114] [x] ++ stTs (k + 1) b ++ (tabT k ++ [125, 10]) := rfl
  dsimp only at hb ⊢
  rw [hty] at hb ⊢
  obtain ⟨a, ha⟩ : ∃ a, s ++ (hedT k [102, 111, 114] [x] ++ stTs (k + 1) b ++ (tabT k ++ [125, 10])) = a := ⟨_, rfl⟩
  rw [ha]
  simp only [lnw] at hb
  change AFn _ _ _ [.ptr i 0, .agg [.d (.int .i64 4), .d (.sl []), .d (.int .i64 0), .d (.str []), .d (.sl []), .d (.sl []), .d (.sl [exD x]), .d (.sl (b.map stD)), .d (.sl []), .d (.sl [])]] _ _
  refine b87.go 90 rfl fun hsm => ?_
  simp only [smw] at hsm
  simp only [W, seval, c87, hin, htm, hn, mapD_nil, mapD_cons]
  refine (head_pw hx [102, 111, 114] 4 b [] []).callJ hin htm hk ?_ fun s1 h_s1 => ?_
  ·try simp only [lnw]
   omega
  have hl_s1 := congrArg List.length h_s1
  simp only [lnw] at hl_s1
  refine ARun.go 40 ?_
  simp only [W, seval, c87, hin, htm, hn]
  refine (PWS.block ihb).callJ hin htm hkb ?_ fun s2 h_s2 => ?_
  ·try simp only [lnw]
   omega
  have hl_s2 := congrArg List.length h_s2
  simp only [lnw] at hl_s2
  refine ARun.go 40 ?_
  simp only [W, seval, c87, hin, htm, hn, mapD_nil, mapD_cons]
  refine (line1 [125, 10]).callJ hin htm hk ?_ fun s3 h_s3 => ?_
  ·try simp only [lnw]
   omega
  have hl_s3 := congrArg List.length h_s3
  simp only [lnw] at hl_s3
  refine ARun.go 20 ?_
  simp only [W, seval, c87]
  refine ARun.fin Tryz.func87 rfl (PW.retJ hin htm ?_)
  subst h_s1 h_s2 h_s3 ha
  exact ⟨rfl, by simp⟩
 | iff d x b e hd hx hh hbo he ihb ihe =>
  intro i t s k B T hin htm hkd hb
  have hk : k ≤ 900 := by omega
  obtain ⟨N, hn⟩ : ∃ N, B.length = N := ⟨_, rfl⟩
  have hkb : (k : Int) ≤ d + 1 ∧ k ≤ 800 := ⟨hkd, by omega⟩
  cases e with
  | nil =>
   have hty : stT k (.mk 3 [] noT [] [x] b [] []) = hedT k [105, 102] [x] ++ stTs (k + 1) b ++ [] ++ (tabT k ++ [125, 10]) := rfl
   dsimp only at hb ⊢
   rw [hty, List.append_nil] at hb ⊢
   obtain ⟨a, ha⟩ : ∃ a, s ++ (hedT k [105, 102] [x] ++ stTs (k + 1) b ++ (tabT k ++ [125, 10])) = a := ⟨_, rfl⟩
   rw [ha]
   simp only [lnw] at hb
   change AFn _ _ _ [.ptr i 0, .agg [.d (.int .i64 3), .d (.sl []), .d (.int .i64 0), .d (.str []), .d (.sl []), .d (.sl []), .d (.sl [exD x]), .d (.sl (b.map stD)), .d (.sl []), .d (.sl [])]] _ _
   refine b87.go 90 rfl fun hsm => ?_
   simp only [smw] at hsm
   simp only [W, seval, c87, hin, htm, hn, mapD_nil, mapD_cons]
   refine (head_pw hx [105, 102] 3 b [] []).callJ hin htm hk ?_ fun s1 h_s1 => ?_
   ·try simp only [lnw]
    omega
   have hl_s1 := congrArg List.length h_s1
   simp only [lnw] at hl_s1
   refine ARun.go 40 ?_
   simp only [W, seval, c87, hin, htm, hn]
   refine (PWS.block ihb).callJ hin htm hkb ?_ fun s2 h_s2 => ?_
   ·try simp only [lnw]
    omega
   have hl_s2 := congrArg List.length h_s2
   simp only [lnw] at hl_s2
   refine ARun.go 60 ?_
   simp only [W, seval, c87, hin, htm, hn, mapD_nil, mapD_cons]
   refine (line1 [125, 10]).callJ hin htm hk ?_ fun s3 h_s3 => ?_
   ·try simp only [lnw]
    omega
   have hl_s3 := congrArg List.length h_s3
   simp only [lnw] at hl_s3
   refine ARun.go 20 ?_
   simp only [W, seval, c87]
   refine ARun.fin Tryz.func87 rfl (PW.retJ hin htm ?_)
   subst h_s1 h_s2 h_s3 ha
   exact ⟨rfl, by simp⟩
  | cons y e =>
   have hty : stT k (.mk 3 [] noT [] [x] b (y :: e) []) = hedT k [105, 102] [x] ++ stTs (k + 1) b ++ (tabT k ++ [125, 32, 101, 108, 115, 101, 32, 123, 10] ++ stTs (k + 1) (y :: e)) ++ (tabT k ++ [125, 10]) := rfl
   have hpos : decide ((0 : Int) < ((y :: e).length : Int)) = true := decide_eq_true (by simp)
   generalize hw : y :: e = w at hty hpos ihe hb ⊢
   dsimp only at hb ⊢
   rw [hty] at hb ⊢
   obtain ⟨a, ha⟩ : ∃ a, s ++ (hedT k [105, 102] [x] ++ stTs (k + 1) b ++ (tabT k ++ [125, 32, 101, 108, 115, 101, 32, 123, 10] ++ stTs (k + 1) w) ++ (tabT k ++ [125, 10])) = a := ⟨_, rfl⟩
   rw [ha]
   simp only [lnw] at hb
   change AFn _ _ _ [.ptr i 0, .agg [.d (.int .i64 3), .d (.sl []), .d (.int .i64 0), .d (.str []), .d (.sl []), .d (.sl []), .d (.sl [exD x]), .d (.sl (b.map stD)), .d (.sl (w.map stD)), .d (.sl [])]] _ _
   refine b87.go 90 rfl fun hsm => ?_
   simp only [smw] at hsm
   simp only [W, seval, c87, hin, htm, hn, mapD_nil, mapD_cons]
   refine (head_pw hx [105, 102] 3 b w []).callJ hin htm hk ?_ fun s1 h_s1 => ?_
   ·try simp only [lnw]
    omega
   have hl_s1 := congrArg List.length h_s1
   simp only [lnw] at hl_s1
   refine ARun.go 40 ?_
   simp only [W, seval, c87, hin, htm, hn]
   refine (PWS.block ihb).callJ hin htm hkb ?_ fun s2 h_s2 => ?_
   ·try simp only [lnw]
    omega
   have hl_s2 := congrArg List.length h_s2
   simp only [lnw] at hl_s2
   refine ARun.go 60 ?_
   simp only [W, seval, c87, hin, htm, hn, mapD_nil, mapD_cons, hpos]
   refine (line1 [125, 32, 101, 108, 115, 101, 32, 123, 10]).callJ hin htm hk ?_ fun s3 h_s3 => ?_
   ·try simp only [lnw]
    omega
   have hl_s3 := congrArg List.length h_s3
   simp only [lnw] at hl_s3
   refine ARun.go 40 ?_
   simp only [W, seval, c87, hin, htm, hn]
   refine (PWS.block ihe).callJ hin htm hkb ?_ fun s4 h_s4 => ?_
   ·try simp only [lnw]
    omega
   have hl_s4 := congrArg List.length h_s4
   simp only [lnw] at hl_s4
   refine ARun.go 40 ?_
   simp only [W, seval, c87, hin, htm, hn, mapD_nil, mapD_cons]
   refine (line1 [125, 10]).callJ hin htm hk ?_ fun s5 h_s5 => ?_
   ·try simp only [lnw]
    omega
   have hl_s5 := congrArg List.length h_s5
   simp only [lnw] at hl_s5
   refine ARun.go 20 ?_
   simp only [W, seval, c87]
   refine ARun.fin Tryz.func87 rfl (PW.retJ hin htm ?_)
   subst h_s1 h_s2 h_s3 h_s4 h_s5 ha
   exact ⟨rfl, by simp⟩
 | swi d x e cs hd hx hh he hci hcb ihe ihc =>
  intro i t s k B T hin htm hkd hb
  have hk : k ≤ 900 := by omega
  obtain ⟨N, hn⟩ : ∃ N, B.length = N := ⟨_, rfl⟩
  have hin' : i < N := by omega
  have hkb : (k : Int) ≤ d + 1 ∧ k ≤ 800 := ⟨hkd, by omega⟩
  have hkc : (k : Int) ≤ d + 2 ∧ k ≤ 800 := ⟨by omega, by omega⟩
  obtain ⟨E, hE⟩ : ∃ E, (if e.isEmpty = true then [] else tabT k ++ [100, 101, 102, 97, 117, 108, 116, 58, 10] ++ stTs (k + 1) e) = E := ⟨_, rfl⟩
  have hty : stT k (.mk 5 [] noT [] [x] [] e cs) = hedT k [115, 119, 105, 116, 99, 104] [x] ++ caTs k cs ++ E ++ (tabT k ++ [125, 10]) := by
   rw [← hE]
   rfl
  dsimp only at hb ⊢
  rw [hty] at hb ⊢
  obtain ⟨a, ha⟩ : ∃ a, s ++ (hedT k [115, 119, 105, 116, 99, 104] [x] ++ caTs k cs ++ E ++ (tabT k ++ [125, 10])) = a := ⟨_, rfl⟩
  rw [ha]
  simp only [lnw] at hb
  change AFn _ _ _ [.ptr i 0, .agg [.d (.int .i64 5), .d (.sl []), .d (.int .i64 0), .d (.str []), .d (.sl []), .d (.sl []), .d (.sl [exD x]), .d (.sl []), .d (.sl (e.map stD)), .d (.sl (cs.map caD))]] _ _
  refine b87.go 90 rfl fun hsm => ?_
  simp only [smw] at hsm
  simp only [W, seval, c87, hin, htm, hn, mapD_nil, mapD_cons]
  refine (head_pw hx [115, 119, 105, 116, 99, 104] 5 [] e cs).callJ hin htm hk ?_ fun s1 h_s1 => ?_
  ·try simp only [lnw]
   omega
  have hl_s1 := congrArg List.length h_s1
  simp only [lnw] at hl_s1
  have ha1 : s1 ++ caTs k cs ++ (E ++ (tabT k ++ [125, 10])) = a := by rw [← ha, ← h_s1]; simp
  refine ARun.go 60 ?_
  simp only [W, seval, c87, hin, htm, hn, hin']
  refine ARun.fits fun hf => ?_
  refine ARun.loopB (fun p : Nat × List UInt8 => (envS 120 [(0, .ptr i 0), (3, .ptr N 0), (12, .d (.sl (cs.map caD))), (13, .d (.int .i64 (cs.length : Int))), (14, .d (.int .i64 (p.1 : Int)))], ⟨B.set i (bxW i t p.2 k) ++ [[.d (.int .i64 5), .d (.sl []), .d (.int .i64 0), .d (.str []), .d (.sl []), .d (.sl []), .d (.sl [exD x]), .d (.sl []), .d (.sl (e.map stD)), .d (.sl (cs.map caD))]], T.set t (p.2.length, 1)⟩)) (fun p => p.1 ≤ cs.length ∧ p.2 ++ caTs k (cs.drop p.1) ++ (E ++ (tabT k ++ [125, 10])) = a ∧ a.length ≤ mostW) (fun p => cs.length - p.1) (0, s1) ⟨by simp, ha1, by rw [← ha]; simp only [lnw]; omega⟩ ?_ rfl ?_
  ·skip
   refine Agree.env _ ?_
   simp only [agw, seval, hn]
  rintro ⟨j, s2⟩ ⟨h1, h2, h3⟩ ih
  dsimp only at h1 h2 ih ⊢
  by_cases hlt : j < cs.length
  case neg =>
   have e1 : decide ((j : Int) < (cs.length : Int)) = false := decide_eq_false (by omega)
   rw [List.drop_eq_nil_of_le (by omega), caTs, List.append_nil] at h2
   have h2l := congrArg List.length h2
   simp only [lnw] at h2l
   cases e with
   | nil =>
    have hE : ([] : List UInt8) = E := hE
    subst hE
    refine ARun.go 60 ?_
    simp only [W, seval, c87, e1, hin, htm, hn, hin', mapD_nil, mapD_cons]
    refine (line1 [125, 10]).callJ hin htm hk ?_ fun s3 h_s3 => ?_
    ·try simp only [lnw]
     omega
    have hl_s3 := congrArg List.length h_s3
    simp only [lnw] at hl_s3
    refine ARun.go 20 ?_
    simp only [W, seval, c87]
    refine ARun.fin Tryz.func87 rfl (PW.retJ hin htm ?_)
    subst h_s3 h2
    exact ⟨rfl, by simp⟩
   | cons y e =>
    have hE : tabT k ++ [100, 101, 102, 97, 117, 108, 116, 58, 10] ++ stTs (k + 1) (y :: e) = E := hE
    have hpos : decide ((0 : Int) < ((y :: e).length : Int)) = true := decide_eq_true (by simp)
    generalize hw : y :: e = w at hpos ihe hE ⊢
    have hEl := congrArg List.length hE
    simp only [lnw] at hEl
    refine ARun.go 60 ?_
    simp only [W, seval, c87, e1, hin, htm, hn, hin', mapD_nil, mapD_cons, hpos]
    refine (line1 [100, 101, 102, 97, 117, 108, 116, 58, 10]).callJ hin htm hk ?_ fun s3 h_s3 => ?_
    ·try simp only [lnw]
     omega
    have hl_s3 := congrArg List.length h_s3
    simp only [lnw] at hl_s3
    refine ARun.go 40 ?_
    simp only [W, seval, c87, hin, htm, hn, hin']
    refine (PWS.block ihe).callJ hin htm hkb ?_ fun s4 h_s4 => ?_
    ·try simp only [lnw]
     omega
    have hl_s4 := congrArg List.length h_s4
    simp only [lnw] at hl_s4
    refine ARun.go 60 ?_
    simp only [W, seval, c87, hin, htm, hn, mapD_nil, mapD_cons]
    refine (line1 [125, 10]).callJ hin htm hk ?_ fun s5 h_s5 => ?_
    ·try simp only [lnw]
     omega
    have hl_s5 := congrArg List.length h_s5
    simp only [lnw] at hl_s5
    refine ARun.go 20 ?_
    simp only [W, seval, c87]
    refine ARun.fin Tryz.func87 rfl (PW.retJ hin htm ?_)
    subst h_s3 h_s4 h_s5 hE h2
    exact ⟨rfl, by simp⟩
  have e1 : decide ((j : Int) < (cs.length : Int)) = true := decide_eq_true (by omega)
  have hwj := wrap_in ((j : Int) + 1) (by omega)
  have hga := List.getElem?_eq_getElem hlt
  have hcx := hci cs[j] (List.getElem_mem hlt)
  have hbx := ihc cs[j] (List.getElem_mem hlt)
  rw [caTs_drop _ cs j hlt] at h2
  obtain ⟨c, hc⟩ : ∃ c, cs[j] = c := ⟨_, rfl⟩
  rw [hc] at hga h2 hcx hbx
  have h2l := congrArg List.length h2
  simp only [lnw] at h2l
  refine ARun.go 60 ?_
  simp only [W, seval, c87, e1, hn, hin', List.getElem?_map, hga, caD_eq]
  refine callS_fn (funt_ab c.int hcx.1 hcx.2 _ _) ?_
  rintro _ _ ⟨rfl, rfl⟩
  refine ARun.go 60 ?_
  simp only [W, seval, c87, hn, hin', mapD_nil, mapD_cons]
  refine (line3 [99, 97, 115, 101, 32] (digF 24 c.int.toNat) [58, 10]).callJ hin htm hk ?_ fun s3 h_s3 => ?_
  ·try simp only [lnw]
   omega
  have hl_s3 := congrArg List.length h_s3
  simp only [lnw] at hl_s3
  refine ARun.go 60 ?_
  simp only [W, seval, c87, hn, hin']
  refine (PWS.block hbx).callJ hin htm hkc ?_ fun s4 h_s4 => ?_
  ·try simp only [lnw]
   omega
  have hl_s4 := congrArg List.length h_s4
  simp only [lnw] at hl_s4
  have h4 : s4 ++ caTs k (cs.drop (j + 1)) ++ (E ++ (tabT k ++ [125, 10])) = a := by rw [← h2, ← h_s4, ← h_s3]; simp
  refine ARun.go 60 ?_
  simp only [W, seval, c87, hwj]
  rw [app2]
  refine ih (j + 1, s4) ⟨by dsimp only; omega, h4, h3⟩ (by dsimp only; omega) _ _ _ _ rfl ⟨by simp [hn], by simp⟩ (fitsJ hin htm hf) ?_
  refine AgreeF.env _ ?_
  simp only [agf, seval, hn, htm]
  refine ⟨decide_eq_true ?_, decide_eq_true ?_⟩
  all_goals
   simp only [List.length_append, List.length_set, List.length_cons, List.length_nil, hn]
   omega
end Go.Proofs.YtfaoamebphckbaaGreatDoor
namespace Go.Proofs.YtfaoamebphckbaaGreatDoor
open Go.RowKit Go.Av
set_option linter.unusedSimpArgs false
set_option linter.unusedVariables false
theorem tokSs_cons (x : StT) (l : List StT) : tokSs (x :: l) = tokS x ++ tokSs l := by rw [tokSs]
theorem tokSs_nil : tokSs [] = [] := by rw [tokSs]
theorem tokCs_cons (i : Int) (b : List StT) (l : List CaT) : tokCs (.mk i b :: l) = (4, [99, 97, 115, 101], 0) :: (2, digF 24 i.toNat, i.toNat) :: (3, [58], 0) :: (tokSs b ++ tokCs l) := by rw [tokCs]
theorem tokCs_nil : tokCs [] = [] := by rw [tokCs]
def EndS (c : Wd) : Prop := c = (3, [125], 0) ∨ c = (4, [99, 97, 115, 101], 0) ∨ c = (4, [100, 101, 102, 97, 117, 108, 116], 0)
theorem EndS.nine {c : Wd} (h : EndS c) : c.1 ≠ 9 := (fol_end h).f.n9
def RdSt (S : SP) (n : Nat) : Prop := ∀ (d : Int) (x : StT), OkS d x → ∀ (s : Ps) (c : Wd) (tl : List Wd) (o : Int), Bf s (tokS x ++ c :: tl) o false → FolS c → 0 ≤ o → o ≤ d + 1 → mu s < n → ∃ s', S s = (x, s') ∧ Bf s' (c :: tl) o false
theorem stmts_first {d : Int} {l : List StT} (hl : ∀ x ∈ l, OkS d x) {c : Wd} (hc : EndS c) (tl : List Wd) : ∃ w r, tokSs l ++ c :: tl = w :: r ∧ FolS w := by
 cases l with
 | nil => exact ⟨c, tl, by rw [tokSs_nil]; rfl, fol_end hc⟩
 | cons x l =>
  obtain ⟨w, r, e, h⟩ := fst_stmt (hl x List.mem_cons_self)
  exact ⟨w, r ++ tokSs l ++ c :: tl, by rw [tokSs_cons, e]; rfl, h.f⟩
section
variable {E : EP} {S : SP} {n : Nat}
theorem stmts_eq (S : SP) (m : Nat) (s : Ps) : stmtsL S (m + 1) s = if s.e = 0 ∧ isP s [125] = false ∧ isP s [99, 97, 115, 101] = false ∧ isP s [100, 101, 102, 97, 117, 108, 116] = false then bndP (S s) fun x s1 => bndP (stmtsL S m s1) fun l s2 => (x :: l, s2) else ([], s) := rfl
theorem read_stmts (hS : RdSt S n) (d : Int) : ∀ (l : List StT), (∀ x ∈ l, OkS d x) → ∀ (m : Nat) (s : Ps) (c : Wd) (tl : List Wd) (o : Int), Bf s (tokSs l ++ c :: tl) o false → EndS c → 0 ≤ o → o ≤ d + 1 → mu s < n → mu s ≤ m → ∃ s', stmtsL S m s = (l, s') ∧ Bf s' (c :: tl) o false
 | [], _, m, s, c, tl, o, b, hc, _, _, _, _ => by
  rw [tokSs_nil] at b
  have b : Bf s (c :: tl) o false := b
  refine ⟨s, ?_, b⟩
  cases m with
  | zero => rfl
  | succ m =>
   rw [stmts_eq, if_neg]
   rintro ⟨_, h1, h2, h3⟩
   rw [b.is] at h1 h2 h3
   rcases hc with rfl | rfl | rfl
   ·exact absurd h1 (by decide)
   ·exact absurd h2 (by decide)
   ·exact absurd h3 (by decide)
 | x :: l, hl, m, s, c, tl, o, b, hc, h0, ho, hn, hm => by
  have hx := hl x List.mem_cons_self
  have hl' : ∀ y ∈ l, OkS d y := fun y hy => hl y (List.mem_cons_of_mem _ hy)
  obtain ⟨w, r, hw, hf⟩ := fst_stmt hx
  obtain ⟨w2, r2, hw2, hf2⟩ := stmts_first hl' hc tl
  rw [tokSs_cons, List.append_assoc] at b
  have hmu := b.mu
  have b' := b
  rw [hw] at b'
  have b' : Bf s (w :: (r ++ (tokSs l ++ c :: tl))) o false := b'
  simp only [List.length_append, List.length_cons] at hmu
  obtain ⟨m, rfl⟩ : ∃ j, m = j + 1 := ⟨m - 1, by omega⟩
  have b2 := b
  rw [hw2] at b2
  obtain ⟨s1, e1, b1⟩ := hS d x hx s w2 r2 o b2 hf2 h0 ho hn
  rw [← hw2] at b1
  have hmu1 := b1.mu
  simp only [List.length_append, List.length_cons] at hmu1
  have hpos : 0 < (tokS x).length := by rw [hw]; simp
  obtain ⟨s2, e2, b3⟩ := read_stmts hS d l hl' m s1 c tl o b1 hc h0 ho (by omega) (by omega)
  refine ⟨s2, ?_, b3⟩
  rw [stmts_eq, if_pos ⟨b.at'.e, by rw [b'.is]; exact hf.c1, by rw [b'.is]; exact hf.c2, by rw [b'.is]; exact hf.c3⟩]
  unfold bndP
  rw [e1]
  dsimp only
  rw [e2]
theorem read_block (hS : RdSt S n) {d : Int} {l : List StT} (hl : ∀ x ∈ l, OkS (d + 1) x) {m : Nat} {s : Ps} {c : Wd} {tl : List Wd} {o : Int} (b : Bf s ((3, [123], 0) :: (tokSs l ++ (3, [125], 0) :: c :: tl)) o false) (hc : c.1 ≠ 9) (h0 : 0 ≤ o) (ho : o ≤ d + 1) (hd : d ≤ 60) (hn : mu s ≤ n) (hm : mu s ≤ m) :
 ∃ s', blockP S m s = (l, s') ∧ Bf s' (c :: tl) o false := by
 obtain ⟨w, r, hw, hf⟩ := stmts_first hl (c := (3, [125], 0)) (.inl rfl) (c :: tl)
 have hmu := b.mu
 have b' := b
 rw [hw] at b'
 obtain ⟨s1, _, e1, b1⟩ := b'.yes hf.f.n9 (T := [123]) (by decide) (bump_open (by decide) ⟨h0, by omega⟩)
 rw [← hw] at b1
 have hmu1 := b1.mu
 simp only [List.length_append, List.length_cons] at hmu hmu1
 obtain ⟨s2, e2, b2⟩ := read_stmts hS (d + 1) l hl m s1 _ _ (o + 1) b1 (.inl rfl) (by omega) (by omega) (by omega) (by omega)
 obtain ⟨s3, _, e3, b3⟩ := b2.yes hc (T := [125]) (by decide) (bump_close (by decide) (by decide) ⟨by omega, by omega⟩)
 rw [show o + 1 - 1 = o by omega] at b3
 refine ⟨s3, ?_, b3⟩
 unfold blockP
 rw [e1, e2]
 dsimp only
 rw [e3]
theorem read_head (hE : RdE E n) {d : Int} {x : ExT} (hx : OkE d x) (hh : headS x = true) {s : Ps} {tl : List Wd} {o : Int} (b : Bf s (tokE x ++ (3, [123], 0) :: tl) o false) (h0 : 0 ≤ o) (ho : o ≤ d + 39) (hn : mu s < n) : ∃ s', headP E s = (x, s') ∧ Bf s' ((3, [123], 0) :: tl) o false := by
 have h3 : ¬ (3 : Nat) = 9 := by decide
 have hr : rankS [123] = 0 := by decide
 obtain ⟨s1, e1, b1⟩ := hE d x hx ⟨s.ws, s.e, s.o, true⟩ (3, [123], 0) tl o true ⟨⟨b.at'.e, b.at'.ws⟩, b.o, rfl⟩ ⟨h3, by decide, by decide, by decide, (fun e => by cases e), (fun _ => by show rankS [123] < 6 - ((5 : Nat) : Int); omega)⟩ h0 ho (fun _ => hh) hn
 refine ⟨⟨s1.ws, s1.e, s1.o, false⟩, ?_, ⟨⟨b1.at'.e, b1.at'.ws⟩, b1.o, rfl⟩⟩
 unfold headP
 rw [e1]
theorem Bf.num {s : Ps} {t : List UInt8} {i : Nat} {y : Wd} {l : List Wd} {o : Int} {h : Bool} (b : Bf s ((2, t, i) :: y :: l) o h) (hy : y.1 ≠ 9) : ∃ s', numP s = ((i : Int), s') ∧ Bf s' (y :: l) o h := by
 refine ⟨nextP s, ?_, b.next hy⟩
 unfold numP
 rw [if_pos ⟨b.at'.e, b.at'.kind.1⟩, show s.w.int = i from congrArg (fun x : Wd => x.2.2) b.at'.w]
theorem cas_eq (S : SP) (k m : Nat) (s : Ps) : casL S k (m + 1) s = bndP (gotP s [99, 97, 115, 101]) fun b s1 => if b = true then bndP (numP s1) fun i s2 => bndP ((), wantP s2 [58]) fun _ s3 => bndP (stmtsL S k s3) fun q s4 => bndP (casL S k m s4) fun l s5 => (.mk i q :: l, s5) else ([], s1) := by
 conv => lhs; unfold casL
 unfold Proofs.YtfaoamebphckbaaGreatDoor.bndP
 rcases gotP s [99, 97, 115, 101] with ⟨_ | _, s1⟩ <;> rfl
theorem cases_first (l : List CaT) {c : Wd} (hc : c = (3, [125], 0) ∨ c = (4, [100, 101, 102, 97, 117, 108, 116], 0)) (tl : List Wd) : ∃ w r, tokCs l ++ c :: tl = w :: r ∧ EndS w := by
 cases l with
 | nil => exact ⟨c, tl, by rw [tokCs_nil]; rfl, by rcases hc with e | e <;> simp [EndS, e]⟩
 | cons x l =>
  obtain ⟨i, q⟩ := x
  exact ⟨_, _, by rw [tokCs_cons]; rfl, .inr (.inl rfl)⟩
theorem read_cases (hS : RdSt S n) (d : Int) (k : Nat) : ∀ (l : List CaT), (∀ c ∈ l, 0 ≤ c.int ∧ c.int ≤ 18446744073709551615) → (∀ c ∈ l, ∀ x ∈ c.body, OkS d x) → ∀ (m : Nat) (s : Ps) (c : Wd) (tl : List Wd) (o : Int), Bf s (tokCs l ++ c :: tl) o false → (c = (3, [125], 0) ∨ c = (4, [100, 101, 102, 97, 117, 108, 116], 0)) → 0 ≤ o → o ≤ d + 1 → mu s ≤ n → mu s ≤ m → mu s ≤ k → ∃ s', casL S k m s = (l, s') ∧ Bf s' (c :: tl) o false
 | [], _, _, m, s, c, tl, o, b, hc, _, _, _, _, _ => by
  rw [tokCs_nil] at b
  have b : Bf s (c :: tl) o false := b
  refine ⟨s, ?_, b⟩
  cases m with
  | zero => rfl
  | succ m =>
   rw [cas_eq]
   unfold bndP
   rw [b.no (T := [99, 97, 115, 101]) (by rcases hc with rfl | rfl <;> decide)]
   rfl
 | .mk i q :: l, hi, hl, m, s, c, tl, o, b, hc, h0, ho, hn, hm, hk => by
  obtain ⟨w, r, hw, hf⟩ := cases_first l hc tl
  have hq : ∀ x ∈ q, OkS d x := hl _ List.mem_cons_self
  have hi0 := hi _ List.mem_cons_self
  have hi0 : 0 ≤ i ∧ i ≤ 18446744073709551615 := hi0
  rw [tokCs_cons] at b
  have b : Bf s ((4, [99, 97, 115, 101], 0) :: (2, digF 24 i.toNat, i.toNat) :: (3, [58], 0) :: ((tokSs q ++ tokCs l) ++ c :: tl)) o false := b
  rw [List.append_assoc, hw] at b
  obtain ⟨w1, r1, hw1, hf1⟩ := stmts_first hq hf r
  have hmu := b.mu
  simp only [List.length_append, List.length_cons] at hmu
  obtain ⟨m, rfl⟩ : ∃ j, m = j + 1 := ⟨m - 1, by omega⟩
  obtain ⟨s1, e1, _, b1⟩ := b.yes (show ¬ (2 : Nat) = 9 by decide) (T := [99, 97, 115, 101]) (by decide) (bump_not (by decide) (by decide) _)
  obtain ⟨s2, e2, b2⟩ := b1.num (show ¬ (3 : Nat) = 9 by decide)
  rw [hw1] at b2
  obtain ⟨s3, _, e3, b3⟩ := b2.yes hf1.f.n9 (T := [58]) (by decide) (bump_not (by decide) (by decide) _)
  rw [← hw1] at b3
  have hmu3 := b3.mu
  simp only [List.length_append, List.length_cons] at hmu3
  obtain ⟨s4, e4, b4⟩ := read_stmts hS d q hq k s3 w r o b3 hf h0 ho (by omega) (by omega)
  have hmu4 := b4.mu
  simp only [List.length_cons] at hmu4
  rw [← hw] at b4
  obtain ⟨s5, e5, b5⟩ := read_cases hS d k l (fun c hc => hi c (List.mem_cons_of_mem _ hc)) (fun c hc => hl c (List.mem_cons_of_mem _ hc)) m s4 c tl o b4 hc h0 ho (by omega) (by omega) (by omega)
  refine ⟨s5, ?_, b5⟩
  rw [cas_eq]
  unfold bndP
  rw [e1]
  dsimp only
  rw [if_pos rfl, e2]
  dsimp only
  rw [e3, e4]
  dsimp only
  rw [e5]
  dsimp only
  rw [Int.toNat_of_nonneg hi0.1]
end
section
variable {E : EP} {S : SP} {n : Nat}
def RdS (E : EP) (S : SP) (n : Nat) (d : Int) (x : StT) : Prop := ∀ (m : Nat) (s : Ps) (c : Wd) (tl : List Wd) (o : Int), Bf s (tokS x ++ c :: tl) o false → FolS c → 0 ≤ o → o ≤ d + 1 → mu s ≤ n → mu s ≤ m → ∃ s', stmtP E S m s = (x, s') ∧ Bf s' (c :: tl) o false
theorem rds_var {d : Int} (hd : d ≤ 60) {t : List UInt8} {y : TyT} (hy : OkT y) : RdS E S n d (.mk 1 [t] y [] [] [] [] []) := by
 intro m s c tl o b hc h0 ho hn hm
 have b : Bf s ((4, [118, 97, 114], 0) :: (1, t, 0) :: (tokT y ++ c :: tl)) o false := b
 obtain ⟨w, r, hw, hf⟩ := fst_app (fst_type hy) (c :: tl)
 rw [hw] at b
 have hmu := b.mu
 obtain ⟨s1, e1, _, b1⟩ := b.yes (show ¬ (1 : Nat) = 9 by decide) (T := [118, 97, 114]) (by decide) (bump_not (by decide) (by decide) _)
 obtain ⟨s2, e2, b2⟩ := b1.name hf.n9
 have hmu2 := b2.mu
 rw [← hw] at b2
 simp only [List.length_cons] at hmu hmu2
 obtain ⟨s3, e3, b3⟩ := read_type hy m s2 c tl o false b2 hc.f.n9 h0 (by omega) (by omega)
 refine ⟨s3, ?_, b3⟩
 unfold stmtP
 rw [e1]
 dsimp only
 rw [e2]
 dsimp only
 rw [e3]
theorem rds_ret (hE : RdE E (n + 1)) {d : Int} (hd : d ≤ 60) {es : List ExT} (hne : es ≠ []) (hes : ∀ x ∈ es, OkE (d + 1) x) : RdS E S n d (.mk 6 [] noT [] es [] [] []) := by
 intro m s c tl o b hc h0 ho hn hm
 have b : Bf s ((4, [114, 101, 116, 117, 114, 110], 0) :: (comK false (tokEs es) ++ c :: tl)) o false := b
 obtain ⟨w, r, hw, h9⟩ : ∃ w r, comK false (tokEs es) ++ c :: tl = w :: r ∧ w.1 ≠ 9 := by
  cases es with
  | nil => exact absurd rfl hne
  | cons x es =>
   obtain ⟨w, l, hw, hf⟩ := fst_expr (hes x List.mem_cons_self)
   refine ⟨w, l ++ comK true (tokEs es) ++ c :: tl, ?_, hf.n9⟩
   rw [tokEs_cons, comK_cons, if_neg (by decide), List.nil_append, hw]
   rfl
 have hmu := b.mu
 rw [hw] at b
 obtain ⟨s1, e1, _, b1⟩ := b.yes h9 (T := [114, 101, 116, 117, 114, 110]) (by decide) (bump_not (by decide) (by decide) _)
 rw [← hw] at b1
 have hmu1 := b1.mu
 rw [List.length_cons] at hmu
 obtain ⟨s2, e2, b2⟩ := read_vals hE (d + 1) es hne hes m s1 c tl o b1 hc h0 (by omega) (by omega) (by omega)
 refine ⟨s2, ?_, b2⟩
 unfold stmtP
 rw [b.no (T := [118, 97, 114]) (by decide)]
 dsimp only
 rw [b.no (T := [105, 102]) (by decide)]
 dsimp only
 rw [b.no (T := [102, 111, 114]) (by decide)]
 dsimp only
 rw [b.no (T := [115, 119, 105, 116, 99, 104]) (by decide)]
 dsimp only
 rw [e1]
 dsimp only
 rw [e2]
theorem rds_set (hE : RdE E (n + 1)) {d : Int} (hd : d ≤ 60) {ls es : List ExT} (hnl : ls ≠ []) (hne : es ≠ []) (hp : ∀ x ∈ ls, placeS x = true) (hls : ∀ x ∈ ls, OkE (d + 1) x) (hes : ∀ x ∈ es, OkE (d + 1) x) : RdS E S n d (.mk 2 [] noT ls es [] [] []) := by
 intro m s c tl o b hc h0 ho hn hm
 rw [tokS_set] at b
 have b : Bf s (comK false (tokEs ls) ++ (3, [61], 0) :: (comK false (tokEs es) ++ c :: tl)) o false := by
  have e : (comK false (tokEs ls) ++ (3, [61], 0) :: comK false (tokEs es)) ++ c :: tl = comK false (tokEs ls) ++ (3, [61], 0) :: (comK false (tokEs es) ++ c :: tl) := by simp
  rw [← e]
  exact b
 obtain ⟨w, r, hw, h9⟩ : ∃ w r, comK false (tokEs es) ++ c :: tl = w :: r ∧ w.1 ≠ 9 := by
  cases es with
  | nil => exact absurd rfl hne
  | cons x es =>
   obtain ⟨w, l, hw, hf⟩ := fst_expr (hes x List.mem_cons_self)
   refine ⟨w, l ++ comK true (tokEs es) ++ c :: tl, ?_, hf.n9⟩
   rw [tokEs_cons, comK_cons, if_neg (by decide), List.nil_append, hw]
   rfl
 obtain ⟨t, r0, hn0⟩ : ∃ t r, comK false (tokEs ls) ++ (3, [61], 0) :: (comK false (tokEs es) ++ c :: tl) = (1, t, 0) :: r := by
  cases ls with
  | nil => exact absurd rfl hnl
  | cons x ls =>
   obtain ⟨t, l, e⟩ := place_first (hls x List.mem_cons_self) (hp x List.mem_cons_self)
   refine ⟨t, l ++ comK true (tokEs ls) ++ (3, [61], 0) :: (comK false (tokEs es) ++ c :: tl), ?_⟩
   rw [tokEs_cons, comK_cons, if_neg (by decide), List.nil_append, e]
   rfl
 have hmu := b.mu
 obtain ⟨s1, e1, b1⟩ := read_left (d + 1) m ls hnl hls hp m s _ o b hm hm
 rw [hw] at b1
 obtain ⟨s2, _, e2, b2⟩ := b1.yes h9 (T := [61]) (by decide) (bump_not (by decide) (by decide) _)
 rw [← hw] at b2
 have hmu2 := b2.mu
 simp only [List.length_append, List.length_cons] at hmu hmu2
 obtain ⟨s3, e3, b3⟩ := read_vals hE (d + 1) es hne hes m s2 c tl o b2 hc h0 (by omega) (by omega) (by omega)
 refine ⟨s3, ?_, b3⟩
 have b0 := b
 rw [hn0] at b0
 have no : ∀ T : List UInt8, gotP s T = (false, s) := fun T => b0.no (T := T) (by unfold isW; rw [decide_eq_false (show ¬ (1 : Nat) = 3 by decide), decide_eq_false (show ¬ (1 : Nat) = 4 by decide)]; rfl)
 unfold stmtP
 rw [no]
 dsimp only
 rw [no]
 dsimp only
 rw [no]
 dsimp only
 rw [no]
 dsimp only
 rw [no]
 dsimp only
 unfold setP
 rw [e1]
 dsimp only
 rw [e2, e3]
theorem fst_head {d : Int} {x : ExT} (hx : OkE d x) (r : List Wd) : ∃ w l, tokE x ++ r = w :: l ∧ w.1 ≠ 9 := by
 obtain ⟨w, l, e, hf⟩ := fst_expr hx
 exact ⟨w, l ++ r, by rw [e]; rfl, hf.n9⟩
theorem rds_for (hE : RdE E (n + 1)) (hS : RdSt S n) {d : Int} (hd : d ≤ 60) {x : ExT} {q : List StT} (hx : OkE (d + 1) x) (hh : headS x = true) (hq : ∀ y ∈ q, OkS (d + 1) y) : RdS E S n d (.mk 4 [] noT [] [x] q [] []) := by
 intro m s c tl o b hc h0 ho hn hm
 have b : Bf s ((4, [102, 111, 114], 0) :: (tokE x ++ (3, [123], 0) :: (tokSs q ++ (3, [125], 0) :: c :: tl))) o false := by
  have e : tokS (.mk 4 [] noT [] [x] q [] []) ++ c :: tl = (4, [102, 111, 114], 0) :: (tokE x ++ (3, [123], 0) :: (tokSs q ++ (3, [125], 0) :: c :: tl)) := by
   show ((4, [102, 111, 114], 0) :: (tokE x ++ (3, [123], 0) :: (tokSs q ++ [(3, [125], 0)]))) ++ c :: tl = _
   simp
  rw [← e]
  exact b
 obtain ⟨w, r, hw, h9⟩ := fst_head hx ((3, [123], 0) :: (tokSs q ++ (3, [125], 0) :: c :: tl))
 have hmu := b.mu
 rw [hw] at b
 obtain ⟨s1, e1, _, b1⟩ := b.yes h9 (T := [102, 111, 114]) (by decide) (bump_not (by decide) (by decide) _)
 rw [← hw] at b1
 have hmu1 := b1.mu
 rw [List.length_cons] at hmu
 obtain ⟨s2, e2, b2⟩ := read_head hE hx hh b1 h0 (by omega) (by omega)
 have hmu2 := b2.mu
 simp only [List.length_append, List.length_cons] at hmu hmu1 hmu2
 obtain ⟨s3, e3, b3⟩ := read_block hS hq (m := m) b2 hc.f.n9 h0 ho hd (by omega) (by omega)
 refine ⟨s3, ?_, b3⟩
 unfold stmtP
 rw [b.no (T := [118, 97, 114]) (by decide)]
 dsimp only
 rw [b.no (T := [105, 102]) (by decide)]
 dsimp only
 rw [e1]
 dsimp only
 rw [e2]
 dsimp only
 rw [e3]
theorem rds_if (hE : RdE E (n + 1)) (hS : RdSt S n) {d : Int} (hd : d ≤ 60) {x : ExT} {q e : List StT} (hx : OkE (d + 1) x) (hh : headS x = true) (hq : ∀ y ∈ q, OkS (d + 1) y) (he : ∀ y ∈ e, OkS (d + 1) y) : RdS E S n d (.mk 3 [] noT [] [x] q e []) := by
 intro m s c tl o b hc h0 ho hn hm
 -- what is behind the first block
 let rest : List Wd := if e.isEmpty = true then [] else (4, [101, 108, 115, 101], 0) :: (3, [123], 0) :: (tokSs e ++ [(3, [125], 0)])
 have b : Bf s ((4, [105, 102], 0) :: (tokE x ++ (3, [123], 0) :: (tokSs q ++ (3, [125], 0) :: (rest ++ c :: tl)))) o false := by
  have e : tokS (.mk 3 [] noT [] [x] q e []) ++ c :: tl = (4, [105, 102], 0) :: (tokE x ++ (3, [123], 0) :: (tokSs q ++ (3, [125], 0) :: (rest ++ c :: tl))) := by
   show ((4, [105, 102], 0) :: (tokE x ++ (3, [123], 0) :: (tokSs q ++ (3, [125], 0) :: rest))) ++ c :: tl = _
   simp
  rw [← e]
  exact b
 obtain ⟨w, r, hw, h9⟩ := fst_head hx ((3, [123], 0) :: (tokSs q ++ (3, [125], 0) :: (rest ++ c :: tl)))
 have hmu := b.mu
 rw [hw] at b
 obtain ⟨s1, e1, _, b1⟩ := b.yes h9 (T := [105, 102]) (by decide) (bump_not (by decide) (by decide) _)
 rw [← hw] at b1
 have hmu1 := b1.mu
 rw [List.length_cons] at hmu
 obtain ⟨s2, e2, b2⟩ := read_head hE hx hh b1 h0 (by omega) (by omega)
 have hmu2 := b2.mu
 have hsm : mu s2 ≤ n ∧ mu s2 ≤ m := by
  simp only [List.length_append, List.length_cons] at hmu hmu1 hmu2
  omega
 have go : ∀ (c' : Wd) (tl' : List Wd), rest ++ c :: tl = c' :: tl' → c'.1 ≠ 9 → ∃ s3, blockP S m s2 = (q, s3) ∧ Bf s3 (c' :: tl') o false := by
  intro c' tl' hr h9'
  rw [hr] at b2
  exact read_block hS hq (m := m) b2 h9' h0 ho hd hsm.1 hsm.2
 cases e with
 | nil =>
  obtain ⟨s3, e3, b3⟩ := go c tl rfl hc.f.n9
  refine ⟨s3, ?_, b3⟩
  unfold stmtP
  rw [b.no (T := [118, 97, 114]) (by decide)]
  dsimp only
  rw [e1]
  dsimp only
  rw [e2]
  dsimp only
  rw [e3]
  dsimp only
  rw [b3.no hc.els]
 | cons y e =>
  have hr : rest ++ c :: tl = (4, [101, 108, 115, 101], 0) :: ((3, [123], 0) :: (tokSs (y :: e) ++ (3, [125], 0) :: c :: tl)) := by
   show ((4, [101, 108, 115, 101], 0) :: (3, [123], 0) :: (tokSs (y :: e) ++ [(3, [125], 0)])) ++ c :: tl = _
   simp
  obtain ⟨s3, e3, b3⟩ := go _ _ hr (show ¬ (4 : Nat) = 9 by decide)
  have hmu3 := b3.mu
  rw [hr] at hmu2
  simp only [List.length_append, List.length_cons] at hmu2 hmu3
  obtain ⟨s4, e4, _, b4⟩ := b3.yes (show ¬ (3 : Nat) = 9 by decide) (T := [101, 108, 115, 101]) (by decide) (bump_not (by decide) (by decide) _)
  have hmu4 := b4.mu
  simp only [List.length_append, List.length_cons] at hmu4
  obtain ⟨s5, e5, b5⟩ := read_block hS he (m := m) b4 hc.f.n9 h0 ho hd (by omega) (by omega)
  refine ⟨s5, ?_, b5⟩
  unfold stmtP
  rw [b.no (T := [118, 97, 114]) (by decide)]
  dsimp only
  rw [e1]
  dsimp only
  rw [e2]
  dsimp only
  rw [e3]
  dsimp only
  rw [e4]
  dsimp only
  rw [e5]
theorem rds_switch (hE : RdE E (n + 1)) (hS : RdSt S n) {d : Int} (hd : d ≤ 60) {x : ExT} {e : List StT} {cs : List CaT} (hx : OkE (d + 1) x) (hh : headS x = true) (he : ∀ y ∈ e, OkS (d + 1) y) (hi : ∀ c ∈ cs, 0 ≤ c.int ∧ c.int ≤ 18446744073709551615) (hcs : ∀ c ∈ cs, ∀ y ∈ c.body, OkS (d + 2) y) : RdS E S n d (.mk 5 [] noT [] [x] [] e cs) := by
 intro m s c tl o b hc h0 ho hn hm
 let rest : List Wd := if e.isEmpty = true then [] else (4, [100, 101, 102, 97, 117, 108, 116], 0) :: (3, [58], 0) :: tokSs e
 have b : Bf s ((4, [115, 119, 105, 116, 99, 104], 0) :: (tokE x ++ (3, [123], 0) :: (tokCs cs ++ (rest ++ (3, [125], 0) :: c :: tl)))) o false := by
  have e : tokS (.mk 5 [] noT [] [x] [] e cs) ++ c :: tl = (4, [115, 119, 105, 116, 99, 104], 0) :: (tokE x ++ (3, [123], 0) :: (tokCs cs ++ (rest ++ (3, [125], 0) :: c :: tl))) := by
   show ((4, [115, 119, 105, 116, 99, 104], 0) :: (tokE x ++ (3, [123], 0) :: (tokCs cs ++ (rest ++ [(3, [125], 0)])))) ++ c :: tl = _
   simp
  rw [← e]
  exact b
 -- the word behind the cases
 obtain ⟨c1, t1, hr, hc1⟩ : ∃ c1 t1, rest ++ (3, [125], 0) :: c :: tl = c1 :: t1 ∧ (c1 = (3, [125], 0) ∨ c1 = (4, [100, 101, 102, 97, 117, 108, 116], 0)) := by
  cases e with
  | nil => exact ⟨_, _, rfl, .inl rfl⟩
  | cons y e => exact ⟨_, _, rfl, .inr rfl⟩
 obtain ⟨w2, r2, hw2, hf2⟩ := cases_first cs hc1 t1
 obtain ⟨w, r, hw, h9⟩ := fst_head hx ((3, [123], 0) :: (tokCs cs ++ (rest ++ (3, [125], 0) :: c :: tl)))
 have hmu := b.mu
 rw [hw] at b
 obtain ⟨s1, e1, _, b1⟩ := b.yes h9 (T := [115, 119, 105, 116, 99, 104]) (by decide) (bump_not (by decide) (by decide) _)
 rw [← hw] at b1
 have hmu1 := b1.mu
 rw [List.length_cons] at hmu
 obtain ⟨s2, e2, b2⟩ := read_head hE hx hh b1 h0 (by omega) (by omega)
 have hmu2 := b2.mu
 rw [hr, hw2] at b2
 obtain ⟨s3, _, e3, b3⟩ := b2.yes hf2.nine (T := [123]) (by decide) (bump_open (by decide) ⟨h0, by omega⟩)
 rw [← hw2] at b3
 have hmu3 := b3.mu
 rw [hr] at hmu hmu1 hmu2
 simp only [List.length_append, List.length_cons] at hmu hmu1 hmu2 hmu3
 obtain ⟨s4, e4, b4⟩ := read_cases hS (d + 2) m cs hi hcs m s3 c1 t1 (o + 1) b3 hc1 (by omega) (by omega) (by omega) (by omega) (by omega)
 have hmu4 := b4.mu
 rw [List.length_cons] at hmu4
 have fin : ∃ s5, elseP S m s4 = (e, s5) ∧ Bf s5 ((3, [125], 0) :: c :: tl) (o + 1) false := by
  cases e with
  | nil =>
   have hr' : (3, [125], 0) :: c :: tl = c1 :: t1 := hr
   rw [← hr'] at b4
   refine ⟨s4, ?_, b4⟩
   unfold elseP
   rw [b4.no (T := [100, 101, 102, 97, 117, 108, 116]) (by decide)]
  | cons y e =>
   have hr' : (4, [100, 101, 102, 97, 117, 108, 116], 0) :: (3, [58], 0) :: (tokSs (y :: e) ++ (3, [125], 0) :: c :: tl) = c1 :: t1 := hr
   have hl := congrArg List.length hr'
   simp only [List.length_append, List.length_cons] at hl
   rw [← hr'] at b4
   obtain ⟨s5, e5, _, b5⟩ := b4.yes (show ¬ (3 : Nat) = 9 by decide) (T := [100, 101, 102, 97, 117, 108, 116]) (by decide) (bump_not (by decide) (by decide) _)
   obtain ⟨w6, r6, hw6, hf6⟩ := stmts_first he (c := (3, [125], 0)) (.inl rfl) (c :: tl)
   rw [hw6] at b5
   obtain ⟨s6, _, e6, b6⟩ := b5.yes hf6.f.n9 (T := [58]) (by decide) (bump_not (by decide) (by decide) _)
   rw [← hw6] at b6
   have hmu6 := b6.mu
   simp only [List.length_append, List.length_cons] at hmu6
   obtain ⟨s7, e7, b7⟩ := read_stmts hS (d + 1) (y :: e) he m s6 _ _ (o + 1) b6 (.inl rfl) (by omega) (by omega) (by omega) (by omega)
   refine ⟨s7, ?_, b7⟩
   unfold elseP
   rw [e5]
   dsimp only
   rw [e6, e7]
 obtain ⟨s5, e5, b5⟩ := fin
 obtain ⟨s6, _, e6, b6⟩ := b5.yes hc.f.n9 (T := [125]) (by decide) (bump_close (by decide) (by decide) ⟨by omega, by omega⟩)
 rw [show o + 1 - 1 = o by omega] at b6
 refine ⟨s6, ?_, b6⟩
 unfold stmtP
 rw [b.no (T := [118, 97, 114]) (by decide)]
 dsimp only
 rw [b.no (T := [105, 102]) (by decide)]
 dsimp only
 rw [b.no (T := [102, 111, 114]) (by decide)]
 dsimp only
 rw [e1]
 dsimp only
 rw [e2]
 dsimp only
 rw [e3, e4]
 dsimp only
 rw [e5]
 dsimp only
 rw [e6]
theorem rds_all (hE : RdE E (n + 1)) (hS : RdSt S n) {d : Int} {x : StT} (hx : OkS d x) : RdS E S n d x := by
 cases hx with
 | var _ t y hd _ hy => exact rds_var hd hy
 | set _ ls es hd hl he hp hls hes => exact rds_set hE hd hl he hp hls hes
 | iff _ y q e hd hy hh hq he => exact rds_if hE hS hd hy hh hq he
 | fro _ y q hd hy hh hq => exact rds_for hE hS hd hy hh hq
 | swi _ y e cs hd hy hh he hi hcs => exact rds_switch hE hS hd hy hh he hi hcs
 | ret _ es hd he hes => exact rds_ret hE hd he hes
end
theorem ps_stmt : ∀ n : Nat, RdSt (stmtF true n) n
 | 0 => fun _ _ _ _ _ _ _ _ _ _ _ h => absurd h (Nat.not_lt_zero _)
 | n + 1 => fun d x hx s c tl o b hc h0 ho hn => rds_all (pe_expr (n + 1)) (ps_stmt n) hx (n + 1) s c tl o b hc h0 ho (by omega) (by omega)
def OkPa (p : PaT) : Prop := identS p.name = true ∧ OkT p.type
def OkSu (s : SuT) : Prop := identS s.name = true ∧ ∀ f ∈ s.fields, OkPa f
def OkFu (f : FuT) : Prop := identS f.name = true ∧ (∀ p ∈ f.params, OkPa p) ∧ f.results ≠ [] ∧ (∀ t ∈ f.results, OkT t) ∧ ∀ s ∈ f.body, OkS 0 s
def OkPr (p : PrT) : Prop := (∀ s ∈ p.structs, OkSu s) ∧ ∀ f ∈ p.funcs, OkFu f
def tokPa (p : PaT) : List Wd := (1, p.name, 0) :: tokT p.type
def tokFl : List PaT → List Wd
 | [] => []
 | p :: l => tokPa p ++ tokFl l
def tokSu (s : SuT) : List Wd := (4, [116, 121, 112, 101], 0) :: (1, s.name, 0) :: (4, [115, 116, 114, 117, 99, 116], 0) :: (3, [123], 0) :: (tokFl s.fields ++ [(3, [125], 0)])
def tokSus : List SuT → List Wd
 | [] => []
 | s :: l => tokSu s ++ tokSus l
def tokFu (f : FuT) : List Wd := (4, [102, 117, 110, 99], 0) :: (1, f.name, 0) :: (3, [40], 0) :: (comK false (f.params.map tokPa) ++ (3, [41], 0) :: (3, [40], 0) :: (comK false (f.results.map tokT) ++ (3, [41], 0) :: (3, [123], 0) :: (tokSs f.body ++ [(3, [125], 0)])))
def tokFus : List FuT → List Wd
 | [] => []
 | f :: l => tokFu f ++ tokFus l
def tokPr (p : PrT) : List Wd := (4, [112, 97, 99, 107, 97, 103, 101], 0) :: (1, [112], 0) :: (tokSus p.structs ++ tokFus p.funcs)
theorem read_param {p : PaT} (hp : OkPa p) {m : Nat} {s : Ps} {c : Wd} {tl : List Wd} {o : Int} (b : Bf s (tokPa p ++ c :: tl) o false) (hc : c.1 ≠ 9) (h0 : 0 ≤ o) (ho : o ≤ 99) (hm : mu s ≤ m) : ∃ s', paramP m s = (p, s') ∧ Bf s' (c :: tl) o false := by
 have b : Bf s ((1, p.name, 0) :: (tokT p.type ++ c :: tl)) o false := b
 obtain ⟨w, r, hw, hf⟩ := fst_app (fst_type hp.2) (c :: tl)
 rw [hw] at b
 have hmu := b.mu
 obtain ⟨s2, e2, b2⟩ := b.name hf.n9
 have hmu2 := b2.mu
 rw [← hw] at b2
 simp only [List.length_cons] at hmu hmu2
 obtain ⟨s3, e3, b3⟩ := read_type hp.2 m s2 c tl o false b2 hc h0 ho (by omega)
 refine ⟨s3, ?_, b3⟩
 unfold paramP
 rw [e2]
 dsimp only
 rw [e3]
theorem field_eq (k m : Nat) (s : Ps) : fieldL k (m + 1) s = if s.e = 0 ∧ isP s [125] = false then bndP (paramP k s) fun x s1 => bndP (fieldL k m s1) fun l s2 => (x :: l, s2) else ([], s) := rfl
theorem fl_first (l : List PaT) (r : List Wd) : ∃ w t, tokFl l ++ (3, [125], 0) :: r = w :: t ∧ w.1 ≠ 9 := by
 cases l with
 | nil => exact ⟨_, _, rfl, show ¬ (3 : Nat) = 9 by decide⟩
 | cons p l => exact ⟨(1, p.name, 0), _, rfl, show ¬ (1 : Nat) = 9 by decide⟩
theorem read_flds (k : Nat) : ∀ (l : List PaT), (∀ p ∈ l, OkPa p) → ∀ (m : Nat) (s : Ps) (tl : List Wd) (o : Int), Bf s (tokFl l ++ (3, [125], 0) :: tl) o false → 0 ≤ o → o ≤ 99 → mu s ≤ m → mu s ≤ k → ∃ s', fieldL k m s = (l, s') ∧ Bf s' ((3, [125], 0) :: tl) o false
 | [], _, m, s, tl, o, b, _, _, _, _ => by
  have b : Bf s ((3, [125], 0) :: tl) o false := b
  refine ⟨s, ?_, b⟩
  cases m with
  | zero => rfl
  | succ m =>
   rw [field_eq, if_neg]
   rintro ⟨_, h1⟩
   rw [b.is] at h1
   exact absurd h1 (by decide)
 | p :: l, hl, m, s, tl, o, b, h0, ho, hm, hk => by
  obtain ⟨w, r, hw, h9⟩ := fl_first l tl
  have b : Bf s (tokPa p ++ (tokFl l ++ (3, [125], 0) :: tl)) o false := by
   rw [← List.append_assoc]
   exact b
  have b0 : Bf s ((1, p.name, 0) :: (tokT p.type ++ (tokFl l ++ (3, [125], 0) :: tl))) o false := b
  have hmu := b0.mu
  simp only [List.length_append, List.length_cons] at hmu
  obtain ⟨m, rfl⟩ : ∃ j, m = j + 1 := ⟨m - 1, by omega⟩
  rw [hw] at b
  obtain ⟨s1, e1, b1⟩ := read_param (hl p List.mem_cons_self) (m := k) b h9 h0 ho hk
  rw [← hw] at b1
  have hmu1 := b1.mu
  simp only [List.length_append, List.length_cons] at hmu1
  obtain ⟨s2, e2, b2⟩ := read_flds k l (fun q hq => hl q (List.mem_cons_of_mem _ hq)) m s1 tl o b1 h0 ho (by omega) (by omega)
  refine ⟨s2, ?_, b2⟩
  rw [field_eq, if_pos ⟨b0.at'.e, by rw [b0.is]; rfl⟩]
  unfold bndP
  rw [e1]
  dsimp only
  rw [e2]
theorem read_struct {x : SuT} (hx : OkSu x) {m : Nat} {s : Ps} {c : Wd} {tl : List Wd} (b : Bf s ((1, x.name, 0) :: (4, [115, 116, 114, 117, 99, 116], 0) :: (3, [123], 0) :: (tokFl x.fields ++ (3, [125], 0) :: c :: tl)) 0 false) (hc : c.1 ≠ 9) (hm : mu s ≤ m) : ∃ s', structP m s = (x, s') ∧ Bf s' (c :: tl) 0 false := by
 obtain ⟨w, r, hw, h9⟩ := fl_first x.fields (c :: tl)
 have hmu := b.mu
 obtain ⟨s1, e1, b1⟩ := b.name (show ¬ (4 : Nat) = 9 by decide)
 obtain ⟨s2, _, e2, b2⟩ := b1.yes (show ¬ (3 : Nat) = 9 by decide) (T := [115, 116, 114, 117, 99, 116]) (by decide) (bump_not (by decide) (by decide) _)
 rw [hw] at b2
 obtain ⟨s3, _, e3, b3⟩ := b2.yes h9 (T := [123]) (by decide) (bump_open (by decide) ⟨by omega, by omega⟩)
 rw [← hw] at b3
 have hmu3 := b3.mu
 simp only [List.length_append, List.length_cons] at hmu hmu3
 obtain ⟨s4, e4, b4⟩ := read_flds m x.fields hx.2 m s3 _ _ b3 (by omega) (by omega) (by omega) (by omega)
 obtain ⟨s5, _, e5, b5⟩ := b4.yes hc (T := [125]) (by decide) (bump_close (by decide) (by decide) ⟨by omega, by omega⟩)
 refine ⟨s5, ?_, b5⟩
 unfold structP
 rw [e1]
 dsimp only
 rw [e2, e3, e4]
 dsimp only
 rw [e5]
theorem param_eq (k m : Nat) (s : Ps) : paramL k (m + 1) s = bndP (paramP k s) fun x s1 => bndP (gotP s1 [44]) fun b s2 => if b = true then bndP (paramL k m s2) fun l s3 => (x :: l, s3) else ([x], s2) := by
 conv => lhs; unfold paramL
 unfold Proofs.YtfaoamebphckbaaGreatDoor.bndP
 rcases paramP k s with ⟨x, s1⟩
 dsimp only
 rcases gotP s1 [44] with ⟨_ | _, s2⟩ <;> rfl
theorem type_eq (k m : Nat) (s : Ps) : typeL k (m + 1) s = bndP (typP k s) fun x s1 => bndP (gotP s1 [44]) fun b s2 => if b = true then bndP (typeL k m s2) fun l s3 => (x :: l, s3) else ([x], s2) := by
 conv => lhs; unfold typeL
 unfold Proofs.YtfaoamebphckbaaGreatDoor.bndP
 rcases typP k s with ⟨x, s1⟩
 dsimp only
 rcases gotP s1 [44] with ⟨_ | _, s2⟩ <;> rfl
theorem read_row {α : Type} (tok : α → List Wd) (ok : α → Prop) (rd : Ps → α × Ps) (L : Nat → Ps → List α × Ps) (hL : ∀ m s, L (m + 1) s = bndP (rd s) fun x s1 => bndP (gotP s1 [44]) fun b s2 => if b = true then bndP (L m s2) fun l s3 => (x :: l, s3) else ([x], s2)) (k : Nat) (hf : ∀ x, ok x → ∃ w l, tok x = w :: l ∧ w.1 ≠ 9)
 (o : Int) (hrd : ∀ x, ok x → ∀ (s : Ps) (c : Wd) (tl : List Wd), Bf s (tok x ++ c :: tl) o false → c.1 ≠ 9 → mu s ≤ k → ∃ s', rd s = (x, s') ∧ Bf s' (c :: tl) o false) :
 ∀ (l : List α), l ≠ [] → (∀ x ∈ l, ok x) → ∀ (m : Nat) (s : Ps) (tl : List Wd), Bf s (comK false (l.map tok) ++ (3, [41], 0) :: tl) o false → mu s ≤ m → mu s ≤ k → ∃ s', L m s = (l, s') ∧ Bf s' ((3, [41], 0) :: tl) o false
 | [], h, _, _, _, _, _, _, _ => absurd rfl h
 | x :: l, _, hl, m, s, tl, b, hm, hk => by
  have hx := hl x List.mem_cons_self
  have hb : comK false ((x :: l).map tok) ++ (3, [41], 0) :: tl = tok x ++ (comK true (l.map tok) ++ (3, [41], 0) :: tl) := by
   rw [List.map_cons, comK_cons, if_neg (by decide), List.nil_append, List.append_assoc]
  rw [hb] at b
  have hmu := b.mu
  simp only [List.length_append, List.length_cons] at hmu
  obtain ⟨m, rfl⟩ : ∃ j, m = j + 1 := ⟨m - 1, by omega⟩
  rw [hL]
  cases l with
  | nil =>
   have b : Bf s (tok x ++ (3, [41], 0) :: tl) o false := b
   obtain ⟨s1, e1, b1⟩ := hrd x hx s _ _ b (show ¬ (3 : Nat) = 9 by decide) hk
   refine ⟨s1, ?_, b1⟩
   unfold bndP
   rw [e1]
   dsimp only
   rw [b1.no (T := [44]) (by decide)]
   rfl
  | cons y l =>
   have e : comK true ((y :: l).map tok) ++ (3, [41], 0) :: tl = (3, [44], 0) :: (comK false ((y :: l).map tok) ++ (3, [41], 0) :: tl) := by
    rw [List.map_cons, comK_cons, comK_cons, if_pos rfl, if_neg (by decide)]
    rfl
   rw [e] at b
   have hmu1 := b.mu
   simp only [List.length_append, List.length_cons] at hmu1
   obtain ⟨s1, e1, b1⟩ := hrd x hx s _ _ b (show ¬ (3 : Nat) = 9 by decide) hk
   obtain ⟨w2, l2, hw2, h9⟩ := hf y (hl y (by simp))
   have hc2 : comK false ((y :: l).map tok) ++ (3, [41], 0) :: tl = w2 :: (l2 ++ (comK true (l.map tok) ++ (3, [41], 0) :: tl)) := by
    rw [List.map_cons, comK_cons, if_neg (by decide), List.nil_append, List.append_assoc, hw2]
    rfl
   rw [hc2] at b1
   obtain ⟨s2, g2, _, b2⟩ := b1.yes h9 (T := [44]) (by decide) (bump_not (by decide) (by decide) o)
   rw [← hc2] at b2
   have hmu2 := b2.mu
   simp only [List.length_append, List.length_cons] at hmu2
   obtain ⟨s3, e3, b3⟩ := read_row tok ok rd L hL k hf o hrd (y :: l) (by simp) (fun z hz => hl z (List.mem_cons_of_mem _ hz)) m s2 tl b2 (by omega) (by omega)
   refine ⟨s3, ?_, b3⟩
   unfold bndP
   rw [e1]
   dsimp only
   rw [g2]
   dsimp only
   rw [if_pos rfl, e3]
theorem row_first {α : Type} (tok : α → List Wd) {l : List α} (hf : ∀ x ∈ l, ∃ w t, tok x = w :: t ∧ w.1 ≠ 9) (tl : List Wd) : ∃ w t, comK false (l.map tok) ++ (3, [41], 0) :: tl = w :: t ∧ w.1 ≠ 9 := by
 cases l with
 | nil => exact ⟨_, _, rfl, show ¬ (3 : Nat) = 9 by decide⟩
 | cons x l =>
  obtain ⟨w, t, e, h⟩ := hf x List.mem_cons_self
  refine ⟨w, t ++ (comK true (l.map tok) ++ (3, [41], 0) :: tl), ?_, h⟩
  rw [List.map_cons, comK_cons, if_neg (by decide), List.nil_append, List.append_assoc, e]
  rfl
end Go.Proofs.YtfaoamebphckbaaGreatDoor
namespace Go.Proofs.YtfaoamebphckbaaGreatDoor
open Go.RowKit Go.Av Go.Ab
set_option linter.unusedSimpArgs false
set_option linter.unusedVariables false
set_option maxRecDepth 100000
set_option linter.defProp false
def c50 := by
 have c := KK_of Tryz.f50 (by conv => lhs; cbv)
 dsimp only [KK, KxP, doO, opO, List.map_cons, List.map_nil, List.toList_toArray] at c
 exact c
theorem b50 : FnIs Tryz.prog 50 Tryz.f50 13 := ⟨Tryz.func50, by kernel_rfl⟩
def c15 := by
 have c := KK_of Tryz.f15 (by conv => lhs; cbv)
 dsimp only [KK, KxP, doO, opO, List.map_cons, List.map_nil, List.toList_toArray] at c
 exact c
theorem b15 : FnIs Tryz.prog 15 Tryz.f15 77 := ⟨Tryz.func15, by kernel_rfl⟩
set_option maxHeartbeats 1000000 in
theorem param_pw {x : PaT} (h : OkPa x) : PW 50 [paV x] fun _ => paT x := by
 intro i t s k B T hin htm hk hb
 obtain ⟨N, hn⟩ : ∃ N, B.length = N := ⟨_, rfl⟩
 obtain ⟨a, ha⟩ : ∃ a, s ++ (x.name ++ [32] ++ typT x.type) = a := ⟨_, rfl⟩
 have hty : paT x = x.name ++ [32] ++ typT x.type := rfl
 dsimp only at hb ⊢
 rw [hty] at hb ⊢
 rw [ha]
 simp only [lnw] at hb
 unfold paV
 refine b50.go 60 rfl fun _ => ?_
 simp only [W, seval, c50, hin, htm, hn, mapD_nil, mapD_cons]
 refine (put2 x.name [32]).callJ hin htm hk ?_ fun s1 h_s1 => ?_
 ·try simp only [lnw]
  omega
 have hl_s1 := congrArg List.length h_s1
 simp only [lnw] at hl_s1
 refine ARun.go 40 ?_
 simp only [W, seval, c50, hin, htm, hn]
 refine (typ_pw h.2).callJ hin htm hk ?_ fun s2 h_s2 => ?_
 ·try simp only [lnw]
  omega
 have hl_s2 := congrArg List.length h_s2
 simp only [lnw] at hl_s2
 refine ARun.go 20 ?_
 simp only [W, seval, c50]
 refine ARun.fin Tryz.func50 rfl (PW.retJ hin htm ?_)
 subst h_s1 h_s2 ha
 exact ⟨rfl, by simp⟩
theorem flT_drop (l : List PaT) (j : Nat) (h : j < l.length) : flT (l.drop j) = [9] ++ paT l[j] ++ [10] ++ flT (l.drop (j + 1)) := by
 rw [List.drop_eq_getElem_cons h, flT]
theorem suTs_drop (l : List SuT) (j : Nat) (h : j < l.length) : suTs (l.drop j) = sutT l[j] ++ suTs (l.drop (j + 1)) := by
 rw [List.drop_eq_getElem_cons h, suTs]
theorem fuTs_drop (l : List FuT) (j : Nat) (h : j < l.length) : fuTs (l.drop j) = fuT l[j] ++ fuTs (l.drop (j + 1)) := by
 rw [List.drop_eq_getElem_cons h, fuTs]
theorem app3w {α : Type} (A : List α) (a b c : α) : A ++ [a, b, c] = (A ++ [a, b]) ++ [c] := by simp
def prL (p : PrT) : List V := [.d (.sl (p.structs.map suD)), .d (.sl (p.funcs.map fuD))]
set_option maxHeartbeats 4000000 in
theorem funcs_run {p : PrT} (hp : OkPr p) {i t N : Nat} {s s0 a : List UInt8} {B : List (List V)} {T : List (Nat × Nat)} (hn : B.length = N) (hin : i < B.length) (htm : t < T.length) (ha : s ++ fuTs p.funcs = a) (hal : a.length ≤ mostW) (hlen : p.funcs.length ≤ 9223372036854775807) :
 ARun Tryz.prog TabI (N, T.length) 15 [.code (kF Tryz.f15 44)] (envS 77 [(0, .ptr i 0), (3, .ptr N 0)]) ⟨B.set i (bxW i t s 0) ++ [prL p], T.set t (s.length, 1)⟩ (Ab.Left ⟨B.set i (bxW i t s0 0), T.set t (s0.length, 1)⟩ (Same (.tup []) ⟨B.set i (bxW i t a 0), T.set t (a.length, 1)⟩)) := by
 have hk : 0 ≤ 900 := by omega
 have hk00 : (((0 : Nat) : Int) ≤ 0 ∧ 0 ≤ 800) := by omega
 have hin' : i < N := by omega
 unfold prL
 refine ARun.go 10 ?_
 simp only [W, seval, c15, hn, hin', hin]
 refine ARun.fits fun hf => ?_
 refine ARun.loopB (fun p' : Nat × List UInt8 => (envS 77 [(0, .ptr i 0), (3, .ptr N 0), (47, .d (.sl (p.funcs.map fuD))), (48, .d (.int .i64 (p.funcs.length : Int))), (49, .d (.int .i64 (p'.1 : Int)))], ⟨B.set i (bxW i t p'.2 0) ++ [[.d (.sl (p.structs.map suD)), .d (.sl (p.funcs.map fuD))]], T.set t (p'.2.length, 1)⟩)) (fun p' => p'.1 ≤ p.funcs.length ∧ p'.2 ++ fuTs (p.funcs.drop p'.1) = a) (fun p' => p.funcs.length - p'.1) (0, s) ⟨by simp, ha⟩ ?_ rfl ?_
 ·skip
  refine Agree.env _ ?_
  simp only [agw, seval, hn]
 rintro ⟨j, s1⟩ ⟨h1, h2⟩ ih
 dsimp only at h1 h2 ih ⊢
 by_cases hlt : j < p.funcs.length
 case neg =>
  have e1 : decide ((j : Int) < (p.funcs.length : Int)) = false := decide_eq_false (by omega)
  rw [List.drop_eq_nil_of_le (by omega), fuTs, List.append_nil] at h2
  subst h2
  refine ARun.go 60 ?_
  simp only [W, seval, c15, e1]
  refine ARun.fin Tryz.func15 rfl (PW.retJ hin htm ?_)
  exact ⟨rfl, rfl⟩
 have e1 : decide ((j : Int) < (p.funcs.length : Int)) = true := decide_eq_true (by omega)
 have hga := List.getElem?_eq_getElem hlt
 have hfx := hp.2 p.funcs[j] (List.getElem_mem hlt)
 rw [fuTs_drop p.funcs j hlt] at h2
 obtain ⟨f, hf'⟩ : ∃ f, p.funcs[j] = f := ⟨_, rfl⟩
 rw [hf'] at hga h2 hfx
 have hfl : (fuT f).length = 6 + f.name.length + 1 + (comT (f.params.map paT)).length + 1 + (2 + (comT (f.results.map typT)).length + 4) + (stTs 1 f.body).length + 2 := by
  unfold fuT
  simp
  omega
 have h2l := congrArg List.length h2
 simp only [lnw] at h2l
 rw [hfl] at h2l
 have hb1 : f.name.length + 6 ≤ 9223372036854775807 := by unfold mostW at hal; omega
 have hb2 : 6 + f.name.length ≤ 9223372036854775807 := by omega
 have hb3 : 6 + f.name.length + 1 ≤ 9223372036854775807 := by unfold mostW at hal; omega
 have hb4 : f.name.length + 6 + 1 ≤ 9223372036854775807 := by omega
 refine ARun.go 60 ?_
 simp only [W, seval, c15, e1, hn, hin', List.getElem?_map, hga, fuD_eq, hb1, hb2, hb3, hb4]
 refine (list_Param_pl (g := 50) (tx := paT) (fun x hx => param_pw (hfx.2.1 x hx)) ([10, 102, 117, 110, 99, 32] ++ f.name ++ [40]) [41]).callJ hin htm hk ?_ fun s2 h_s2 => ?_
 ·try simp only [lnw]
  omega
 have hl_s2 := congrArg List.length h_s2
 simp only [lnw] at hl_s2
 refine ARun.go 40 ?_
 simp only [W, seval, c15, hn, hin', hin]
 refine (list_Type_pl (g := 46) (tx := typT) (fun x hx => typ_pw (hfx.2.2.2.1 x hx)) [32, 40] [41, 32, 123, 10]).callJ hin htm hk ?_ fun s3 h_s3 => ?_
 ·try simp only [lnw]
  omega
 have hl_s3 := congrArg List.length h_s3
 simp only [lnw] at hl_s3
 refine ARun.go 40 ?_
 simp only [W, seval, c15, hn, hin', hin]
 have h01 : (stTs (0 + 1) f.body).length = (stTs 1 f.body).length := rfl
 refine (PWS.block (d := 0) (fun x hx => stmt_ps (hfx.2.2.2.2 x hx))).callJ hin htm hk00 ?_ fun s4 h_s4 => ?_
 ·try simp only [lnw]
  omega
 have hl_s4 := congrArg List.length h_s4
 simp only [lnw] at hl_s4
 refine ARun.go 40 ?_
 simp only [W, seval, c15, hn, hin', mapD_nil, mapD_cons]
 refine (put1 [125, 10]).callJ hin htm hk ?_ fun s5 h_s5 => ?_
 ·try simp only [lnw]
  omega
 have hl_s5 := congrArg List.length h_s5
 simp only [lnw] at hl_s5
 have h5 : s5 ++ fuTs (p.funcs.drop (j + 1)) = a := by rw [← h2, ← h_s5, ← h_s4, ← h_s3, ← h_s2]; simp [fuT]
 have hwj := wrap_in ((j : Int) + 1) (by omega)
 refine ARun.go 60 ?_
 simp only [W, seval, c15, hwj]
 rw [app2]
 refine ih (j + 1, s5) ⟨by dsimp only; omega, h5⟩ (by dsimp only; omega) _ _ _ _ rfl ⟨by simp [hn], by simp⟩ (fitsJ hin htm hf) ?_
 refine AgreeF.env _ ?_
 simp only [agf, seval, hn, htm]
 refine ⟨decide_eq_true ?_, decide_eq_true ?_⟩
 all_goals
  simp only [List.length_append, List.length_set, List.length_cons, List.length_nil, hn]
  omega
theorem flT_len : ∀ l : List PaT, l.length ≤ (flT l).length
 | [] => Nat.zero_le _
 | p :: l => by
  have := flT_len l
  simp only [flT, List.length_append, List.length_cons, List.length_nil]
  omega
set_option maxHeartbeats 8000000 in
theorem structs_run {p : PrT} (hp : OkPr p) {i t N : Nat} {s s0 a : List UInt8} {B : List (List V)} {T : List (Nat × Nat)} (hn : B.length = N) (hin : i < B.length) (htm : t < T.length) (ha : s ++ suTs p.structs ++ fuTs p.funcs = a) (hal : a.length ≤ mostW) (hlen : p.funcs.length ≤ 9223372036854775807) (hlen2 : p.structs.length ≤ 9223372036854775807) :
 ARun Tryz.prog TabI (N, T.length) 15 [.code (kF Tryz.f15 8), .inBlock 0, .code (kF Tryz.f15 44)] (envS 77 [(0, .ptr i 0), (3, .ptr N 0), (14, .d (.sl (p.structs.map suD))), (15, .d (.int .i64 (p.structs.length : Int))), (16, .d (.int .i64 0))]) ⟨B.set i (bxW i t s 0) ++ [prL p], T.set t (s.length, 1)⟩ (Ab.Left ⟨B.set i (bxW i t s0 0), T.set t (s0.length, 1)⟩ (Same (.tup []) ⟨B.set i (bxW i t a 0), T.set t (a.length, 1)⟩)) := by
 have hk : 0 ≤ 900 := by omega
 have hin' : i < N := by omega
 unfold prL
 refine ARun.go 3 ?_
 simp only [W, seval, c15, hn]
 refine ARun.fits fun hf => ?_
 refine ARun.loopB (fun p' : Nat × List UInt8 => (envS 77 [(0, .ptr i 0), (3, .ptr N 0), (14, .d (.sl (p.structs.map suD))), (15, .d (.int .i64 (p.structs.length : Int))), (16, .d (.int .i64 (p'.1 : Int)))], ⟨B.set i (bxW i t p'.2 0) ++ [[.d (.sl (p.structs.map suD)), .d (.sl (p.funcs.map fuD))]], T.set t (p'.2.length, 1)⟩)) (fun p' => p'.1 ≤ p.structs.length ∧ p'.2 ++ suTs (p.structs.drop p'.1) ++ fuTs p.funcs = a) (fun p' => p.structs.length - p'.1) (0, s) ⟨by simp, ha⟩ ?_ rfl ?_
 ·skip
  refine Agree.env _ ?_
  simp only [agw, seval, hn]
 rintro ⟨j, s1⟩ ⟨h1, h2⟩ ih
 dsimp only at h1 h2 ih ⊢
 by_cases hlt : j < p.structs.length
 case neg =>
  have e1 : decide ((j : Int) < (p.structs.length : Int)) = false := decide_eq_false (by omega)
  rw [List.drop_eq_nil_of_le (by omega), suTs, List.append_nil] at h2
  refine ARun.go 7 ?_
  simp only [W, seval, c15, e1]
  refine ARun.weak (env' := envS 77 [(0, .ptr i 0), (3, .ptr N 0)]) ?_ (funcs_run hp hn hin htm h2 hal hlen)
  refine Agree.env _ ?_
  simp only [agw, seval]
 have e1 : decide ((j : Int) < (p.structs.length : Int)) = true := decide_eq_true (by omega)
 have hwj := wrap_in ((j : Int) + 1) (by omega)
 have hga := List.getElem?_eq_getElem hlt
 have hfx := hp.1 p.structs[j] (List.getElem_mem hlt)
 rw [suTs_drop p.structs j hlt] at h2
 obtain ⟨f, hf'⟩ : ∃ f, p.structs[j] = f := ⟨_, rfl⟩
 rw [hf'] at hga h2 hfx
 have hfl : (sutT f).length = 6 + f.name.length + 10 + (flT f.fields).length + 2 := by
  unfold sutT
  simp
  omega
 have h2l := congrArg List.length h2
 simp only [lnw] at h2l
 rw [hfl] at h2l
 have hfll := flT_len f.fields
 have hfl9 : f.fields.length ≤ 9000000000000 := by unfold mostW at hal; omega
 refine ARun.go 60 ?_
 simp only [W, seval, c15, e1, hn, hin', List.getElem?_map, hga, suD_eq, mapD_nil, mapD_cons]
 refine (put3 [10, 116, 121, 112, 101, 32] f.name [32, 115, 116, 114, 117, 99, 116, 32, 123, 10]).callJ hin htm hk ?_ fun s2 h_s2 => ?_
 ·try simp only [lnw]
  omega
 have hl_s2 := congrArg List.length h_s2
 simp only [lnw] at hl_s2
 have h3 : s2 ++ flT f.fields ++ ([125, 10] ++ suTs (p.structs.drop (j + 1)) ++ fuTs p.funcs) = a := by rw [← h2, ← h_s2]; simp [sutT]
 refine ARun.go 40 ?_
 simp only [W, seval, c15, hn, hin', hin]
 refine ARun.fits fun hg => ?_
 refine ARun.loopB (fun p' : Nat × List UInt8 => (envS 77 [(0, .ptr i 0), (3, .ptr N 0), (5, .ptr (N + 1) 0), (14, .d (.sl (p.structs.map suD))), (15, .d (.int .i64 (p.structs.length : Int))), (16, .d (.int .i64 (j : Int))), (26, .d (.sl (f.fields.map paD))), (27, .d (.int .i64 (f.fields.length : Int))), (28, .d (.int .i64 (p'.1 : Int)))], ⟨B.set i (bxW i t p'.2 0) ++ [[.d (.sl (p.structs.map suD)), .d (.sl (p.funcs.map fuD))], [.d (.str f.name), .d (.sl (f.fields.map paD))]], T.set t (p'.2.length, 1)⟩)) (fun p' => p'.1 ≤ f.fields.length ∧ p'.2 ++ flT (f.fields.drop p'.1) ++ ([125, 10] ++ suTs (p.structs.drop (j + 1)) ++ fuTs p.funcs) = a) (fun p' => f.fields.length - p'.1) (0, s2) ⟨by simp, h3⟩ ?_ rfl ?_
 ·skip
  refine Agree.env _ ?_
  simp only [agw, seval, hn]
 rintro ⟨q, s3⟩ ⟨g1, g2⟩ ihq
 dsimp only at g1 g2 ihq ⊢
 by_cases hlq : q < f.fields.length
 case neg =>
  have e2 : decide ((q : Int) < (f.fields.length : Int)) = false := decide_eq_false (by omega)
  rw [List.drop_eq_nil_of_le (by omega), flT, List.append_nil] at g2
  have g2l := congrArg List.length g2
  simp only [lnw] at g2l
  refine ARun.go 60 ?_
  simp only [W, seval, c15, e2, hn, hin', mapD_nil, mapD_cons]
  refine (put1 [125, 10]).callJ hin htm hk ?_ fun s4 h_s4 => ?_
  ·try simp only [lnw]
   omega
  have hl_s4 := congrArg List.length h_s4
  simp only [lnw] at hl_s4
  have h5 : s4 ++ suTs (p.structs.drop (j + 1)) ++ fuTs p.funcs = a := by rw [← g2, ← h_s4]; simp
  refine ARun.go 60 ?_
  simp only [W, seval, c15, hwj]
  rw [app2]
  refine ih (j + 1, s4) ⟨by dsimp only; omega, h5⟩ (by dsimp only; omega) _ _ _ _ rfl ⟨by simp [hn], by simp⟩ (fitsJ hin htm hf) ?_
  refine AgreeF.env _ ?_
  simp only [agf, seval, hn, htm]
  refine ⟨decide_eq_true ?_, decide_eq_true ?_⟩
  all_goals
   simp only [List.length_append, List.length_set, List.length_cons, List.length_nil, hn]
   omega
 have e2 : decide ((q : Int) < (f.fields.length : Int)) = true := decide_eq_true (by omega)
 have hwq := wrap_in ((q : Int) + 1) (by omega)
 have hgq := List.getElem?_eq_getElem hlq
 have hfq := hfx.2 f.fields[q] (List.getElem_mem hlq)
 rw [flT_drop f.fields q hlq] at g2
 obtain ⟨x, hx⟩ : ∃ x, f.fields[q] = x := ⟨_, rfl⟩
 rw [hx] at hgq g2 hfq
 have g2l := congrArg List.length g2
 simp only [lnw] at g2l
 refine ARun.go 60 ?_
 simp only [W, seval, c15, e2, hn, hin', List.getElem?_map, hgq, paD_eq, mapD_nil, mapD_cons]
 refine (put1 [9]).callJ hin htm hk ?_ fun s4 h_s4 => ?_
 ·try simp only [lnw]
  omega
 have hl_s4 := congrArg List.length h_s4
 simp only [lnw] at hl_s4
 refine ARun.go 40 ?_
 simp only [W, seval, c15, hn, hin', hin]
 refine (param_pw hfq).callJ hin htm hk ?_ fun s5 h_s5 => ?_
 ·try simp only [lnw]
  omega
 have hl_s5 := congrArg List.length h_s5
 simp only [lnw] at hl_s5
 refine ARun.go 40 ?_
 simp only [W, seval, c15, hn, hin', mapD_nil, mapD_cons]
 refine (put1 [10]).callJ hin htm hk ?_ fun s6 h_s6 => ?_
 ·try simp only [lnw]
  omega
 have hl_s6 := congrArg List.length h_s6
 simp only [lnw] at hl_s6
 have h7 : s6 ++ flT (f.fields.drop (q + 1)) ++ ([125, 10] ++ suTs (p.structs.drop (j + 1)) ++ fuTs p.funcs) = a := by rw [← g2, ← h_s6, ← h_s5, ← h_s4]; simp
 refine ARun.go 60 ?_
 simp only [W, seval, c15, hwq]
 rw [app3w]
 refine ihq (q + 1, s6) ⟨by dsimp only; omega, h7⟩ (by dsimp only; omega) _ _ _ _ rfl ⟨by simp [hn], by simp⟩ (fitsJ hin htm hg) ?_
 refine AgreeF.env _ ?_
 simp only [agf, seval, hn, htm]
 refine ⟨decide_eq_true ?_, decide_eq_true ?_, decide_eq_true ?_⟩
 all_goals
  simp only [List.length_append, List.length_set, List.length_cons, List.length_nil, hn]
  omega
set_option maxHeartbeats 4000000 in
theorem prog_pk {p : PrT} (hp : OkPr p) : PK (fun k => k = 0) 15 [prV p] fun _ => prT' p := by
 intro i t s k B T hin htm hk0 hb
 obtain rfl : k = 0 := hk0
 have hk : 0 ≤ 900 := by omega
 obtain ⟨N, hn⟩ : ∃ N, B.length = N := ⟨_, rfl⟩
 have hin' : i < N := by omega
 have hty : prT' p = [112, 97, 99, 107, 97, 103, 101, 32, 112, 10] ++ suTs p.structs ++ fuTs p.funcs := rfl
 dsimp only at hb ⊢
 rw [hty] at hb ⊢
 obtain ⟨a, ha⟩ : ∃ a, s ++ ([112, 97, 99, 107, 97, 103, 101, 32, 112, 10] ++ suTs p.structs ++ fuTs p.funcs) = a := ⟨_, rfl⟩
 rw [ha]
 have hal : a.length ≤ mostW := by
  rw [← ha]
  simpa using hb
 simp only [lnw] at hb
 unfold prV
 refine b15.go 20 rfl fun hsm => ?_
 simp only [smw] at hsm
 simp only [W, seval, c15, hin, htm, hn, mapD_nil, mapD_cons]
 refine (put1 [112, 97, 99, 107, 97, 103, 101, 32, 112, 10]).callJ hin htm hk ?_ fun s1 h_s1 => ?_
 ·try simp only [lnw]
  omega
 have hl_s1 := congrArg List.length h_s1
 simp only [lnw] at hl_s1
 have h1 : s1 ++ suTs p.structs ++ fuTs p.funcs = a := by rw [← ha, ← h_s1]; simp
 refine ARun.go 10 ?_
 simp only [W, seval, c15, hin, htm, hn, hin']
 refine ARun.weak (env' := envS 77 [(0, .ptr i 0), (3, .ptr N 0), (14, .d (.sl (p.structs.map suD))), (15, .d (.int .i64 (p.structs.length : Int))), (16, .d (.int .i64 0))]) ?_ (structs_run hp hn hin htm h1 hal (by omega) (by omega))
 refine Agree.env _ ?_
 simp only [agw, seval]
end Go.Proofs.YtfaoamebphckbaaGreatDoor
