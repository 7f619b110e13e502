/- GoparseRight: what is parsed may be; an expression in parentheses, or returned by a function, is the same one; for any bytes and number, no condition. Part 4 of 5 of the proof. -/
import Derived.Test.YtnnnhlkmdnacaaaGreatDoorGoparseRightc
import Derived.ProofKit
import Derived.Shelf.Strings.Repeat
namespace Go.Proofs.YtnnnhlkmdnacaaaGreatDoor
open Go.RowKit Go.Av Go.Ab
set_option linter.unusedSimpArgs false
set_option maxRecDepth 100000
set_option linter.defProp false
def c6 := by
 have c := KK_of Tryz.f6 (by conv => lhs; cbv)
 dsimp only [KK, KxP, doO, opO, List.map_cons, List.map_nil, List.toList_toArray] at c
 exact c
theorem b6 : FnIs Tryz.prog 6 Tryz.f6 56 := ⟨Tryz.func6, by kernel_rfl⟩
def c22 := by
 have c := KK_of Tryz.f22 (by conv => lhs; cbv)
 dsimp only [KK, KxP, doO, opO, List.map_cons, List.map_nil, List.toList_toArray] at c
 exact c
theorem b22 : FnIs Tryz.prog 22 Tryz.f22 4 := ⟨Tryz.func22, by kernel_rfl⟩
section
variable {bs : List UInt8} {f : FuncId} {ar : List V} {s s' : Ps} {v : V} {N : Nat} {B : List (List V)} {T : List (Nat × Nat)} {Z O : List V} {env : List V}
theorem setP3 (hn : B.length = N) (X Y : List V) : (B ++ [Z, O, Y]).set (N + 2) X = B ++ [Z, O, X] := by
 rw [List.set_append_right _ _ (by omega), hn, Nat.add_sub_cancel_left]
 rfl
theorem PP.fnP (h : PP bs f ar s v s') (hn : B.length = N) (hok : OkP bs s) : AFn Tryz.prog TabI f (.ptr (N + 2) 0 :: ar) ⟨B ++ [Z, O, bxP bs s], T⟩ fun v' m => v' = v ∧ OkP bs s' ∧ m = ⟨B ++ [Z, O, bxP bs s'], T⟩ := by
 have := h (N + 2) (B ++ [Z, O, []]) T 0 (by simp; omega) hok
 simp only [setP3 hn] at this
 refine this.mono ?_
 rintro v' m ⟨h1, _, h2, h3⟩
 exact ⟨h1, h2, h3⟩
theorem PP.callP {stop : Cont} {k : List Item} {d : Option Tmp} (h : PP bs f ar s v s') (hn : B.length = N) (hok : OkP bs s) (hk : OkP bs s' → stop k (setV env d v) ⟨B ++ [Z, O, bxP bs s'], T⟩) : callS Tryz.prog TabI stop (.func f [] []) (.ptr (N + 2) 0 :: ar) k d env ⟨B ++ [Z, O, bxP bs s], T⟩ :=
 callS_fn (PP.fnP h hn hok) fun _ _ ⟨e1, h2, e3⟩ => by rw [e1, e3]; exact hk h2
theorem PP.witP {z : Nat × Nat} {fn : FuncId} {k : List Item} {R : V → Mem → Prop} (h : PP bs f ar s v s') (hn : B.length = N) (hok : OkP bs s) (ha : ∀ x ∈ V.ptr (N + 2) 0 :: ar, ∃ y : Operand, evalV TabI env y = x) (hk : OkP bs s' → ARun Tryz.prog TabI z fn k env ⟨B ++ [Z, O, bxP bs s], T⟩ R) : ARun Tryz.prog TabI z fn k env ⟨B ++ [Z, O, bxP bs s], T⟩ R :=
 ARun.witness (PP.fnP h hn hok) ha fun ⟨_, _, _, hok', _⟩ => hk hok'
theorem PP.lexcP {W : List Nat} {MM : Mem → Prop} {K : List V → Mem → Prop} {o : Oper} {l : List Oper} {k : Nat} (h : PP bs f ar s v s') (hn : B.length = N) (hok : OkP bs s) (hok' : OkP bs s') (hS : MM ⟨B ++ [Z, O, bxP bs s], T⟩) (hk : W.contains k = true) (hg : o.guard = none)
 (h1 : ∃ q f0, o.op = .call q ∧ q.callee = .value f0 ∧ evalV TabI env f0 = .func f [] [] ∧ q.args.toList.map (evalV TabI env) = .ptr (N + 2) 0 :: ar) (h5 : lexC Tryz.prog TabI W MM K l (k + 1) (setV env o.dst v) ⟨B ++ [Z, O, bxP bs s'], T⟩) : lexC Tryz.prog TabI W MM K (o :: l) k env ⟨B ++ [Z, O, bxP bs s], T⟩ := by
 obtain ⟨q, f0, e1, e2, e3, e4⟩ := h1
 refine lexC_c (Q := fun v' m => v' = v ∧ OkP bs s' ∧ m = ⟨B ++ [Z, O, bxP bs s'], T⟩) hS hk hg e1 e2 e3 ⟨_, _, rfl, hok', rfl⟩ ?_ ?_
 ·rw [e4, List.nil_append, List.append_nil]
  exact PP.fnP h hn hok
 ·rintro v' S' ⟨rfl, _, rfl⟩
  exact h5
end
theorem haP {c : Nat} {env : List V} (q : Tmp) (h : evalV TabI env (.tmp q) = .ptr c 0) : ∀ x ∈ [V.ptr c 0], ∃ y : Operand, evalV TabI env y = x := by
 intro x hx
 obtain rfl := List.mem_singleton.1 hx
 exact ⟨_, h⟩
theorem retc2 {I : Inv} {z : Nat × Nat} {fn : FuncId} {R : V → Mem → Prop} {k : List Item} {env : List V} {S : Mem} {P : Program} {f : Func} {v : V} {a b : Nat} {t : TypeId} (hf : P.funcs[fn]? = some f) (hr : f.results.toList = [.cell a t, .tmp b]) (hv : opLoad P S t (env.getD a .undef) = some v) (hR : R (.tup [v, env.getD b .undef]) S) : ARun P I z fn (.code .ret :: k) env S R :=
 ARun.ret hf (by
  have h1 : resV1 P S env (.cell a t) = some v := hv
  rw [hr]
  simp only [resV, h1]
  rfl) hR
def finP (rg : PrT → Bool) (n : Nat) (s : Ps) : PrT × Int := if endP (progP true n s).2 (rg (progP true n s).1) = 0 then ((progP true n s).1, 0) else (⟨[], []⟩, endP (progP true n s).2 (rg (progP true n s).1))
theorem su1 (x : SuT) : rowsSz 2 [suD x] = true := rowsSz_su [x]
theorem fu1 (x : FuT) : rowsSz 4 [fuD x] = true := rowsSz_fu [x]
def prT (p : PrT) (t : Nat) : List V := [.sl (p.structs.map suD) (.own t), .sl (p.funcs.map fuD) (.own (t + 1))]
set_option maxHeartbeats 8000000 in
theorem parse_ab (bs : List UInt8) (h0 : True) (hl : bs.length ≤ 100000) (n : Nat) (hn1 : bs.length + 5 ≤ n) (hS : SOk bs (stmtF true n) n) (rg : PrT → Bool) (hR : ∀ p B T, AFn Tryz.prog TabI 9 [prV p] ⟨B, T⟩ (Same (.d (.bool (rg p))) ⟨B, T⟩)) (B : List (List V)) (T : List (Nat × Nat)) :
 AFn Tryz.prog TabI 6 [.d (.sl (byD bs))] ⟨B, T⟩ (Same (.tup [prV (finP rg n (startS bs)).1, .d (.int .i64 (finP rg n (startS bs)).2)]) ⟨B, T⟩) := by
 obtain ⟨N, hn⟩ : ∃ N, B.length = N := ⟨_, rfl⟩
 obtain ⟨t, ht⟩ : ∃ t, T.length = t := ⟨_, rfl⟩
 have hmu := (start_ok bs).mu_le
 obtain ⟨⟨p0, s0⟩, hP⟩ : ∃ r, progP true n (startS bs) = r := ⟨_, rfl⟩
 have hfin : finP rg n (startS bs) = if endP s0 (rg p0) = 0 then (p0, 0) else (⟨[], []⟩, endP s0 (rg p0)) := by unfold finP; rw [hP]
 rw [hfin]
 unfold progP at hP
 refine b6.go 20 rfl fun hsm => ?_
 simp only [smw] at hsm
 simp only [W, seval, c6, hn]
 have hop := open_ab bs h0 hl (B ++ [[.sl [] .full, .sl [] .full], [.sl [] .full, .sl [] .full]]) T
 rw [List.length_append, hn, List.append_assoc] at hop
 refine callS_fn hop ?_
 rintro _ _ ⟨rfl, rfl⟩
 have hd1 := (dn_want (startS bs) [112, 97, 99, 107, 97, 103, 101]).le
 obtain ⟨⟨tx, s2⟩, h2⟩ : ∃ r, nameP (wantP (startS bs) [112, 97, 99, 107, 97, 103, 101]) = r := ⟨_, rfl⟩
 have hd2 := (dn_name h2).le
 have hnp := name_pp bs h0 hl (wantP (startS bs) [112, 97, 99, 107, 97, 103, 101])
 rw [h2] at hP hnp
 dsimp only at hP hnp
 refine ARun.go 10 ?_
 simp only [W, seval, c6, hn]
 refine PP.callP (want_pp bs h0 hl (startS bs) [112, 97, 99, 107, 97, 103, 101]) hn (start_ok bs) fun hok1 => ?_
 refine ARun.go 10 ?_
 simp only [W, seval, c6, hn]
 refine PP.callP hnp hn hok1 fun hok2 => ?_
 refine ARun.go 2 ?_
 simp only [W, seval, c6]
 refine ARun.tokenB (N + 1) 0 _ [] (by rw [bx_loc hn]; rfl) (by rfl) 2 (by omega) rfl ?_
 rw [bx_set_loc hn]
 refine ARun.tokenB (N + 1) 1 [.sl [] (.own T.length), .sl [] .full] [] (by rw [bx_loc hn]; rfl) (by rfl) 4 (by omega) rfl ?_
 rw [bx_set_loc hn, List.append_assoc, List.length_append, ht]
 change ARun _ _ _ _ _ _ ⟨B ++ [[.sl [] .full, .sl [] .full], prT ⟨[], []⟩ t, bxP bs s2], T ++ [(0, 2), (0, 4)]⟩ _
 refine ARun.go 5 ?_
 simp only [W, seval, c6]
 refine ARun.after [_, _] _ (fun _ : Unit => (envS 56 [(2, .ptr N 0), (4, .ptr (N + 1) 0), (5, .ptr (N + 2) 0)], ⟨B ++ [[.sl [] .full, .sl [] .full], prT p0 t, bxP bs s0], T ++ [(p0.structs.length, 2), (p0.funcs.length, 4)]⟩)) (fun _ => OkP bs s0) ?_ ?_
 case refine_2 =>
  intro K' hend
  refine ARun.loopW (fun a : PrT × Ps => (envS 56 [(2, .ptr N 0), (4, .ptr (N + 1) 0), (5, .ptr (N + 2) 0)], ⟨B ++ [[.sl [] .full, .sl [] .full], prT a.1 t, bxP bs a.2], T ++ [(a.1.structs.length, 2), (a.1.funcs.length, 4)]⟩)) (fun a => OkP bs a.2 ∧ a.1.structs.length + a.1.funcs.length + mu a.2 ≤ mu s2 ∧ ∃ q, mu a.2 < q ∧ declL (stmtF true n) n q a.2 a.1 = (p0, s0)) (fun a => mu a.2) (⟨[], []⟩, s2) ⟨hok2, by simp, n, by dsimp only; omega, hP⟩ ?_ rfl ?_
  ·skip
   refine Agree.env _ ?_
   simp only [agw, seval, hn]
  rintro ⟨p, s5⟩ ⟨hok5, hle, q, hq, hr⟩ ih
  dsimp only at hok5 hle hq hr ih ⊢
  cases q with
  | zero => omega
  | succ q =>
  rw [declL] at hr
  have hk0 := dec_nat s5.w.kind 0
  simp only [Int.natCast_zero] at hk0
  by_cases he : s5.e = 0
  case neg =>
   have e1 := decide_eq_false he
   rw [if_neg (fun h => he h.1)] at hr
   obtain ⟨rfl, rfl⟩ := Prod.mk.inj hr
   refine ARun.goK (k := [_, _, _]) 80 ?_
   simp only [W, seval, c6, hn, bxP, e1]
   refine hend () hok5 _ _ ?_ rfl
   refine Agree.env _ ?_
   simp only [agw, seval, hn]
  have e1 := decide_eq_true he
  by_cases hk : s5.w.kind = 0
  case pos =>
   rw [decide_eq_true hk] at hk0
   rw [if_neg (fun h => h.2 hk)] at hr
   obtain ⟨rfl, rfl⟩ := Prod.mk.inj hr
   refine ARun.goK (k := [_, _, _]) 80 ?_
   simp only [W, seval, c6, hn, bxP, e1, hk0]
   refine hend () hok5 _ _ ?_ rfl
   refine Agree.env _ ?_
   simp only [agw, seval, hn]
  rw [decide_eq_false hk] at hk0
  rw [if_pos ⟨he, hk⟩] at hr
  have hmp : 0 < mu s5 := by rw [mu_live he, (hok5 he).2.2]; simp
  obtain ⟨⟨b, s6⟩, h6⟩ : ∃ r, gotP s5 [116, 121, 112, 101] = r := ⟨_, rfl⟩
  have hp6 := got_pp bs h0 hl s5 [116, 121, 112, 101]
  rw [h6] at hp6 hr
  dsimp only at hp6
  refine ARun.goK (k := [_, _, _]) 80 ?_
  simp only [W, seval, c6, hn, bxP, e1, hk0]
  refine PP.callP hp6 hn hok5 fun hok6 => ?_
  cases b
  case' true =>
   have hlt := got_lt h6
   dsimp only at hr
   obtain ⟨⟨x, s7⟩, hx⟩ : ∃ r, structP n s6 = r := ⟨_, rfl⟩
   have hpx := struct_pp bs h0 hl n s6 (by omega)
   have hd7 := (dn_struct hx).le
   rw [hx] at hpx hr
   dsimp only at hpx hr
   unfold suV at hpx
   have hcap : (p.structs.length + 1) * 40 ≤ 140737488355328 := by omega
   have hmap : p.structs.map suD ++ [suD x] = (p.structs ++ [x]).map suD := by simp
   have hlen : (p.structs ++ [x]).length = p.structs.length + 1 := by simp
   refine ARun.goK 7 ?_
   simp only [W, seval, c6, hn]
   refine PP.witP hpx hn hok6 (haP 5 (by rfl)) fun hok7 => ?_
   refine ARun.drawE 6 [3, 5, 7] (fun S => S.boxes[N + 1]? = some (prT p t)) (by kernel_rfl) (by kernel_rfl) (by kernel_rfl) (by kernel_rfl) (by kernel_rfl) ?_
   simp only [W, seval, c6]
   refine lexC_q (v := ?_) (by rfl) (by kernel_rfl) (fun S hS => ?_) ?_
   rotate_left
   ·simp only [W, seval, c6]
    exact rfl
   simp only [W, seval, c6]
   refine lexC_q (v := ?_) (by rfl) (by kernel_rfl) (fun S hS => ?_) ?_
   rotate_left
   ·try dsimp only at hS
    simp only [W, seval, c6, hS, prT]
    exact rfl
   simp only [W, seval, c6]
   refine lexC_q (v := ?_) (by rfl) (by kernel_rfl) (fun S hS => ?_) ?_
   rotate_left
   ·simp only [W, seval, c6]
    exact rfl
   simp only [W, seval, c6]
   refine PP.lexcP hpx hn hok6 hok7 (by simp [bx_loc, hn]) (by rfl) (by kernel_rfl) ?_ ?_
   ·simp only [W, seval, c6]
    exact ⟨_, _, rfl, rfl, by rfl, by rfl⟩
   simp only [W, seval, c6]
   refine lexC_q (v := ?_) (by rfl) (by kernel_rfl) (fun S hS => ?_) ?_
   rotate_left
   ·simp only [W, seval, c6, mapD_nil, mapD_cons, Nat.reduceMul, ← suD_eq]
    exact rfl
   simp only [W, seval, c6]
   refine lexC_w (v := ?_) (S' := ?_) ?_ (by rfl) (by kernel_rfl) ?_ ?_
   rotate_left 2
   ·first | trivial | simp [bx_loc, bx_loc0, hn, ht, hcap, hmap, su1, Nat.reduceMul]
   ·simp only [W, seval, c6, hn, ht, hcap, hmap, su1, Nat.reduceMul]
    exact rfl
   simp only [W, seval, c6]
   refine lexC_end (by simp [bx_loc, hn]) ?_
   refine lexC_q (v := ?_) (by rfl) (by kernel_rfl) (fun S hS => ?_) ?_
   rotate_left
   ·simp only [W, seval, c6]
    exact rfl
   simp only [W, seval, c6]
   refine lexC_w (v := ?_) (S' := ?_) ?_ (by rfl) (by kernel_rfl) ?_ ?_
   rotate_left 2
   ·first | trivial | simp [bx_loc, bx_loc0, hn, prT]
   ·simp only [W, seval, c6, hn, prT]
    exact rfl
   simp only [W, seval, c6]
   refine lexC_end trivial ?_
   refine ARun.goK (k := [_, _, _, _]) 5 ?_
   simp only [W, seval, c6]
   refine ih (⟨p.structs ++ [x], p.funcs⟩, s7) ⟨hok7, by dsimp only; omega, q, by dsimp only; omega, hr⟩ (by dsimp only; omega) _ _ ?_ (by dsimp only; rw [hlen]; rfl)
   refine Agree.env _ ?_
   simp only [agw, seval, hn]
  have e6 := got_no h6
  subst e6
  dsimp only at hr
  obtain ⟨⟨b, s7⟩, h7⟩ : ∃ r, gotP s6 [102, 117, 110, 99] = r := ⟨_, rfl⟩
  have hp7 := got_pp bs h0 hl s6 [102, 117, 110, 99]
  rw [h7] at hp7 hr
  dsimp only at hp7
  refine ARun.goK 20 ?_
  simp only [W, seval, c6, hn]
  refine PP.callP hp7 hn hok6 fun hok7 => ?_
  cases b
  case' true =>
   have hlt := got_lt h7
   dsimp only at hr
   obtain ⟨⟨x, s8⟩, hx⟩ : ∃ r, funcP (stmtF true n) n s7 = r := ⟨_, rfl⟩
   have hpx := func_pp bs h0 hl hS n (Nat.le_refl _) s7 (by omega)
   have hd7 := (dn_func (dn_stmtF true n) hx).le
   rw [hx] at hpx hr
   dsimp only at hpx hr
   unfold fuV at hpx
   have hcap : (p.funcs.length + 1) * 88 ≤ 140737488355328 := by omega
   have hmap : p.funcs.map fuD ++ [fuD x] = (p.funcs ++ [x]).map fuD := by simp
   have hlen : (p.funcs ++ [x]).length = p.funcs.length + 1 := by simp
   refine ARun.goK 7 ?_
   simp only [W, seval, c6, hn]
   refine PP.witP hpx hn hok7 (haP 5 (by rfl)) fun hok8 => ?_
   refine ARun.drawE 6 [3, 5, 7] (fun S => S.boxes[N + 1]? = some (prT p t)) (by kernel_rfl) (by kernel_rfl) (by kernel_rfl) (by kernel_rfl) (by kernel_rfl) ?_
   simp only [W, seval, c6]
   refine lexC_q (v := ?_) (by rfl) (by kernel_rfl) (fun S hS => ?_) ?_
   rotate_left
   ·simp only [W, seval, c6]
    exact rfl
   simp only [W, seval, c6]
   refine lexC_q (v := ?_) (by rfl) (by kernel_rfl) (fun S hS => ?_) ?_
   rotate_left
   ·try dsimp only at hS
    simp only [W, seval, c6, hS, prT]
    exact rfl
   simp only [W, seval, c6]
   refine lexC_q (v := ?_) (by rfl) (by kernel_rfl) (fun S hS => ?_) ?_
   rotate_left
   ·simp only [W, seval, c6]
    exact rfl
   simp only [W, seval, c6]
   refine PP.lexcP hpx hn hok7 hok8 (by simp [bx_loc, hn]) (by rfl) (by kernel_rfl) ?_ ?_
   ·simp only [W, seval, c6]
    exact ⟨_, _, rfl, rfl, by rfl, by rfl⟩
   simp only [W, seval, c6]
   refine lexC_q (v := ?_) (by rfl) (by kernel_rfl) (fun S hS => ?_) ?_
   rotate_left
   ·simp only [W, seval, c6, mapD_nil, mapD_cons, Nat.reduceMul, ← fuD_eq]
    exact rfl
   simp only [W, seval, c6]
   refine lexC_w (v := ?_) (S' := ?_) ?_ (by rfl) (by kernel_rfl) ?_ ?_
   rotate_left 2
   ·first | trivial | simp [bx_loc, bx_loc0, hn, ht, hcap, hmap, fu1, Nat.reduceMul]
   ·simp only [W, seval, c6, hn, ht, hcap, hmap, fu1, Nat.reduceMul]
    exact rfl
   simp only [W, seval, c6]
   refine lexC_end (by simp [bx_loc, hn]) ?_
   refine lexC_q (v := ?_) (by rfl) (by kernel_rfl) (fun S hS => ?_) ?_
   rotate_left
   ·simp only [W, seval, c6]
    exact rfl
   simp only [W, seval, c6]
   refine lexC_w (v := ?_) (S' := ?_) ?_ (by rfl) (by kernel_rfl) ?_ ?_
   rotate_left 2
   ·first | trivial | simp [bx_loc, bx_loc0, hn, prT]
   ·simp only [W, seval, c6, hn, prT]
    exact rfl
   simp only [W, seval, c6]
   refine lexC_end trivial ?_
   refine ARun.goK (k := [_, _, _, _]) 5 ?_
   simp only [W, seval, c6]
   refine ih (⟨p.structs, p.funcs ++ [x]⟩, s8) ⟨hok8, by dsimp only; omega, q, by dsimp only; omega, hr⟩ (by dsimp only; omega) _ _ ?_ (by dsimp only; rw [hlen]; rfl)
   refine Agree.env _ ?_
   simp only [agw, seval, hn]
  have e7 := got_no h7
  subst e7
  dsimp only at hr
  have hlt := fail_lt hmp
  refine ARun.goK 20 ?_
  simp only [W, seval, c6, hn]
  refine PP.callP (fail_pp bs s7 51 (by decide)) hn hok7 fun hok8 => ?_
  refine ARun.goK 20 ?_
  simp only [W, seval, c6, hn]
  refine ih (p, failP s7 51) ⟨hok8, by dsimp only; omega, q, by dsimp only; omega, hr⟩ (by dsimp only; omega) _ _ ?_ rfl
  refine Agree.env _ ?_
  simp only [agw, seval, hn]
 rintro ⟨⟩ hok0
 refine ARun.plainJ 1 _ [.d (.sl (p0.structs.map suD)), .d (.sl (p0.funcs.map fuD))] (by rfl) (.sl (.sl .nil)) ?_
 change ARun _ _ _ _ _ _ ⟨B ++ [[.sl [] .full, .sl [] .full], [.d (.sl (p0.structs.map suD)), .d (.sl (p0.funcs.map fuD))], bxP bs s0], _⟩ _
 have hcl : AFn Tryz.prog TabI 22 [.ptr (N + 1) 0] ⟨B ++ [[.sl [] .full, .sl [] .full], [.d (.sl (p0.structs.map suD)), .d (.sl (p0.funcs.map fuD))], bxP bs s0], T ++ [(p0.structs.length, 2), (p0.funcs.length, 4)]⟩ (Same (.d (.bool (rg p0))) ⟨B ++ [[.sl [] .full, .sl [] .full], [.d (.sl (p0.structs.map suD)), .d (.sl (p0.funcs.map fuD))], bxP bs s0], T ++ [(p0.structs.length, 2), (p0.funcs.length, 4)]⟩) := by
  refine b22.go 20 rfl fun hsm => ?_
  simp only [smw] at hsm
  simp only [W, seval, c22, hn]
  refine callS_fn (hR p0 _ _) ?_
  rintro _ _ ⟨rfl, rfl⟩
  refine ARun.go 20 ?_
  simp only [W, seval, c22]
  refine ARun.ret Tryz.func22 rfl (Left.none ?_)
  exact ⟨rfl, rfl⟩
 have hen := end_ab bs s0 (rg p0) 22 [.ptr (N + 1) 0] (N + 2) (B ++ [[.sl [] .full, .sl [] .full], [.d (.sl (p0.structs.map suD)), .d (.sl (p0.funcs.map fuD))], []]) (T ++ [(p0.structs.length, 2), (p0.funcs.length, 4)]) (by simp; omega) (by rw [setP3 hn]; exact hcl)
 rw [setP3 hn] at hen
 simp only [setP3 hn] at hen
 refine ARun.go 20 ?_
 simp only [W, seval, c6, hn]
 refine callS_fn hen ?_
 rintro _ _ ⟨rfl, s9, rfl⟩
 generalize endP s0 (rg p0) = e at *
 by_cases he : e = 0
 ·have e1 := decide_eq_true he
  rw [if_pos he]
  refine ARun.go 60 ?_
  simp only [W, seval, c6, hn, e1]
  refine retc2 (v := ?_) Tryz.func6 (by rfl) ?_ ?_
  rotate_left
  ·simp only [W, seval, c6, hn]
   exact rfl
  refine Left.all ?_
  simp only [W, seval, c6, wk, wkL, prV]
  exact ⟨rfl, rfl⟩
 ·have e1 := decide_eq_false he
  rw [if_neg he]
  refine ARun.go 60 ?_
  simp only [W, seval, c6, hn, e1]
  refine retc2 (v := ?_) Tryz.func6 (by rfl) ?_ ?_
  rotate_left
  ·simp only [W, seval, c6, hn]
   exact rfl
  refine Left.all ?_
  simp only [W, seval, c6, wk, wkL, prV]
  exact ⟨rfl, rfl⟩
end Go.Proofs.YtnnnhlkmdnacaaaGreatDoor
namespace Go.Ab
open Go.RowKit Go.Av
def CellsL (c : Cx) (w : World) (vs : List V) (l : List Value) : Prop := l.length = vs.length ∧ ∀ (j : Nat) (v : V), vs[j]? = some v → ∃ x, l[j]? = some x ∧ VR c w v x ∧ x.oneCell' = true
section
variable {P : Program} {c : Cx} {w : World} {S : Mem}
theorem CellsL.nil : CellsL c w [] [] := ⟨rfl, fun j v h => by simp at h⟩
theorem CellsL.append {a b : List V} {A B : List Value} (h : CellsL c w a A) (k : CellsL c w b B) : CellsL c w (a ++ b) (A ++ B) := by
 refine ⟨by simp [h.1, k.1], fun j v hv => ?_⟩
 rcases Nat.lt_or_ge j a.length with h' | h'
 ·rw [List.getElem?_append_left h'] at hv
  rw [List.getElem?_append_left (by rw [h.1]; exact h')]
  exact h.2 j v hv
 ·rw [List.getElem?_append_right h'] at hv
  rw [List.getElem?_append_right (by rw [h.1]; exact h'), h.1]
  exact k.2 _ v hv
theorem CellsL.take {a : List V} {A : List Value} (h : CellsL c w a A) (n : Nat) : CellsL c w (a.take n) (A.take n) := by
 refine ⟨by simp [h.1], fun j v hv => ?_⟩
 rw [List.getElem?_take] at hv ⊢
 split at hv
 ·rename_i hlt
  rw [if_pos hlt]
  exact h.2 j v hv
 ·cases hv
theorem CellsL.drop {a : List V} {A : List Value} (h : CellsL c w a A) (n : Nat) : CellsL c w (a.drop n) (A.drop n) := by
 refine ⟨by simp [h.1], fun j v hv => ?_⟩
 rw [List.getElem?_drop] at hv ⊢
 exact h.2 _ v hv
theorem CellsL.keep {c' : Cx} {w' : World} (hk : Keeps c w c' w') {a : List V} {A : List Value} (h : CellsL c w a A) : CellsL c' w' a A := ⟨h.1, fun j v hv => by
 obtain ⟨x, h1, h2, h3⟩ := h.2 j v hv
 exact ⟨x, h1, h2.keep hk, h3⟩⟩
theorem CellsL.at {a : List V} {A : List Value} (h : CellsL c w a A) (j : Nat) (hj : j < a.length) : VR c w a[j] (A.toArray.getD j undef) ∧ (A.toArray.getD j undef).oneCell' = true := by
 obtain ⟨x, h1, h2⟩ := h.2 j a[j] (List.getElem?_eq_getElem hj)
 obtain ⟨hl, rfl⟩ := List.getElem?_eq_some_iff.1 h1
 rw [getD_list_arr hl]
 exact h2
theorem Rep.cellsL (h : Rep c w S) {i b : Nat} (hi : c.ρ[i]? = some b) {vs : List V} (hv : S.boxes[i]? = some vs) : ∃ (cs : Array Value) (T : TypeId), w.heap[b]? = some (.cells cs T (0, 0)) ∧ CellsL c w vs cs.toList := by
 obtain ⟨cs, T, hh, hsz, hc⟩ := h.boxCells hi hv
 refine ⟨cs, T, hh, by simpa using hsz, fun j v hj => ?_⟩
 obtain ⟨hlt, rfl⟩ := List.getElem?_eq_some_iff.1 hj
 have hl : j < cs.size := by omega
 have := hc j hlt
 rw [getD_arr hl] at this
 exact ⟨cs[j], by simp [hl], this.2⟩
def BxIs (n sz : Nat) (G : List (List V)) (rows : List (List D)) (v : V) : Prop :=
 (G = [] ∧ rows = [] ∧ v = .sl [] .full) ∨ ∃ G0 cap, G = G0 ++ [rows.flatten.map .d ++ List.replicate ((cap - rows.length) * sz) .undef] ∧ v = .bx (n + G0.length) rows.length cap ∧ rowsSz sz rows = true ∧ (∀ vs ∈ G0, vs.all (fit 0 0) = true) ∧ rows.length ≤ cap
theorem fit_flat (rows : List (List D)) (k : Nat) : (rows.flatten.map V.d ++ List.replicate k V.undef).all (fit 0 0) = true := by
 rw [List.all_eq_true]
 intro v hv
 rcases List.mem_append.1 hv with h | h
 ·obtain ⟨d, _, rfl⟩ := List.mem_map.1 h
  rfl
 ·obtain rfl := List.eq_of_mem_replicate h
  rfl
theorem BxIs.fits {n sz : Nat} {G : List (List V)} {rows : List (List D)} {v : V} (h : BxIs n sz G rows v) : ∀ vs ∈ G, vs.all (fit 0 0) = true := by
 rcases h with ⟨rfl, _, _⟩ | ⟨G0, cap, rfl, _, _, h, _⟩
 ·intro vs h; cases h
 ·intro vs hv
  rcases List.mem_append.1 hv with h' | h'
  ·exact h vs h'
  ·obtain rfl := List.mem_singleton.1 h'
   exact fit_flat _ _
theorem flat_len {sz : Nat} : ∀ {rows : List (List D)}, (∀ r ∈ rows, r.length = sz) → rows.flatten.length = rows.length * sz
 | [], _ => by simp
 | r :: rows, h => by
  rw [List.flatten_cons, List.length_append, h r (by simp), flat_len fun q hq => h q (List.mem_cons_of_mem _ hq), List.length_cons, Nat.add_mul]
  omega
theorem flat_get {sz : Nat} : ∀ {rows : List (List D)}, (∀ r ∈ rows, r.length = sz) → ∀ (j q : Nat) (r : List D) (d : D), rows[j]? = some r → r[q]? = some d → rows.flatten[j * sz + q]? = some d
 | [], _, j, q, r, d, h, _ => by simp at h
 | r0 :: rows, hs, j, q, r, d, h, hq => by
  have h0 := hs r0 (by simp)
  cases j with
  | zero =>
   obtain rfl : r0 = r := by simpa using h
   have := (List.getElem?_eq_some_iff.1 hq).1
   rw [List.flatten_cons, Nat.zero_mul, Nat.zero_add, List.getElem?_append_left this]
   exact hq
  | succ j =>
   have := flat_get (fun x hx => hs x (List.mem_cons_of_mem _ hx)) j q r d (by simpa using h) hq
   rw [List.flatten_cons, List.getElem?_append_right (by rw [h0, Nat.add_mul]; omega), h0, ← this]
   congr 1
   rw [Nat.add_mul]
   omega
theorem flat_mlen {sz : Nat} {rows : List (List D)} (h : ∀ r ∈ rows, r.length = sz) : (rows.flatten.map V.d).length = rows.length * sz := by rw [List.length_map]; exact flat_len h
theorem flat_snoc (rows : List (List D)) (r : List D) : (rows ++ [r]).flatten.map V.d = rows.flatten.map V.d ++ r.map V.d := by simp
theorem one_row {x : V} {X : Value} {r : List D} {sz : Nat} (hx : VR c w x X) (hd : toD x = some (.sl [r])) (hr : r.length = sz) : ∃ (a : Option Addr) (cap : Nat) (F : Nat → Value), X = .slice a 1 cap ∧ CellsL c w (r.map .d) ((List.range (1 * sz)).map F) ∧
 ∀ W : World, W.heap = w.heap → (Builtin.firstCells sz 1 X).run P W = .ok ((List.range (1 * sz)).map F).toArray W := by
 have hD := VR_toD hx hd
 have hsl : ∃ a n cap, X = .slice a n cap := by cases hD; exact ⟨_, _, _, rfl⟩
 obtain ⟨a, n, cap, rfl⟩ := hsl
 obtain ⟨hn, _, _, F, hF, hFd⟩ := hD.flat sz (fun q hq => by rw [List.mem_singleton.1 hq]; exact hr)
 have hn : n = 1 := hn
 subst hn
 refine ⟨a, cap, F, rfl, ⟨by simp [hr], fun j v hv => ?_⟩, fun W hW => run_first (rows := [r]) rfl hF W hW⟩
 rw [List.getElem?_map] at hv
 obtain ⟨d, hd, rfl⟩ := Option.map_eq_some_iff.1 hv
 obtain ⟨hj, rfl⟩ := List.getElem?_eq_some_iff.1 hd
 have := hFd 0 (by simp) j (by simpa using hj)
 simp only [List.getElem_cons_zero, Nat.zero_mul, Nat.zero_add] at this
 exact ⟨F j, by simp [← hr, hj], .d _ _ this, this.one⟩
theorem zeros_ok {z : Value} (h1 : ∀ u ∈ z.cells.toList, u.oneCell' = true) (sz : Nat) (h2 : z.cells.size = sz) (n : Nat) : CellsL c w (List.replicate (n * sz) .undef) (Builtin.zeroCells z.cells n).toList := by
 have hsz : (Builtin.zeroCells z.cells n).toList.length = n * sz := by simp [size_zeroCells, h2]
 refine ⟨by rw [hsz]; simp, fun j v hv => ?_⟩
 rw [List.getElem?_replicate] at hv
 split at hv
 case isFalse => cases hv
 rename_i hj
 obtain rfl := Option.some.inj hv
 have hj2 : j < n * z.cells.size := by rw [h2]; exact hj
 have hz0 : 0 < z.cells.size := by
  rcases Nat.eq_zero_or_pos z.cells.size with h | h
  ·rw [h] at hj2; omega
  ·exact h
 have hm := Nat.mod_lt j hz0
 refine ⟨z.cells[j % z.cells.size], ?_, .undef _, h1 _ (by simp)⟩
 simp only [Builtin.zeroCells, Array.getElem?_toList, Array.getElem?_map]
 rw [Array.getElem?_range, if_pos hj2]
 simp only [Option.map_some]
 rw [getElem!_pos z.cells (j % z.cells.size) hm]
theorem Rep.grow {L : List (List V)} {T : List (Nat × Nat)} (h : Rep c w ⟨L, T⟩) {ts us ty e : TypeId} {ti te ui : TyI} (hti : tyOf P ts = some ti) (he : ti.d = .slice e) (hte : tyOf P e = some te) (hui : tyOf P us = some ui) (hue : ∃ k, ui.d = .slice k) (a : Option Addr) (n cap : Nat) (old : List V) (xs : List Value)
 (hxs : CellsL c w old xs) (hold : ∀ W : World, W.heap = w.heap → (Builtin.firstCells te.size n (.slice a n cap)).run P W = .ok xs.toArray W) (hcap : ¬ n + 1 ≤ cap) (hc63 : n + 1 ≤ 9223372036854775807) {x : V} {X : Value} {r : List D} (hx : VR c w x X) (hd : toD x = some (.sl [r])) (hr : r.length = te.size) (hb : (n + 1) * te.bytes ≤ 140737488355328) :
 ∃ w' c' cap', (Builtin.append_ #[ts, us] ty #[.slice a n cap, X]).run P w = .ok (.slice (some ⟨w.heap.size, 0, none⟩) (n + 1) cap') w' ∧ n + 1 ≤ cap' ∧ Rep c' w' ⟨L ++ [old ++ r.map .d ++ List.replicate ((cap' - (n + 1)) * te.size) .undef], T⟩ ∧ Ext c w c' w' ∧ VR c' w' (.bx L.length (n + 1) cap') (.slice (some ⟨w.heap.size, 0, none⟩) (n + 1) cap') := by
 obtain ⟨fi, d, z, h1, h2, h3, h4, h5, h6, _⟩ := tyOf_info hti
 obtain ⟨gi, d2, z2, g1, g2, g3, g4, g5, g6, g7, g8, g9, g10⟩ := tyOf_info hte
 obtain ⟨ui1, d3, z3, u1, u2, u3, u4, u5, u6, _⟩ := tyOf_info hui
 rw [he] at h6
 obtain rfl := tdOf_slice h6
 obtain ⟨ke, hke⟩ := hue
 rw [hke] at u6
 obtain rfl := tdOf_slice u6
 have Ty : SlTy P ts e te.size te.bytes := ⟨h2, gi, z2, g1, g3, g4, g5, g8⟩
 obtain ⟨ax, capx, F, rfl, hF, hfirst⟩ := one_row (P := P) hx hd hr
 obtain ⟨i, zz, k1, k2, k3, hrun⟩ := run_app_grow (P := P) (w := w) (ty := ty) Ty ⟨_, u2, by simp⟩ a n cap 1 hcap (.slice ax 1 capx) xs ((List.range (1 * te.size)).map F) (fun W => by simp [Builtin.lenOf]) hfirst hold hc63 hb
 rw [g1] at k1
 obtain rfl := Option.some.inj k1
 rw [g3] at k2
 obtain rfl := Option.some.inj k2
 have hge := grownCap_ge w (n + 1) cap e
 have hcm : grownCap w (n + 1) cap e ≤ 9223372036854775807 := grownCap_le_maxLen w (n + 1) cap e (by unfold maxLen; omega)
 unfold grownWorld at hrun
 generalize grownCap w (n + 1) cap e = cap' at hrun hge hcm
 have hdr : Below w.heap.size w w.drew := (Below.refl _ _).drew
 obtain ⟨r1, r2⟩ := h.under hdr
 have hcells := ((hxs.append hF).append (zeros_ok (c := c) (w := w) g10 te.size k3 (cap' - (n + 1)))).keep r2.keeps
 have harr : xs.toArray ++ ((List.range (1 * te.size)).map F).toArray ++ Builtin.zeroCells z2.cells (cap' - (n + 1)) = (xs ++ (List.range (1 * te.size)).map F ++ (Builtin.zeroCells z2.cells (cap' - (n + 1))).toList).toArray := by
  apply Array.ext'
  simp
 rw [harr] at hrun
 obtain ⟨q1, q2⟩ := r1.box_new _ e _ (by simpa using hcells.1) (hcells.at)
 refine ⟨_, _, cap', hrun, hge, q1, r2.trans q2, .bx _ _ _ _ ?_ hge hcm⟩
 show (c.ρ ++ [w.drew.heap.size])[L.length]? = _
 rw [show L.length = c.ρ.length from h.len]
 simp
theorem Rep.appB {L G : List (List V)} {T : List (Nat × Nat)} (h : Rep c w ⟨L ++ G, T⟩) {ts us ty e : TypeId} {ti te ui : TyI} (hti : tyOf P ts = some ti) (he : ti.d = .slice e) (hte : tyOf P e = some te) (hui : tyOf P us = some ui) (hue : ∃ k, ui.d = .slice k) {rows : List (List D)} {s x : V} {A X : Value} {r : List D}
 (hs : BxIs L.length te.size G rows s) (hA : VR c w s A) (hx : VR c w x X) (hd : toD x = some (.sl [r])) (hr : r.length = te.size) (hb : (rows.length + 1) * te.bytes ≤ 140737488355328) (hb1 : 1 ≤ te.bytes) :
 ∃ y w' c' v G', (Builtin.append_ #[ts, us] ty #[A, X]).run P w = .ok y w' ∧ (BxIs L.length te.size G' (rows ++ [r]) v ∧ ∃ i k cap, v = .bx i k cap) ∧ Rep c' w' ⟨L ++ G', T⟩ ∧ Ext c w c' w' ∧ VR c' w' v y := by
 have hmul : rows.length + 1 ≤ (rows.length + 1) * te.bytes := Nat.le_mul_of_pos_right _ (by omega)
 rcases hs with ⟨rfl, rfl, rfl⟩ | ⟨G0, cap, rfl, rfl, hrs, hG0, hcap⟩
 ·cases hA with
  | full _ a hdr ha =>
   obtain ⟨w', c', cap', k1, k2, k3, k4, k5⟩ := h.grow (ty := ty) hti he hte hui hue a 0 0 [] [] .nil (fun W hW => by
    obtain ⟨_, _, _, F, hF, _⟩ := hdr.flat te.size (by simp)
    have := run_first (P := P) (sz := te.size) (cap := 0) (a := a) (rows := []) (n := 0) rfl hF W hW
    simpa using this) (by omega) (by omega) hx hd hr hb
   refine ⟨_, w', c', _, _, k1, ⟨.inr ⟨[], cap', rfl, ?_, ?_, by simp, by simpa using k2⟩, _, _, _, rfl⟩, ?_, k4, k5⟩
   ·simp
   ·simp [rowsSz, hr]
   ·simpa using k3
 ·have hrows := rowsSz_iff hrs
  have hfl := flat_mlen hrows
  obtain ⟨fm, hfm⟩ : ∃ fm, rows.flatten.map V.d = fm := ⟨_, rfl⟩
  rw [hfm] at h hfl
  have hff : fm.all (fit 0 0) = true := by
   have := fit_flat rows 0
   rwa [List.replicate_zero, List.append_nil, hfm] at this
  obtain ⟨J, hJe⟩ : ∃ J, List.replicate ((cap - rows.length) * te.size) V.undef = J := ⟨_, rfl⟩
  have hJ : J.length = (cap - rows.length) * te.size := by rw [← hJe]; simp
  have hJf : J.all (fit 0 0) = true := by
   rw [← hJe, List.all_eq_true]
   intro v hv
   obtain rfl := List.eq_of_mem_replicate hv
   rfl
  rw [hJe] at h
  cases hA with
  | bx _ _ _ b hi hn hm =>
   have hbox : (⟨L ++ (G0 ++ [fm ++ J]), T⟩ : Mem).boxes[L.length + G0.length]? = some (fm ++ J) := by
    show (L ++ (G0 ++ [fm ++ J]))[L.length + G0.length]? = _
    rw [← List.append_assoc, List.getElem?_append_right (by simp)]
    simp
   obtain ⟨cs, Tb, hh, hcs⟩ := h.cellsL hi hbox
   have htk := hcs.take (rows.length * te.size)
   have htl : (fm ++ J).take (rows.length * te.size) = fm := by
    rw [List.take_append_of_le_length (by simp [hfl]), List.take_of_length_le (by simp [hfl])]
   rw [htl] at htk
   have hcsl : cs.size = rows.length * te.size + J.length := by
    have := hcs.1
    simp [hfl] at this
    exact this
   by_cases hroom : rows.length + 1 ≤ cap
   ·obtain ⟨ax, capx, F, rfl, hF, hfirst⟩ := one_row (P := P) hx hd hr
    obtain ⟨fi, d, z, h1, h2, h3, h4, h5, h6, _⟩ := tyOf_info hti
    obtain ⟨gi, d2, z2, g1, g2, g3, g4, g5, g6, g7, g8, g9, g10⟩ := tyOf_info hte
    obtain ⟨ui1, d3, z3, u1, u2, u3, u4, u5, u6, _⟩ := tyOf_info hui
    rw [he] at h6
    obtain rfl := tdOf_slice h6
    obtain ⟨ke, hke⟩ := hue
    rw [hke] at u6
    obtain rfl := tdOf_slice u6
    have Ty : SlTy P ts e te.size te.bytes := ⟨h2, gi, z2, g1, g3, g4, g5, g8⟩
    have hJ1 : te.size ≤ J.length := by
     rw [hJ]
     exact Nat.le_mul_of_pos_left _ (by omega)
    have hst := storeCells_at (P := P) b (rows.length * te.size) Tb (0, 0) ((List.range (1 * te.size)).map F) 0 cs w hh (by simp; omega) (by simp) (fun u hu => by
     obtain ⟨j, hj, rfl⟩ := List.mem_iff_getElem.1 hu
     have hj' : j < te.size := by simpa using hj
     obtain ⟨x, e1, _, e2⟩ := hF.2 j (.d (r[j]'(by omega))) (by simp [hr, hj'])
     rw [List.getElem?_eq_getElem hj] at e1
     rw [Option.some.inj e1]
     exact e2)
    have hrun := run_app_in (P := P) (ty := ty) Ty ⟨_, u2, by simp⟩ b 0 rows.length cap 1 hroom (.slice ax 1 capx) _ (fun W => by simp [Builtin.lenOf]) hfirst (by simpa using hst)
    have hnew := (htk.append hF).append (hcs.drop (rows.length * te.size + te.size))
    have hdl : (fm ++ J).drop (rows.length * te.size + te.size) = J.drop te.size := by
     rw [List.drop_append]
     simp [hfl]
    rw [hdl] at hnew
    obtain ⟨q1, q2⟩ := h.setBox hi (cs.toList.take (rows.length * te.size + 0) ++ (List.range (1 * te.size)).map F ++ cs.toList.drop (rows.length * te.size + 0 + ((List.range (1 * te.size)).map F).length)).toArray (fm ++ r.map .d ++ J.drop te.size) (by
     have := hnew.1
     simpa using this) (fun j hj => by
     have := hnew.at j hj
     simpa using this)
    have hJd : J.drop te.size = List.replicate ((cap - (rows ++ [r]).length) * te.size) .undef := by
     rw [← hJe, List.drop_replicate]
     congr 1
     simp only [List.length_append, List.length_cons, List.length_nil]
     rw [show cap - (rows.length + (0 + 1)) = (cap - rows.length) - 1 by omega, Nat.sub_mul (cap - rows.length) 1 te.size, Nat.one_mul]
    refine ⟨_, _, c, _, G0 ++ [(fm ++ r.map .d) ++ J.drop te.size], by simpa using hrun, ⟨.inr ⟨G0, cap, by rw [flat_snoc, hfm, hJd], ?_, ?_, hG0, by simpa using hroom⟩, _, _, _, rfl⟩, ?_, q2, .bx (L.length + G0.length) (rows ++ [r]).length cap b (q2.keeps.ρ _ _ hi) (by simpa using hroom) hm⟩
    ·rfl
    ·simp only [rowsSz, List.all_append, List.all_cons, List.all_nil, Bool.and_true, Bool.and_eq_true]
     exact ⟨hrs, by simp [hr]⟩
    ·have hset : (L ++ (G0 ++ [fm ++ J])).set (L.length + G0.length) (fm ++ r.map .d ++ J.drop te.size) = L ++ (G0 ++ [(fm ++ r.map .d) ++ J.drop te.size]) := by
      rw [← List.append_assoc, List.set_append_right _ _ (by simp)]
      simp
     rw [← hset]
     exact q1
   ·have hce : cap = rows.length := by omega
    subst hce
    obtain ⟨w', c', cap', k1, k2, k3, k4, k5⟩ := h.grow (ty := ty) hti he hte hui hue (some ⟨b, 0, none⟩) rows.length rows.length (fm) (cs.toList.take (rows.length * te.size)) htk (fun W hW => by
     refine run_firstCells_some (P := P) W te.size rows.length ⟨b, 0, none⟩ rows.length rows.length (cs.toList.take (rows.length * te.size)) (by simp; omega) (fun j v hv => ?_)
     rw [Addr.add_plain, Nat.zero_add]
     rw [List.getElem?_take] at hv
     split at hv
     case isFalse => cases hv
     simp only [World.cell?, hW, hh]
     simpa using hv) (by omega) (by omega) hx hd hr hb
    refine ⟨_, w', c', _, (G0 ++ [fm ++ J]) ++ [(fm ++ r.map .d) ++ List.replicate ((cap' - (rows.length + 1)) * te.size) .undef], k1, ⟨.inr ⟨G0 ++ [fm ++ J], cap', by rw [flat_snoc, hfm]; simp, ?_, ?_, ?_, by simpa using k2⟩, _, _, _, rfl⟩, ?_, k4, k5⟩
    ·simp
    ·simp only [rowsSz, List.all_append, List.all_cons, List.all_nil, Bool.and_true, Bool.and_eq_true]
     exact ⟨hrs, by simp [hr]⟩
    ·intro vs hv
     rcases List.mem_append.1 hv with h' | h'
     ·exact hG0 vs h'
     ·obtain rfl := List.mem_singleton.1 h'
      rw [List.all_append, hff, hJf]
      rfl
    ·simpa using k3
theorem OpR.appB {I : Inv} {env : List V} {o : Oper} {L G : List (List V)} {T : List (Nat × Nat)} {so xo : Operand} {ts us e : TypeId} {ti te ui : TyI} {rows : List (List D)} {s x : V} {r : List D} (ho : o.op = .call ⟨.builtin .append, #[so, xo], #[ts, us]⟩)
 (hti : tyOf P ts = some ti) (he : ti.d = .slice e) (hte : tyOf P e = some te) (hui : tyOf P us = some ui) (hue : ∃ k, ui.d = .slice k) (hes : evalV I env so = s) (hex : evalV I env xo = x) (hs : BxIs L.length te.size G rows s) (hd : toD x = some (.sl [r])) (hr : r.length = te.size) (hb : (rows.length + 1) * te.bytes ≤ 140737488355328) (hb1 : 1 ≤ te.bytes) :
 OpR P I o env ⟨L ++ G, T⟩ fun v S' => ∃ G', S' = ⟨L ++ G', T⟩ ∧ BxIs L.length te.size G' (rows ++ [r]) v ∧ ∃ i k cap, v = .bx i k cap := by
 intro c w ev h1 h2 h3
 have hop : ∀ y, y = so ∨ y = xo → y ∈ o.op.operands := by
  intro y hy
  rw [ho]
  simp only [Op.operands, Call.operands]
  rcases hy with rfl | rfl <;> simp
 have hA := h3 so (hop so (.inl rfl))
 have hX := h3 xo (hop xo (.inr rfl))
 rw [hes] at hA
 rw [hex] at hX
 obtain ⟨y, w', c', v, G', k1, ⟨k2, k3⟩, k4, k5, k6⟩ := h1.appB (ty := o.type) hti he hte hui hue hs hA hX hd hr hb hb1
 refine ⟨y, w', c', v, _, ?_, ⟨G', rfl, k2, k3⟩, k4, k5, k6⟩
 simp [execOp, ho, resolve, invoke, builtin, k1]
theorem BxIs.exist {n sz : Nat} {rows : List (List D)} (h : ∀ r ∈ rows, r.length = sz) : ∃ G v, BxIs n sz G rows v ∧ ∃ i k cap, v = .bx i k cap :=
 ⟨[rows.flatten.map .d ++ List.replicate ((rows.length - rows.length) * sz) .undef], .bx (n + 0) rows.length rows.length, .inr ⟨[], rows.length, rfl, rfl, by simpa [rowsSz] using h, by simp, Nat.le_refl _⟩, _, _, _, rfl⟩
theorem BxIs.store {L G : List (List V)} {T : List (Nat × Nat)} {t : TypeId} {te : TyI} {rows : List (List D)} {v : V} {i k cap j : Nat} {r : List D} (hte : tyOf P t = some te) (h : BxIs L.length te.size G rows v) (hv : v = .bx i k cap) (hj : j < rows.length) (hr : r.length = te.size) :
 ∃ G', opStore P ⟨L ++ G, T⟩ t (.ptr i (j * te.size)) (.agg (r.map .d)) = some (.undef, ⟨L ++ G', T⟩) ∧ BxIs L.length te.size G' (rows.set j r) v := by
 rcases h with ⟨rfl, rfl, h2⟩ | ⟨G0, cap2, rfl, h2, hrs, hG0, hcap⟩
 ·exact absurd hj (by simp)
 ·rw [h2] at hv
  cases hv
  obtain ⟨J, hJe⟩ : ∃ J, List.replicate ((cap - rows.length) * te.size) V.undef = J := ⟨_, rfl⟩
  rw [hJe]
  have hrows := rowsSz_iff hrs
  have hfl := flat_mlen hrows
  have hlt := row_lt (sz := te.size) hj (q := 0)
  have hle : j * te.size + te.size ≤ rows.length * te.size := by
   have := Nat.mul_le_mul_right te.size (show j + 1 ≤ rows.length by omega)
   rw [Nat.add_mul] at this
   omega
  have hg : (⟨L ++ (G0 ++ [rows.flatten.map V.d ++ J]), T⟩ : Mem).boxes[L.length + G0.length]? = some (rows.flatten.map .d ++ J) := by
   show (L ++ (G0 ++ [rows.flatten.map .d ++ J]))[L.length + G0.length]? = _
   rw [← List.append_assoc, List.getElem?_append_right (by simp)]
   simp
  refine ⟨G0 ++ [(rows.set j r).flatten.map .d ++ J], ?_, .inr ⟨G0, cap, by rw [List.length_set, hJe], by rw [List.length_set]; exact h2, ?_, hG0, by simpa using hcap⟩⟩
  ·unfold opStore
   simp only [hte, cellsV, hg]
   rw [if_pos ⟨by simpa using hr, by rw [List.length_append, hfl]; omega⟩]
   have hset : (rows.flatten.map V.d ++ J).take (j * te.size) ++ r.map .d ++ (rows.flatten.map V.d ++ J).drop (j * te.size + (r.map V.d).length) = (rows.set j r).flatten.map .d ++ J := by
    have e1 : rows = rows.take j ++ rows[j] :: rows.drop (j + 1) := by rw [← List.drop_eq_getElem_cons hj, List.take_append_drop]
    have e2 : rows.set j r = rows.take j ++ r :: rows.drop (j + 1) := List.set_eq_take_append_cons_drop.trans (if_pos hj)
    have f1 : ((rows.take j).flatten.map V.d).length = j * te.size := by
     rw [flat_mlen (fun q hq => hrows q (List.mem_of_mem_take hq))]
     simp only [List.length_take]
     rw [Nat.min_eq_left (by omega)]
    have f2 : (rows[j].map V.d).length = te.size := by simpa using hrows _ (List.getElem_mem hj)
    rw [e2]
    conv => lhs; rw [e1]
    simp only [List.flatten_append, List.flatten_cons, List.map_append, List.append_assoc]
    generalize (rows.take j).flatten.map V.d = A at f1 ⊢
    generalize rows[j].map V.d = X at f2 ⊢
    rw [show (r.map V.d).length = te.size by simpa using hr]
    rw [List.take_append_of_le_length (by omega), List.take_of_length_le (by omega), List.drop_append, List.drop_append]
    rw [List.drop_eq_nil_of_le (by omega), List.nil_append, f1, f2, Nat.add_sub_cancel_left, List.drop_eq_nil_of_le (by omega), List.nil_append, Nat.sub_self, List.drop_zero]
   rw [hset]
   congr 3
   rw [← List.append_assoc, List.set_append_right _ _ (by simp)]
   simp
  ·simp only [rowsSz, List.all_eq_true] at hrs ⊢
   intro q hq
   rcases List.mem_or_eq_of_mem_set hq with h | rfl
   ·exact hrs q h
   ·simpa using hr
theorem BxIs.load {L G : List (List V)} {T : List (Nat × Nat)} {t : TypeId} {te : TyI} {rows : List (List D)} {v : V} {i k cap j : Nat} {r : List D} (hte : tyOf P t = some te) (hag : te.agg = true) (h : BxIs L.length te.size G rows v) (hv : v = .bx i k cap) (hj : rows[j]? = some r) : opLoad P ⟨L ++ G, T⟩ t (.ptr i (j * te.size)) = some (.agg (r.map .d)) := by
 obtain ⟨hjl, hjr⟩ := List.getElem?_eq_some_iff.1 hj
 clear hj
 have hj := hjl
 subst hjr
 rcases h with ⟨rfl, rfl, h2⟩ | ⟨G0, cap2, rfl, h2, hrs, hG0, hcap⟩
 ·exact absurd hj (by simp)
 ·rw [h2] at hv
  cases hv
  obtain ⟨J, hJe⟩ : ∃ J, List.replicate ((cap - rows.length) * te.size) V.undef = J := ⟨_, rfl⟩
  rw [hJe]
  have hrows := rowsSz_iff hrs
  have hfl := flat_mlen hrows
  have hle : j * te.size + te.size ≤ rows.length * te.size := by
   have := Nat.mul_le_mul_right te.size (show j + 1 ≤ rows.length by omega)
   rw [Nat.add_mul] at this
   omega
  have hg : (⟨L ++ (G0 ++ [rows.flatten.map V.d ++ J]), T⟩ : Mem).boxes[L.length + G0.length]? = some (rows.flatten.map .d ++ J) := by
   show (L ++ (G0 ++ [rows.flatten.map .d ++ J]))[L.length + G0.length]? = _
   rw [← List.append_assoc, List.getElem?_append_right (by simp)]
   simp
  unfold opLoad
  simp only [hte, hg, loadV, hag, if_true]
  rw [if_pos (by rw [List.length_append, hfl]; omega)]
  congr 2
  have e1 : rows = rows.take j ++ rows[j] :: rows.drop (j + 1) := by rw [← List.drop_eq_getElem_cons hj, List.take_append_drop]
  have f1 : ((rows.take j).flatten.map V.d).length = j * te.size := by
   rw [flat_mlen (fun q hq => hrows q (List.mem_of_mem_take hq))]
   simp only [List.length_take]
   rw [Nat.min_eq_left (by omega)]
  have f2 : (rows[j].map V.d).length = te.size := by simpa using hrows _ (List.getElem_mem hj)
  conv => lhs; rw [e1]
  simp only [List.flatten_append, List.flatten_cons, List.map_append, List.append_assoc]
  generalize (rows.take j).flatten.map V.d = A at f1 ⊢
  generalize rows[j].map V.d = X at f2 ⊢
  rw [List.drop_append, List.drop_eq_nil_of_le (by omega), List.nil_append, f1, Nat.sub_self, List.drop_zero, List.take_append_of_le_length (by omega), List.take_of_length_le (by omega)]
theorem BxIs.lt {n sz : Nat} {G : List (List V)} {rows : List (List D)} {v : V} {i k cap : Nat} (h : BxIs n sz G rows v) (hv : v = .bx i k cap) : i < n + G.length := by
 rcases h with ⟨_, rfl, h2⟩ | ⟨G0, cap2, rfl, h2, hrs, hG0, hcap⟩
 ·rw [h2] at hv; cases hv
 ·rw [h2] at hv; cases hv; simp
theorem BxIs.idx {t e : TypeId} {ti te : TyI} {i k cap j : Nat} {q : IntKind} (hti : tyOf P t = some ti) (he : ti.d = .slice e) (hte : tyOf P e = some te) (hj : j < k) : opIndexAddr P t (.bx i k cap) (.d (.int q (j : Int))) = some (.ptr i (j * te.size)) := by
 unfold opIndexAddr
 simp only [hti, toD, opIdxB, he, hte]
 rw [if_pos ⟨by omega, by omega⟩]
 simp
theorem BxIs.opLen {n sz : Nat} {G : List (List V)} {rows : List (List D)} {v : V} {t e : TypeId} {ti : TyI} (hti : tyOf P t = some ti) (he : ti.d = .slice e) (h : BxIs n sz G rows v) : Ab.opLen P t v = some (.d (.int .i64 (rows.length : Int))) := by
 rcases h with ⟨rfl, rfl, rfl⟩ | ⟨G0, cap, rfl, rfl, _⟩
 ·simp [Ab.opLen, hti, toD, he]
 ·simp [Ab.opLen, hti, toD, opLenB, he]
theorem BxIs.len {n sz : Nat} {G : List (List V)} {rows : List (List D)} {v : V} {i k cap : Nat} (h : BxIs n sz G rows v) (hv : v = .bx i k cap) : k = rows.length := by
 rcases h with ⟨_, rfl, h2⟩ | ⟨G0, cap2, rfl, h2, hrs, hG0, hcap⟩
 ·rw [h2] at hv; cases hv
 ·rw [h2] at hv; cases hv; rfl
end
mutual
def frz (n i : Nat) (rows : List (List D)) : V → V
 | .ptr j k => if j < n then .ptr j k else .undef
 | .bx j k cap => if j < n then .bx j k cap else if j = i ∧ k = rows.length then .d (.sl rows) else .undef
 | .func f a b => .func f (frzL n i rows a) (frzL n i rows b)
 | .agg vs => .agg (frzL n i rows vs)
 | .tup vs => .tup (frzL n i rows vs)
 | .undef => .undef
 | .d x => .d x
 | .sl r t => .sl r t
 | .eptr r k => .eptr r k
 | .nilp => .nilp
 | .nilf => .nilf
def frzL (n i : Nat) (rows : List (List D)) : List V → List V
 | [] => []
 | v :: vs => frz n i rows v :: frzL n i rows vs
end
theorem frzL_map (n i : Nat) (rows : List (List D)) : ∀ vs : List V, frzL n i rows vs = vs.map (frz n i rows)
 | [] => by simp [frzL]
 | v :: vs => by simp [frzL, frzL_map n i rows vs]
mutual
theorem frz_fit {n m i : Nat} {rows : List (List D)} : ∀ v : V, fit n m v = true → frz n i rows v = v
 | .undef, _ => by simp [frz]
 | .d _, _ => by simp [frz]
 | .sl _ _, _ => by simp [frz]
 | .ptr i _, h => by simp only [fit, decide_eq_true_iff] at h; simp [frz, h]
 | .bx i _ _, h => by simp only [fit, decide_eq_true_iff] at h; simp [frz, h]
 | .eptr _ _, _ => by simp [frz]
 | .nilp, _ => by simp [frz]
 | .nilf, _ => by simp [frz]
 | .func _ a b, h => by
  simp only [fit, Bool.and_eq_true] at h
  simp [frz, frzL_fit a h.1, frzL_fit b h.2]
 | .agg vs, h => by simp only [fit] at h; simp [frz, frzL_fit vs h]
 | .tup vs, h => by simp only [fit] at h; simp [frz, frzL_fit vs h]
theorem frzL_fit {n m i : Nat} {rows : List (List D)} : ∀ vs : List V, fitL n m vs = true → frzL n i rows vs = vs
 | [], _ => by simp [frzL]
 | v :: vs, h => by
  simp only [fitL, Bool.and_eq_true] at h
  simp [frzL, frz_fit v h.1, frzL_fit vs h.2]
end
theorem VR.frz {c : Cx} {w : World} {n i b : Nat} {rows : List (List D)} (hi : c.ρ[i]? = some b) (hD : ∀ cap, rows.length ≤ cap → cap ≤ 9223372036854775807 → DR (c.cut n c.τ.length).M w (.sl rows) (.slice (some ⟨b, 0, none⟩) rows.length cap)) {x : V} {v : Value} (h : VR c w x v) : VR (c.cut n c.τ.length) w (frz n i rows x) v := by
 induction h with
 | undef v => unfold Ab.frz; exact .undef v
 | d x v h => unfold Ab.frz; exact .d x v (h.cut _ _)
 | full r a h ha => unfold Ab.frz; exact .full r a (h.cut _ _) ha
 | own r t a cap j h ht hr hn hl => unfold Ab.frz; exact .own r t a cap j (h.cut _ _) (get_take ht (List.getElem?_eq_some_iff.1 ht).1) hr hn hl
 | ptr j k b h =>
  unfold Ab.frz
  split
  ·rename_i hlt
   exact .ptr j k b (get_take h hlt)
  ·exact .undef _
 | bx j k cap b2 h hn hm =>
  unfold Ab.frz
  split
  ·rename_i hlt
   exact .bx j k cap b2 (get_take h hlt) hn hm
  ·split
   ·rename_i he
    obtain ⟨rfl, rfl⟩ := he
    rw [hi] at h
    obtain rfl := Option.some.inj h
    exact .d _ _ (hD cap hn hm)
   ·exact .undef _
 | eptr row k g o f h =>
  unfold Ab.frz
  refine .eptr row k g o f fun q hq => ?_
  obtain ⟨a, b, d⟩ := h q hq
  exact ⟨fun h => a (cut_M h), b, d.cut _ _⟩
 | nilp => unfold Ab.frz; exact .nilp
 | nilf => unfold Ab.frz; exact .nilf
 | func f first caps cf cc h1 h2 h3 h4 ih1 ih2 =>
  unfold Ab.frz
  rw [frzL_map, frzL_map]
  exact .func f _ _ cf cc (by simpa using h1) (by simpa using h2) (fun j hj => by simpa using ih1 j (by simpa using hj)) (fun j hj => by simpa using ih2 j (by simpa using hj))
 | agg vs cs h1 h2 h3 ih =>
  unfold Ab.frz
  rw [frzL_map]
  exact .agg _ cs (by simpa using h1) (fun j hj => by simpa using ih j (by simpa using hj)) (fun j hj => h3 j (by simpa using hj))
 | tup vs cs h1 h2 ih =>
  unfold Ab.frz
  rw [frzL_map]
  exact .tup _ cs (by simpa using h1) (fun j hj => by simpa using ih j (by simpa using hj))
section
variable {P : Program} {I : Inv} {z : Nat × Nat} {fn : FuncId} {R : V → Mem → Prop} {k : List Item} {env : List V}
theorem ARun.freeze {L G J : List (List V)} {T : List (Nat × Nat)} {sz i len cap : Nat} {rows : List (List D)} (h0 : 0 < sz) (hB : BxIs L.length sz G rows (.bx i len cap)) (hz : z.1 ≤ L.length ∧ z.2 ≤ T.length) (h : ARun P I z fn k (env.map (frz L.length i rows)) ⟨L.map (·.map (frz L.length i rows)), T⟩ R) : ARun P I z fn k env ⟨L ++ (G ++ J), T⟩ R := by
 rcases hB with ⟨_, _, h2⟩ | ⟨G0, cap2, rfl, h2, hrs, _, hcap⟩
 ·cases h2
 cases h2
 generalize List.replicate ((cap - rows.length) * sz) V.undef = X at *
 intro b a c w c0 w0 h1 h2 h3 h4 h5 h6 hI
 have hrows := rowsSz_iff hrs
 have hm : c.τ.length = T.length := by
  have := congrArg List.length h5.toks
  simp at this; omega
 have hbl : (L ++ ((G0 ++ [rows.flatten.map V.d ++ X]) ++ J)).length = c.ρ.length := h5.len
 obtain ⟨b0, hb0⟩ : ∃ b0, c.ρ[L.length + G0.length]? = some b0 := ⟨_, List.getElem?_eq_getElem (by rw [← hbl]; simp)⟩
 have hbox : (⟨L ++ ((G0 ++ [rows.flatten.map .d ++ X]) ++ J), T⟩ : Mem).boxes[L.length + G0.length]? = some (rows.flatten.map .d ++ X) := by
  show (L ++ ((G0 ++ [rows.flatten.map .d ++ X]) ++ J))[L.length + G0.length]? = _
  rw [← List.append_assoc, ← List.append_assoc, List.getElem?_append_left (by simp), List.getElem?_append_right (by simp)]
  simp
 obtain ⟨cs, Ty, hh, hsz, hcs⟩ := h5.boxCells hb0 hbox
 have hnM : ∀ q, ¬ (c.cut L.length c.τ.length).M b0 q := by
  rintro q ((hm | hm) | ⟨t, i, off, ht, ha, e1, e2⟩)
  ·have e1 := (c.hX _ _ hm).2
   have e2 : c.X b0 q := hm
   obtain ⟨e3, _⟩ := h5.box _ _ hb0
   omega
  ·obtain ⟨j, hj⟩ := mem_ρ.1 hm
   have hj' : (c.ρ.take L.length)[j]? = some b0 := hj
   rw [List.getElem?_take] at hj'
   split at hj'
   case isFalse => cases hj'
   have := h5.inj _ _ _ hj' hb0
   omega
  ·have ht' : (c.τ.take c.τ.length)[t]? = some i := ht
   rw [List.take_length] at ht'
   obtain ⟨a1, a2, a3, a4, a5⟩ := h5.tok t i ht'
   have hlt : i.n < i.cap := by
    rcases Nat.lt_or_ge i.n i.cap with h' | h'
    ·exact h'
    ·have := Nat.mul_le_mul_right i.sz h'
     omega
   exact (a5 hlt b0 off ha).2.1 (mem_ρ.2 ⟨_, hb0⟩)
 have hD : ∀ cp, rows.length ≤ cp → cp ≤ 9223372036854775807 → DR (c.cut L.length c.τ.length).M w (.sl rows) (.slice (some ⟨b0, 0, none⟩) rows.length cp) := by
  intro cp hc1 hc2
  have hget : ∀ (j q : Nat) (r : List D) (d : D), rows[j]? = some r → r[q]? = some d → w.cell? ⟨b0, j * sz + q, none⟩ = some (cs.getD (j * sz + q) undef) ∧ DR c.M w d (cs.getD (j * sz + q) undef) := by
   intro j q r d hj hq
   have e1 := flat_get hrows j q r d hj hq
   have e2 := (List.getElem?_eq_some_iff.1 e1).1
   have hlt : j * sz + q < (rows.flatten.map V.d ++ X).length := by rw [List.length_append, List.length_map]; omega
   obtain ⟨q1, q2, _⟩ := hcs _ hlt
   refine ⟨q1, ?_⟩
   have e3 : (rows.flatten.map V.d ++ X)[j * sz + q] = .d d := by
    rw [List.getElem_append_left (by rw [List.length_map]; exact e2), List.getElem_map]
    congr 1
    exact (List.getElem?_eq_some_iff.1 e1).2
   rw [e3] at q2
   cases q2 with
   | d _ _ h => exact h
  refine .sl rows sz _ cp (fun j q => cs.getD (j * sz + q) undef) h0 hrows hc1 hc2 (fun _ => ⟨b0, 0, rfl, fun j hj q hq => ⟨hnM _, ?_⟩⟩) (fun j hj q hq => ?_)
  ·rw [Nat.zero_add]
   exact (hget j q _ _ (List.getElem?_eq_getElem hj) (List.getElem?_eq_getElem hq)).1
  ·exact (hget j q _ _ (List.getElem?_eq_getElem hj) (List.getElem?_eq_getElem hq)).2.cut _ _
 have hrep : Rep (c.cut L.length c.τ.length) w ⟨L.map (·.map (frz L.length (L.length + G0.length) rows)), T⟩ := by
  refine ⟨h5.hB, by simp [Cx.cut]; simp at hbl; omega, fun i b hi => ?_, fun i j b hi hj => ?_, ?_, fun t i ht => ?_, fun t t' i i' g off off' ht ht' => ?_, h5.inv⟩
  ·have hi' : (c.ρ.take L.length)[i]? = some b := hi
   rw [List.getElem?_take] at hi'
   split at hi'
   case isFalse => cases hi'
   rename_i hlt
   obtain ⟨a, cs, Ty, hh, vs, g1, g2, g3⟩ := h5.box i b hi'
   have g1' : L[i]? = some vs := by
    have : (L ++ ((G0 ++ [rows.flatten.map .d ++ X]) ++ J))[i]? = some vs := g1
    rwa [List.getElem?_append_left hlt] at this
   refine ⟨a, cs, Ty, hh, vs.map (frz L.length (L.length + G0.length) rows), ?_, by simpa using g2, fun j hj => ?_⟩
   ·show (L.map _)[i]? = _
    rw [List.getElem?_map, g1']
    rfl
   ·have hj' : j < vs.length := by simpa using hj
    rw [List.getElem_map]
    exact ⟨(g3 j hj').1.frz hb0 hD, (g3 j hj').2⟩
  ·have hi' : (c.ρ.take L.length)[i]? = some b := hi
   have hj' : (c.ρ.take L.length)[j]? = some b := hj
   rw [List.getElem?_take] at hi' hj'
   split at hi'
   case isFalse => cases hi'
   split at hj'
   case isFalse => cases hj'
   exact h5.inj i j b hi' hj'
  ·show T = (c.τ.take c.τ.length).map _
   rw [List.take_length]
   exact h5.toks
  ·have ht' : (c.τ.take c.τ.length)[t]? = some i := ht
   rw [List.take_length] at ht'
   obtain ⟨a1, a2, a3, a4, a5⟩ := h5.tok t i ht'
   refine ⟨a1, a2, a3, a4, fun hlt g off ha => ?_⟩
   obtain ⟨b1, b2, b3⟩ := a5 hlt g off ha
   exact ⟨b1, fun hm => b2 (List.mem_of_mem_take hm), b3⟩
  ·have ht1 : (c.τ.take c.τ.length)[t]? = some i := ht
   have ht2 : (c.τ.take c.τ.length)[t']? = some i' := ht'
   rw [List.take_length] at ht1 ht2
   exact h5.disj t t' i i' g off off' ht1 ht2
 have henv : EnvR (c.cut L.length c.τ.length) w (env.map (frz L.length (L.length + G0.length) rows)) a.tmps := by
  refine ⟨by simpa using h4.1, fun t ht => ?_⟩
  have ht' : t < env.length := by simpa using ht
  rw [List.getElem_map]
  exact (h4.2 t ht').frz hb0 hD
 refine h b a (c.cut L.length c.τ.length) w c0 w0 h1 h2 h3 henv hrep ⟨⟨fun g k v hm hv => ?_, fun i b hi => ?_, fun t i hi => ?_, h6.B⟩, h6.B, h6.I, h6.X, h6.below⟩ ⟨hI.1, hI.2⟩
 ·exact ⟨fun h => (h6.keeps.cell g k v hm hv).1 (cut_M h), (h6.keeps.cell g k v hm hv).2⟩
 ·have := (List.getElem?_eq_some_iff.1 hi).1
  exact get_take (h6.keeps.ρ i b hi) (by omega)
 ·obtain ⟨i', a1, a2⟩ := h6.keeps.τ t i hi
  have := (List.getElem?_eq_some_iff.1 a1).1
  exact ⟨i', get_take a1 this, a2⟩
end
theorem envS_map (n : Nat) (f : V → V) (hf : f .undef = .undef) (u : List (Nat × V)) : (envS n u).map f = envS n (u.map fun p => (p.1, f p.2)) := by
 unfold envS
 rw [List.map_map]
 refine List.map_congr_left fun t _ => ?_
 show f (lk u t) = _
 induction u with
 | nil => exact hf
 | cons p u ih =>
  rw [List.map_cons, lk_if, lk_if]
  split
  ·rfl
  ·exact ih
section
variable {P : Program} {I : Inv} {ops : Array Oper} {W : List Nat} {MM : Mem → Prop} {K : List V → Mem → Prop} {env : List V} {S : Mem} {listed : Array Bool}
theorem lexC_r {o : Oper} {l : List Oper} {k : Nat} {Q : V → Mem → Prop} (hS : MM S) (hk : W.contains k = true) (hg : o.guard = none) (hne : ∃ v S', Q v S') (h4 : OpR P I o env S Q) (h5 : ∀ v S', Q v S' → lexC P I W MM K l (k + 1) (setV env o.dst v) S') : lexC P I W MM K (o :: l) k env S :=
 ⟨fun _ => ⟨hS, hg, Q, hne, .inr (.inr h4), h5⟩, fun h => absurd (hk.symm.trans h) (by decide)⟩
def upB (n p : Nat) : Array Bool := (List.replicate p true ++ List.replicate (n - p) false).toArray
theorem anyC_q {n : Nat} (i : Nat) {oi : Oper} {v : V} (hi : ops[i]? = some oi) (hq : W.contains i = false) (hr : (Region.ready .any ops listed).contains i = true) (hf : Region.free .any ops listed i = true) (hg : oi.guard = none) (hy : ∀ S, MM S → op1 P (evalV I env) S oi.op = some (v, S)) (h : anyC P I ops W MM K n (listed.setIfInBounds i true) (setV env oi.dst v) S) : anyC P I ops W MM K (n + 1) listed env S :=
 anyC_quiet hi hq n listed env S (Region.free_spec hi hf) (by simpa using hr) ⟨hg, hy⟩ h
theorem wc_op {o : Oper} {K : V → Mem → Prop} {v : V} {S' : Mem} (hg : o.guard = none) (h1 : op1 P (evalV I env) S o.op = some (v, S')) (h : K v S') : WC P I o env S K :=
 ⟨hg, fun u T => u = v ∧ T = S', ⟨v, S', rfl, rfl⟩, .inl ⟨v, S', h1, rfl, rfl⟩, fun u T ⟨e1, e2⟩ => by subst e1 e2; exact h⟩
theorem anyC_two (i j : Nat) {oi oj : Oper} (hi : ops[i]? = some oi) (hj : ops[j]? = some oj) (hwi : W.contains i = true) (hwj : W.contains j = true) (hr : Region.ready .any ops listed = [i, j]) (hri : Region.ready .any ops (listed.setIfInBounds i true) = [j]) (hrj : Region.ready .any ops (listed.setIfInBounds j true) = [i])
 (hr2 : Region.ready .any ops ((listed.setIfInBounds i true).setIfInBounds j true) = []) (hr3 : Region.ready .any ops ((listed.setIfInBounds j true).setIfInBounds i true) = [])
 (h1 : WC P I oi env S fun v S1 => WC P I oj (setV env oi.dst v) S1 fun u S2 => K (setV (setV env oi.dst v) oj.dst u) S2) (h2 : WC P I oj env S fun v S1 => WC P I oi (setV env oj.dst v) S1 fun u S2 => K (setV (setV env oj.dst v) oi.dst u) S2) : anyC P I ops W (fun _ => True) K 2 listed env S := by
 have hmono : ∀ {o : Oper} {env : List V} {S : Mem} {K K' : V → Mem → Prop}, WC P I o env S K → (∀ v S', K v S' → K' v S') → WC P I o env S K' := fun ⟨a, Q, b, d, e⟩ hk => ⟨a, Q, b, d, fun v S' hQ => hk v S' (e v S' hQ)⟩
 refine ⟨trivial, fun h => (by rw [hr] at h; cases h), fun x hx => ?_⟩
 rw [hr] at hx
 simp only [List.mem_cons, List.not_mem_nil, or_false] at hx
 rcases hx with rfl | rfl
 ·refine ⟨oi, hi, .inl ⟨hwi, hmono h1 fun v S1 hv => ⟨trivial, fun h => (by rw [hri] at h; cases h), fun y hy => ?_⟩⟩⟩
  rw [hri] at hy
  obtain rfl := List.mem_singleton.1 hy
  exact ⟨oj, hj, .inl ⟨hwj, hmono hv fun u S2 hu => ⟨trivial, hr2, hu⟩⟩⟩
 ·refine ⟨oj, hj, .inl ⟨hwj, hmono h2 fun v S1 hv => ⟨trivial, fun h => (by rw [hrj] at h; cases h), fun y hy => ?_⟩⟩⟩
  rw [hrj] at hy
  obtain rfl := List.mem_singleton.1 hy
  exact ⟨oi, hi, .inl ⟨hwi, hmono hv fun u S2 hu => ⟨trivial, hr3, hu⟩⟩⟩
theorem ARun.drawF {z : Nat × Nat} {fn : FuncId} {k : List Item} {R : V → Mem → Prop} {id : Nat} (p : Nat) (W2 : List Nat) (W : List Nat) (MM : Mem → Prop) (n m : Nat) (hn : ops.size = n) (hnm : n - p = m) (hm : P.follows .mixedOrders = true) (hB : Region.lexB .any ops = true) (hW : waitsB ops W = true) (hs : splitB ops p = true) (hp : Nat.ble p ops.size = true)
 (h : lexC P I W MM (fun env S => anyC P I ops W2 (fun _ => True) (fun env S => ARun P I z fn k env S R) m (upB n p) env S) (ops.toList.take p) 0 env S) : ARun P I z fn (.code (.region id ops true) :: k) env S R := by
 subst hnm hn
 intro b a c w c0 w0 h1 h2 h3 h4 h5 h6 hI cs
 have hp := Nat.le_of_ble_eq_true hp
 have hd : Below w.heap.size w { w with drawn := w.drawn + 1 } := ⟨rfl, rfl, rfl, Nat.le_refl _, fun _ _ => rfl⟩
 obtain ⟨r1, r2⟩ := h5.under hd
 simp only [Region.lexB, Bool.and_eq_true] at hB
 simp only [waitsB, Bool.and_eq_true] at hW
 have hlt : (ops.toList.take p).length = p := by simp; omega
 have hB2 : Region.lexFrom .any ops ((ops.toList.take p).length + (ops.size - p)) 0 (Array.replicate ops.size false) = true := by
  rw [hlt, Nat.add_sub_cancel' hp]
  simpa using hB.2
 have hany := anyE_lex (P := P) (I := I) (MM := MM) (W := W) (K := fun listed env S => ∀ t, ARun P I z fn (.inRegion ops (Region.linearise.go .any ops (ops.size - p) t listed []) :: k) env S R) (splitB_ok hs) hW.1 hW.2 (ops.size - p) (fun listed env S hsz hls hB h t => by
  have hl : listed = upB ops.size p := by
   apply Array.ext
   ·simp [upB, hsz]; omega
   ·intro j hj hj'
    have := hls j (by omega)
    rw [show listed.getD j true = listed[j] by simp [hj]] at this
    rw [this]
    simp only [upB, List.getElem_toArray, List.getElem_append, List.length_replicate, List.getElem_replicate]
    split
    ·rename_i h; exact decide_eq_true h
    ·rename_i h; exact decide_eq_false h
  rw [hl]
  exact anyC_run (W := W2) (MM := fun _ => True) _ t _ env S h) (ops.toList.take p) 0 (Array.replicate ops.size false) env S (fun j hj => by rw [hlt] at hj; simp [hj]) (by rw [hlt, Nat.zero_add]) (by simp) (fun j hj => by simp [hj]) hB2 h
 have hrun := anyE_run (fn := fn) (k := k) (R := R) _ (w.tape w.drawn (.order b.fn id)) _ _ _ hany
 rw [hlt, Nat.add_sub_cancel' hp] at hrun
 obtain ⟨e, w', fr, g1, g2, g3⟩ := hrun b a c _ c0 w0 h1 h2 h3 (h4.ext r2) r1 (h6.trans r2) ⟨r2.I.trans hI.1, hI.2⟩ cs
 refine ⟨e, w', fr, g1, .of_steps (.one ?_) g2, g3⟩
 have := step_region_draw (P := P) (b := b) (a := a) (k := k) (cs := cs) (w := w) (ops := ops) (id := id)
 rw [this]
 simp only [Region.schedule, hm, Bool.true_or, if_true, Region.linearise]
end
end Go.Ab
namespace Go.Proofs.YtnnnhlkmdnacaaaGreatDoor
open Go.RowKit Go.Av Go.Ab
set_option linter.unusedSimpArgs false
set_option maxRecDepth 100000
set_option linter.defProp false
def c144 := by
 have c := KK_of Tryz.f144 (by conv => lhs; cbv)
 dsimp only [KK, KxP, doO, opO, List.map_cons, List.map_nil, List.toList_toArray] at c
 exact c
theorem b144 : FnIs Tryz.prog 144 Tryz.f144 44 := ⟨Tryz.func144, by kernel_rfl⟩
def xF (tx : List UInt8) (ts : List (List UInt8)) (t : Nat) (v : V) : List V := [.d (.int .i64 14), .d (.str []), .d (.int .u64 0), .d (.int .i64 7), .d (.str tx), .sl [] .full, .sl (ssD ts) (.own t), v]
theorem ss1 (x : List UInt8) : rowsSz 1 [[D.str x]] = true := rfl
theorem ssD_snoc (l : List (List UInt8)) (x : List UInt8) : ssD l ++ [[D.str x]] = ssD (l ++ [x]) := by simp [ssD]
abbrev KidsIs (N : Nat) (G : List (List V)) (xs : List ExT) (v : V) : Prop := BxIs (N + 2) 8 G (xs.map exD) v
theorem frz_boxes {B J : List (List V)} {T : List (Nat × Nat)} {c n i : Nat} {x y : List V} {rows : List (List D)} (hf : Fits ⟨B.set c x ++ J, T⟩) (hn : B.length + J.length = n) (hy : ∀ n m, y.all (fit n m) = true) : (B.set c y).map (·.map (frz n i rows)) = B.set c y := by
 have hall : ∀ vs : List V, vs.all (fit n T.length) = true → vs.map (frz n i rows) = vs := by
  intro vs hvs
  conv => rhs; rw [← List.map_id vs]
  exact List.map_congr_left fun v hv => frz_fit v (List.all_eq_true.1 hvs v hv)
 conv => rhs; rw [← List.map_id (B.set c y)]
 refine List.map_congr_left fun vs hvs => hall vs ?_
 obtain ⟨j, hj, rfl⟩ := List.mem_iff_getElem.1 hvs
 have hj' : j < B.length := by simpa using hj
 by_cases e : c = j
 ·subst e
  rw [List.getElem_set_self]
  exact hy _ _
 ·rw [List.getElem_set_ne e]
  have := hf B[j] (List.mem_append.2 (.inl (List.mem_iff_getElem.2 ⟨j, by simpa using hj', by rw [List.getElem_set_ne e]⟩)))
  simpa [hn] using this
theorem frz_box {B J : List (List V)} {T : List (Nat × Nat)} {n i : Nat} {Z : List V} {rows : List (List D)} (hf : Fits ⟨B ++ J, T⟩) (hZ : Z ∈ J) (hn : B.length + J.length = n) : Z.map (frz n i rows) = Z := by
 have := hf Z (List.mem_append.2 (.inr hZ))
 conv => rhs; rw [← List.map_id Z]
 exact List.map_congr_left fun v hv => frz_fit (m := T.length) v (by simpa [hn] using List.all_eq_true.1 this v hv)
theorem left_two {B G : List (List V)} {T K : List (Nat × Nat)} {c : Nat} {x y Z e e' : List V} {R : V → Mem → Prop} {v : V} (hc : c < B.length) (hy : ∀ n m, y.all (fit n m) = true) (he : ∀ n m, e'.all (fit n m) = true) (h : R (wk (B.set c x ++ [Z, e]).length T.length v) ⟨B.set c y ++ [Z, e'], T⟩) : Ab.Left ⟨B.set c x ++ [Z, e], T⟩ R v ⟨B.set c y ++ (Z :: e' :: G), T ++ K⟩ := by
 have h1 := Ab.Left.of (B := B.set c x ++ [Z, e]) (L := B.set c y ++ [Z, e']) (J := G) (T := T) (U := T) (K := K) (R := R) (v := v) (by simp) rfl (by
  have := ((FitL.refl (B.set c x ++ [Z, e]).length T.length (B.set c x ++ [Z, e])).set c (hy _ _)).set (B.length + 1) (he _ _)
  rw [List.set_append_left _ _ (by simpa using hc), List.set_set, List.set_append_right _ _ (by simp)] at this
  simpa using this) h
 simpa using h1
set_option maxHeartbeats 8000000 in
theorem fields_pp (bs : List UInt8) (h0 : True) (hl : bs.length ≤ 100000) {E : EP} {n : Nat} (hE : EOk bs E n) (hd : DnE E) : FOk bs E n := by
 intro M s tx Z c B T hs hM hc hok
 obtain ⟨N, hn⟩ : ∃ N, B.length = N := ⟨_, rfl⟩
 obtain ⟨t, ht⟩ : ∃ t, T.length = t := ⟨_, rfl⟩
 have hi : c < N := by omega
 have hmu := hok.mu_le
 obtain ⟨⟨⟨ts0, xs0⟩, s0⟩, hL⟩ : ∃ r, fldL E M s = r := ⟨_, rfl⟩
 rw [hL, hn]
 dsimp only
 refine b144.go 0 rfl fun hsm => ?_
 simp only [smw] at hsm
 simp only [W, seval, c144, hn, hi]
 refine ARun.fits fun hf => ?_
 refine ARun.tokenB (N + 1) 6 _ [] (by rw [bx_loc (by simpa using hn)]; rfl) (by rfl) 1 (by omega) rfl ?_
 rw [bx_set_loc (by simpa using hn)]
 change ARun _ _ _ _ _ _ ⟨B.set c (bxP bs s) ++ [Z, xF tx [] T.length (.sl [] .full)], T ++ [(0, 1)]⟩ _
 rw [ht]
 refine ARun.go 5 ?_
 simp only [W, seval, c144]
 refine ARun.after [_, _] _ (fun a : List (List V) × V => (envS 44 [(0, .ptr c 0), (1, .ptr (N + 1) 0)], ⟨B.set c (bxP bs s0) ++ (Z :: xF tx ts0 t a.2 :: a.1), T ++ [(ts0.length, 1)]⟩)) (fun a => OkP bs s0 ∧ KidsIs N a.1 xs0 a.2) ?_ ?_
 ·rintro ⟨G, v⟩ ⟨hok0, hk⟩
  refine ARun.go 20 ?_
  simp only [W, seval, c144, hn, hi]
  first
   | refine PP.call0 (want_pp bs h0 hl s0 [125]) hc hok0 fun hok1 => ?_
   | refine PP.call (want_pp bs h0 hl s0 [125]) hc hok0 fun hok1 => ?_
  refine ARun.go 20 ?_
  simp only [W, seval, c144, hn, hi]
  rcases hk with ⟨_, hx0, hv⟩ | ⟨G0, cap, hG, hv, hk⟩
  ·obtain rfl : xs0 = [] := by simpa using hx0
   dsimp only at hv ⊢
   subst hv
   refine ARun.plainJ 1 _ (exL (.mk 14 [] 0 (.mk 7 tx []) ts0 [])) (by rfl) (.same (.same (.same (.same (.same (.sl (.sl (.sl .nil)))))))) ?_
   refine ARun.fin Tryz.func144 rfl (left_two hc (fun _ _ => rfl) (fun _ _ => rfl) ?_)
   exact ⟨rfl, hok1, rfl⟩
  ·dsimp only at hG hv ⊢
   have hkb : BxIs (B.set c (bxP bs (wantP s0 [125])) ++ [Z, xF tx ts0 t v]).length 8 G (xs0.map exD) v := by
    rw [List.length_append, List.length_set, hn]
    exact .inr ⟨G0, cap, hG, hv, hk⟩
   have hsp : B.set c (bxP bs (wantP s0 [125])) ++ (Z :: xF tx ts0 t v :: G) = (B.set c (bxP bs (wantP s0 [125])) ++ [Z, xF tx ts0 t v]) ++ (G ++ []) := by simp
   rw [hsp]
   rw [hv] at hkb ⊢
   refine ARun.freeze (by omega) hkb ⟨by simp [hn], by simp [ht]⟩ ?_
   have hln : (B.set c (bxP bs (wantP s0 [125])) ++ [Z, xF tx ts0 t (.bx (N + 2 + G0.length) (xs0.map exD).length cap)]).length = N + 2 := by simp [hn]
   have hlt : ¬ (N + 2 + G0.length < N + 2) := by omega
   rw [hln, envS_map _ _ (by simp [frz]), List.map_append, frz_boxes hf (by simp [hn]) (fun _ _ => rfl)]
   have hxm : (xF tx ts0 t (.bx (N + 2 + G0.length) (xs0.map exD).length cap)).map (frz (N + 2) (N + 2 + G0.length) (xs0.map exD)) = xF tx ts0 t (.d (.sl (xs0.map exD))) := by simp [xF, frz, hlt]
   have hzm := frz_box (n := N + 2) (i := N + 2 + G0.length) (rows := xs0.map exD) (Z := Z) hf (by simp) (by simp [hn])
   simp only [List.map_cons, List.map_nil, hzm, hxm]
   refine ARun.plainJ 1 _ (exL (.mk 14 [] 0 (.mk 7 tx []) ts0 xs0)) (by rfl) (.same (.same (.same (.same (.same (.sl (.sl (.same .nil)))))))) ?_
   refine ARun.fin Tryz.func144 rfl (left_two (G := []) hc (fun _ _ => rfl) (fun _ _ => rfl) ?_)
   exact ⟨rfl, hok1, rfl⟩
 intro K' hend
 refine ARun.loopW (fun a : ((List (List UInt8) × List ExT) × (List (List V) × V)) × Ps => (envS 44 [(0, .ptr c 0), (1, .ptr (N + 1) 0)], ⟨B.set c (bxP bs a.2) ++ (Z :: xF tx a.1.1.1 t a.1.2.2 :: a.1.2.1), T ++ [(a.1.1.1.length, 1)]⟩)) (fun a => OkP bs a.2 ∧ KidsIs N a.1.2.1 a.1.1.2 a.1.2.2 ∧ a.1.1.1.length = a.1.1.2.length ∧ a.1.1.2.length + mu a.2 ≤ mu s ∧ ∃ q, mu a.2 < q ∧ ((a.1.1.1 ++ (fldL E q a.2).1.1, a.1.1.2 ++ (fldL E q a.2).1.2), (fldL E q a.2).2) = ((ts0, xs0), s0)) (fun a => mu a.2) ((([], []), ([], .sl [] .full)), s) ⟨hok, .inl ⟨rfl, rfl, rfl⟩, rfl, by simp, M, hM, by dsimp only; rw [hL]; simp⟩ ?_ rfl ?_
 ·skip
  refine Agree.env _ ?_
  simp only [agw, seval, hn]
 rintro ⟨⟨⟨ts, xs⟩, G, v⟩, s5⟩ ⟨hok5, hk, hll, hle, q, hq, hr⟩ ih
 dsimp only at hok5 hk hll hle hq hr ih ⊢
 cases q with
 | zero => omega
 | succ q =>
 rw [fldL] at hr
 by_cases he : s5.e = 0
 case neg =>
  have e1 := decide_eq_false he
  rw [if_neg (fun h => he h.1)] at hr
  dsimp only at hr
  rw [List.append_nil, List.append_nil] at hr
  obtain ⟨h1, rfl⟩ := Prod.mk.inj hr
  obtain ⟨rfl, rfl⟩ := Prod.mk.inj h1
  refine ARun.goK (k := [_, _, _]) 80 ?_
  simp only [W, seval, c144, hn, hi, bxP, e1]
  refine hend (G, v) ⟨hok5, hk⟩ _ _ ?_ rfl
  refine Agree.env _ ?_
  simp only [agw, seval, hn]
 have e1 := decide_eq_true he
 refine ARun.goK (k := [_, _, _]) 80 ?_
 simp only [W, seval, c144, hn, hi, bxP, e1]
 refine PP.call (is_pp bs s5 [125]) hc hok5 fun _ => ?_
 cases q1 : isP s5 [125]
 case' true =>
  rw [if_neg (fun h => by rw [q1] at h; exact absurd h.2 (by decide))] at hr
  dsimp only at hr
  rw [List.append_nil, List.append_nil] at hr
  obtain ⟨h1, rfl⟩ := Prod.mk.inj hr
  obtain ⟨rfl, rfl⟩ := Prod.mk.inj h1
  refine ARun.goK 80 ?_
  simp only [W, seval, c144, hn, hi]
  refine hend (G, v) ⟨hok5, hk⟩ _ _ ?_ rfl
  refine Agree.env _ ?_
  simp only [agw, seval, hn]
 case' false =>
  rw [if_pos ⟨he, q1⟩] at hr
  obtain ⟨⟨tn, s6⟩, hx⟩ : ∃ r, nameP s5 = r := ⟨_, rfl⟩
  have hpx := name_pp bs h0 hl s5
  have hdx := (dn_name hx).le
  rw [hx] at hpx hr
  dsimp only at hpx hr
  have hcap : (ts.length + 1) * 16 ≤ 140737488355328 := by omega
  have hcap2 : (xs.length + 1) * 128 ≤ 140737488355328 := by omega
  refine ARun.goK 10 ?_
  simp only [W, seval, c144, hn, hi]
  refine PP.wit hpx hc hok5 (ha0 (by rfl)) fun hok6 => ?_
  refine ARun.drawE 9 [6, 8, 11] (fun S => S.boxes[N + 1]? = some (xF tx ts t v)) (by kernel_rfl) (by kernel_rfl) (by kernel_rfl) (by kernel_rfl) (by kernel_rfl) ?_
  simp only [W, seval, c144]
  refine lexC_q (v := ?_) (by rfl) (by kernel_rfl) (fun S hS => ?_) ?_
  rotate_left
  ·simp only [W, seval, c144]
   exact rfl
  simp only [W, seval, c144]
  refine lexC_q (v := ?_) (by rfl) (by kernel_rfl) (fun S hS => ?_) ?_
  rotate_left
  ·simp only [W, seval, c144]
   exact rfl
  simp only [W, seval, c144]
  refine lexC_q (v := ?_) (by rfl) (by kernel_rfl) (fun S hS => ?_) ?_
  rotate_left
  ·simp only [W, seval, c144]
   exact rfl
  simp only [W, seval, c144]
  refine lexC_q (v := ?_) (by rfl) (by kernel_rfl) (fun S hS => ?_) ?_
  rotate_left
  ·simp only [W, seval, c144]
   exact rfl
  simp only [W, seval, c144]
  refine lexC_q (v := ?_) (by rfl) (by kernel_rfl) (fun S hS => ?_) ?_
  rotate_left
  ·try dsimp only at hS
   simp only [W, seval, c144, hS, xF]
   exact rfl
  simp only [W, seval, c144]
  refine lexC_q (v := ?_) (by rfl) (by kernel_rfl) (fun S hS => ?_) ?_
  rotate_left
  ·simp only [W, seval, c144]
   exact rfl
  simp only [W, seval, c144]
  refine PP.lexc (hpx) hc hok5 hok6 ?_ (by rfl) (by kernel_rfl) ?_ ?_
  ·first | trivial | simp [bx_loc, bx_loc0, hn]
  ·simp only [W, seval, c144]
   exact ⟨_, _, rfl, rfl, by rfl, by simp only [W, seval, c144]⟩
  simp only [W, seval, c144]
  refine lexC_q (v := ?_) (by rfl) (by kernel_rfl) (fun S hS => ?_) ?_
  rotate_left
  ·simp only [W, seval, c144, mapD_nil, mapD_cons, Nat.reduceMul]
   exact rfl
  simp only [W, seval, c144]
  refine lexC_w (v := ?_) (S' := ?_) ?_ (by rfl) (by kernel_rfl) ?_ ?_
  rotate_left 2
  ·first | trivial | simp [bx_loc, bx_loc0, hn, ht, hcap, ss1, ssD_snoc, ssD_length, Nat.reduceMul]
  ·simp only [W, seval, c144, hn, ht, hcap, ss1, ssD_snoc, ssD_length, Nat.reduceMul]
   exact rfl
  simp only [W, seval, c144]
  refine lexC_end (by simp [bx_loc, hn]) ?_
  refine lexC_q (v := ?_) (by rfl) (by kernel_rfl) (fun S hS => ?_) ?_
  rotate_left
  ·simp only [W, seval, c144]
   exact rfl
  simp only [W, seval, c144]
  refine lexC_q (v := ?_) (by rfl) (by kernel_rfl) (fun S hS => ?_) ?_
  rotate_left
  ·simp only [W, seval, c144]
   exact rfl
  simp only [W, seval, c144]
  refine lexC_w (v := ?_) (S' := ?_) ?_ (by rfl) (by kernel_rfl) ?_ ?_
  rotate_left 2
  ·first | trivial | simp [bx_loc, bx_loc0, hn, xF]
  ·simp only [W, seval, c144, hn, xF]
   exact rfl
  simp only [W, seval, c144]
  refine lexC_end trivial ?_
  refine ARun.goK (k := [_, _, _, _]) 10 ?_
  simp only [W, seval, c144]
  first
   | refine PP.call0 (want_pp bs h0 hl s6 [58]) hc hok6 fun hok7 => ?_
   | refine PP.call (want_pp bs h0 hl s6 [58]) hc hok6 fun hok7 => ?_
  have hdw := (dn_want s6 [58]).le
  generalize wantP s6 [58] = s7 at *
  obtain ⟨⟨x, s8⟩, hy⟩ : ∃ r, E s7 = r := ⟨_, rfl⟩
  have hpy := hE s7 (by omega)
  have hdy := (hd.at hy).le
  rw [hy] at hpy hr
  dsimp only at hpy hr
  unfold exV at hpy
  refine ARun.goK (k := [_, _, _, _]) 2 ?_
  simp only [W, seval, c144]
  have hlen : (ts ++ [tn]).length = ts.length + 1 := by simp
  change ARun _ _ _ _ _ _ ⟨B.set c (bxP bs s7) ++ (Z :: xF tx (ts ++ [tn]) t v :: G), T ++ [(ts.length + 1, 1)]⟩ _
  refine ARun.after [_] _ (fun a : List (List V) × V => (envS 44 [(0, .ptr c 0), (1, .ptr (N + 1) 0)], ⟨B.set c (bxP bs s8) ++ (Z :: xF tx (ts ++ [tn]) t a.2 :: a.1), T ++ [(ts.length + 1, 1)]⟩)) (fun a => OkP bs s8 ∧ KidsIs N a.1 (xs ++ [x]) a.2) ?_ ?_
  ·rintro ⟨G2, v2⟩ ⟨hok8, hk2⟩
   refine ARun.goK (k := [_, _, _, _]) 20 ?_
   simp only [W, seval, c144]
   obtain ⟨⟨b, s9⟩, hg_s9⟩ : ∃ r, gotP s8 [44] = r := ⟨_, rfl⟩
   have hp_s9 := got_pp bs h0 hl s8 [44]
   rw [hg_s9] at hp_s9
   dsimp only at hp_s9
   first
    | refine PP.call0 hp_s9 hc hok8 fun hok9 => ?_
    | refine PP.call hp_s9 hc hok8 fun hok9 => ?_
   rw [hg_s9] at hr
   cases b
   case' false =>
    dsimp only at hr
    obtain ⟨h1, rfl⟩ := Prod.mk.inj hr
    obtain ⟨rfl, rfl⟩ := Prod.mk.inj h1
    refine ARun.goK 80 ?_
    simp only [W, seval, c144, hn, hi]
    refine hend (G2, v2) ⟨hok9, hk2⟩ _ _ ?_ (by dsimp only; rw [hlen])
    refine Agree.env _ ?_
    simp only [agw, seval, hn]
   case' true =>
    have hlt := got_lt hg_s9
    dsimp only at hr
    obtain ⟨⟨⟨ts3, xs3⟩, s3⟩, h5⟩ : ∃ r, fldL E q s9 = r := ⟨_, rfl⟩
    rw [h5] at hr
    dsimp only at hr
    refine ARun.goK 80 ?_
    simp only [W, seval, c144, hn, hi]
    refine ih (((ts ++ [tn], xs ++ [x]), (G2, v2)), s9) ⟨hok9, hk2, by simp [hll], by simp; omega, q, by dsimp only; omega, by dsimp only; rw [h5, ← hr]; simp⟩ (by dsimp only; omega) _ _ ?_ (by dsimp only; rw [hlen])
    refine Agree.env _ ?_
    simp only [agw, seval, hn]
  intro K2 hend2
  refine ARun.goK (k := [_]) 1 ?_
  simp only [W, seval, c144]
  refine PP.wit hpy hc hok7 (haN 1 (by rfl)) fun hok8 => ?_
  refine ARun.drawF 9 [10, 13] [5, 8] (fun S => S.boxes[N + 1]? = some (xF tx (ts ++ [tn]) t v)) 14 5 (by kernel_rfl) rfl (by kernel_rfl) (by kernel_rfl) (by kernel_rfl) (by kernel_rfl) (by kernel_rfl) ?_
  simp only [W, seval, c144]
  refine lexC_q (v := ?_) (by rfl) (by kernel_rfl) (fun S hS => ?_) ?_
  rotate_left
  ·simp only [W, seval, c144]
   exact rfl
  simp only [W, seval, c144]
  refine lexC_q (v := ?_) (by rfl) (by kernel_rfl) (fun S hS => ?_) ?_
  rotate_left
  ·simp only [W, seval, c144]
   exact rfl
  simp only [W, seval, c144]
  refine lexC_q (v := ?_) (by rfl) (by kernel_rfl) (fun S hS => ?_) ?_
  rotate_left
  ·simp only [W, seval, c144]
   exact rfl
  simp only [W, seval, c144]
  refine lexC_q (v := ?_) (by rfl) (by kernel_rfl) (fun S hS => ?_) ?_
  rotate_left
  ·try dsimp only at hS
   simp only [W, seval, c144, hS, xF]
   exact rfl
  simp only [W, seval, c144]
  refine lexC_q (v := ?_) (by rfl) (by kernel_rfl) (fun S hS => ?_) ?_
  rotate_left
  ·simp only [W, seval, c144]
   exact rfl
  simp only [W, seval, c144]
  refine PP.lexc (hpy) hc hok7 hok8 ?_ (by rfl) (by kernel_rfl) ?_ ?_
  ·first | trivial | simp [bx_loc, bx_loc0, hn]
  ·simp only [W, seval, c144]
   exact ⟨_, _, rfl, rfl, by rfl, by simp only [W, seval, c144]⟩
  simp only [W, seval, c144]
  have hol := BxIs.opLen ty41 rfl hk
  unfold Ab.opLen at hol
  rw [ty41, List.length_map] at hol
  refine lexC_q (v := ?_) (by rfl) (by kernel_rfl) (fun S hS => ?_) ?_
  rotate_left
  ·simp only [W, seval, c144, hol]
   exact rfl
  simp only [W, seval, c144]
  refine lexC_q (v := .sl [exD zeroE] .full) (by rfl) (by kernel_rfl) (fun S hS => by kernel_rfl) ?_
  simp only [W, seval, c144]
  have hmem : B.set c (bxP bs s8) ++ (Z :: xF tx (ts ++ [tn]) t v :: G) = (B.set c (bxP bs s8) ++ [Z, xF tx (ts ++ [tn]) t v]) ++ G := by simp
  have hln : (B.set c (bxP bs s8) ++ [Z, xF tx (ts ++ [tn]) t v]).length = N + 2 := by simp [hn]
  have hz8 : (exD zeroE).length = 8 := rfl
  rw [hmem]
  refine lexC_r (by rw [← hmem]; simp [bx_loc, hn]) (by rfl) (by kernel_rfl) ?_ (OpR.appB (s := v) (x := .sl [exD zeroE] .full) (rows := xs.map exD) (so := .tmp 30) (xo := .tmp 34) (o := opAt (opsOf (kF Tryz.f144 15)) 8) (by kernel_rfl) ty41 rfl ty43 ty41 ⟨_, rfl⟩ (by rfl) (by rfl) (by rw [hln]; exact hk) rfl hz8 (by simpa using hcap2) (by decide)) ?_
  ·obtain ⟨G', v', h1, h2⟩ := BxIs.exist (n := (B.set c (bxP bs s8) ++ [Z, xF tx (ts ++ [tn]) t v]).length) (sz := 8) (rows := xs.map exD ++ [exD zeroE]) (rowsSz_iff (by have := rowsSz_ex (xs ++ [zeroE]); simpa using this))
   exact ⟨v', _, G', rfl, h1, h2⟩
  rintro v' _ ⟨G', rfl, hk', j, k, cap, rfl⟩
  rw [hln] at hk'
  have hkl := hk'.len rfl
  refine lexC_end (by simp [bx_loc, hn]) ?_
  simp only [W, seval, c144]
  have hidx := BxIs.idx (i := j) (cap := cap) (q := .i64) (j := xs.length) ty41 rfl ty43 (show xs.length < k by rw [hkl]; simp)
  have hsp : ∀ (y : List V) (G : List (List V)), B.set c (bxP bs s8) ++ (Z :: y :: G) = (B.set c (bxP bs s8) ++ [Z, y]) ++ G := fun y G => by simp
  have hset : (xs.map exD ++ [exD zeroE]).set xs.length (exD x) = (xs ++ [x]).map exD := by
   rw [List.set_append_right _ _ (by simp)]
   simp
  have hfin : ∀ (y : V) (G2 : List (List V)) (env' : List V), y = .bx j k cap → KidsIs N G2 (xs ++ [x]) y → EnvW (envS 44 [(0, .ptr c 0), (1, .ptr (N + 1) 0)]) env' → ARun Tryz.prog TabI (N + 2, t) 144 K2 env' ⟨B.set c (bxP bs s8) ++ (Z :: xF tx (ts ++ [tn]) t y :: G2), T ++ [(ts.length + 1, 1)]⟩ _ := fun y G2 env' hy hk2 he2 => hend2 (G2, y) ⟨hok8, hk2⟩ env' _ he2 rfl
  refine anyC_q 9 (v := .ptr j (xs.length * 8)) (oi := opAt (opsOf (kF Tryz.f144 15)) 9) (by kernel_rfl) (by rfl) (by kernel_rfl) (by kernel_rfl) (by kernel_rfl) (fun S _ => ?_) ?_
  ·change Option.map (fun v => (v, S)) (opIndexAddr Tryz.prog 41 (.bx j k cap) (.d (.int .i64 (xs.length : Int)))) = _
   rw [hidx]
   rfl
  refine anyC_q 11 (v := .ptr (N + 1) 0) (oi := opAt (opsOf (kF Tryz.f144 15)) 11) (by kernel_rfl) (by rfl) (by kernel_rfl) (by kernel_rfl) (by kernel_rfl) (fun S _ => by kernel_rfl) ?_
  refine anyC_q 12 (v := .ptr (N + 1) 7) (oi := opAt (opsOf (kF Tryz.f144 15)) 12) (by kernel_rfl) (by rfl) (by kernel_rfl) (by kernel_rfl) (by kernel_rfl) (fun S _ => by kernel_rfl) ?_
  simp only [W, seval, c144]
  refine anyC_two 10 13 (oi := opAt (opsOf (kF Tryz.f144 15)) 10) (oj := opAt (opsOf (kF Tryz.f144 15)) 13) (by kernel_rfl) (by kernel_rfl) (by rfl) (by rfl) (by kernel_rfl) (by kernel_rfl) (by kernel_rfl) (by kernel_rfl) (by kernel_rfl) ?_ ?_
  ·obtain ⟨G2, hst, hk2⟩ := BxIs.store (T := T ++ [(ts.length + 1, 1)]) (r := exD x) (j := xs.length) (L := B.set c (bxP bs s8) ++ [Z, xF tx (ts ++ [tn]) t v]) ty43 (by rw [hln]; exact hk') rfl (by simp) (by rw [exD_eq]; rfl)
   rw [hset, hln] at hk2
   rw [← hsp, ← hsp, exD_eq x] at hst
   refine wc_op (by kernel_rfl) (v := .undef) (Eq.trans (by kernel_rfl) hst) ?_
   refine wc_op (v := .undef) (S' := ⟨B.set c (bxP bs s8) ++ (Z :: xF tx (ts ++ [tn]) t (.bx j k cap) :: G2), T ++ [(ts.length + 1, 1)]⟩) (by kernel_rfl) ?_ ?_
   ·simp only [W, seval, c144, hn, xF]
   ·refine hfin _ _ _ rfl hk2 ?_
    simp only [W, seval, c144]
    refine Agree.env _ ?_
    simp only [agw, seval, hn]
  ·have hln2 : (B.set c (bxP bs s8) ++ [Z, xF tx (ts ++ [tn]) t (.bx j k cap)]).length = N + 2 := by simp [hn]
   obtain ⟨G2, hst, hk2⟩ := BxIs.store (T := T ++ [(ts.length + 1, 1)]) (r := exD x) (j := xs.length) (L := B.set c (bxP bs s8) ++ [Z, xF tx (ts ++ [tn]) t (.bx j k cap)]) ty43 (by rw [hln2]; exact hk') rfl (by simp) (by rw [exD_eq]; rfl)
   rw [hset, hln2] at hk2
   rw [← hsp, ← hsp, exD_eq x] at hst
   refine wc_op (v := .undef) (S' := ⟨B.set c (bxP bs s8) ++ (Z :: xF tx (ts ++ [tn]) t (.bx j k cap) :: G'), T ++ [(ts.length + 1, 1)]⟩) (by kernel_rfl) ?_ ?_
   ·simp only [W, seval, c144, hn, xF]
   refine wc_op (by kernel_rfl) (v := .undef) (Eq.trans (by kernel_rfl) hst) ?_
   refine hfin _ _ _ rfl hk2 ?_
   simp only [W, seval, c144]
   refine Agree.env _ ?_
   simp only [agw, seval, hn]
def c66 := by
 have c := KK_of Tryz.f66 (by conv => lhs; cbv)
 dsimp only [KK, KxP, doO, opO, List.map_cons, List.map_nil, List.toList_toArray] at c
 exact c
theorem b66 : FnIs Tryz.prog 66 Tryz.f66 8 := ⟨Tryz.func66, by kernel_rfl⟩
def c35 := by
 have c := KK_of Tryz.f35 (by conv => lhs; cbv)
 dsimp only [KK, KxP, doO, opO, List.map_cons, List.map_nil, List.toList_toArray] at c
 exact c
theorem b35 : FnIs Tryz.prog 35 Tryz.f35 80 := ⟨Tryz.func35, by kernel_rfl⟩
def c9 := by
 have c := KK_of Tryz.f9 (by conv => lhs; cbv)
 dsimp only [KK, KxP, doO, opO, List.map_cons, List.map_nil, List.toList_toArray] at c
 exact c
theorem b9 : FnIs Tryz.prog 9 Tryz.f9 6 := ⟨Tryz.func9, by kernel_rfl⟩
set_option maxHeartbeats 1000000 in
theorem prog1_ab (x : TyT) (a c : Nat) (p : Int) (B : List (List V)) (T : List (Nat × Nat)) (hB : B[c]? = some [.d (.int .i64 p)]) (ha : B[a]? = some [.ptr c 0]) (hp : 0 ≤ p ∧ p ≤ 60000) :
 AFn Tryz.prog TabI 66 [tyV x, .ptr a 0] ⟨B, T⟩ (Same (.d (.bool (!(tyS identS x 0 p).1))) ⟨B.set c [.d (.int .i64 (tyS identS x 0 p).2)], T⟩) := by
 obtain ⟨N, hn⟩ : ∃ N, B.length = N := ⟨_, rfl⟩
 have hc := (List.getElem?_eq_some_iff.1 hB).1
 have hi : c < N := by omega
 have hia : a < N := by have := (List.getElem?_eq_some_iff.1 ha).1; omega
 have h := typ_ab x c 0 p (B ++ [[.d (.int .i64 x.kind), .d (.str x.name), .d (.sl (x.elem.map tyD))]]) T (by rw [bx_old hc]; exact hB) hp (by omega)
 unfold tyV at h ⊢
 refine b66.go 100 rfl fun hsm => ?_
 simp only [smw] at hsm
 simp only [W, seval, c66, hn, hi, hia, ha]
 refine callS_fn (h) ?_
 rintro _ _ ⟨rfl, rfl⟩
 refine ARun.go 100 ?_
 simp only [W, seval, c66, hn, hi, hia, ha]
 refine ARun.ret Tryz.func66 rfl (Left.set (by rfl) ?_)
 (try clear ih)
 (try simp only [dnw] at *)
 simp only [fnw, seval, Same] <;> simp [*]
 skip
theorem ty_good (a c : Nat) (B X : List (List V)) (T : List (Nat × Nat)) (hc : c < B.length) (ha : ∀ q : Int, (B.set c [.d (.int .i64 q)] ++ X)[a]? = some [.ptr c 0]) :
 ∀ (l : List TyT) (q : Int), 0 ≤ q ∧ q ≤ 60000 → Good Tryz.prog TabI 66 [] [.ptr a 0] tyV (fun q : Int => ⟨B.set c [.d (.int .i64 q)] ++ X, T⟩) (fun x q => (!(tyS identS x 0 q).1, (tyS identS x 0 q).2)) l q
 | [], _, _ => trivial
 | x :: l, q, hq => by
  have hcx : c < (B.set c [.d (.int .i64 q)]).length := by simpa using hc
  refine ⟨?_, fun h => ?_⟩
  ·have := prog1_ab x a c q (B.set c [.d (.int .i64 q)] ++ X) T (by rw [bx_old hcx]; exact bx_get hc) (ha q) hq
   rw [bx_set_old hcx, List.set_set] at this
   exact this
  ·have h : (tyS identS x 0 q).1 = true := by simpa using h
   have h1 := tyS_ok identS x 0 q h
   exact ty_good a c B X T hc ha l _ ⟨Int.le_trans hq.1 (by dsimp only; omega), h1.2⟩
theorem app3 {α : Type} (A : List α) (a b c : α) : A ++ [a, b, c] = (A ++ [a, b]) ++ [c] := by simp
set_option maxHeartbeats 4000000 in
theorem prog_ab (n : Nat) (pr : PrT) (hst : ∀ f ∈ pr.funcs, ∀ x ∈ f.body, StmtOk n x) (c : Nat) (p : Int) (B : List (List V)) (T : List (Nat × Nat)) (hB : B[c]? = some [.d (.int .i64 p)]) (hp : 0 ≤ p ∧ p ≤ 60000) :
 AFn Tryz.prog TabI 35 [.ptr c 0, prV pr] ⟨B, T⟩ (Same (.d (.bool (prS n pr p).1)) ⟨B.set c [.d (.int .i64 (prS n pr p).2)], T⟩) := by
 obtain ⟨N, hn⟩ : ∃ N, B.length = N := ⟨_, rfl⟩
 have hc := (List.getElem?_eq_some_iff.1 hB).1
 have hi : c < N := by omega
 have hi1 : c < N + 2 := by omega
 have hN1 : N < N + 2 := by omega
 have hN2 : N + 1 < N + 2 := by omega
 have hbs : B.set c [.d (.int .i64 p)] = B := by
  obtain ⟨_, h⟩ := List.getElem?_eq_some_iff.1 hB
  rw [← h, List.set_getElem_self]
 generalize hres : prS n pr p = res
 change andS (rowS suS pr.structs) (rowS (fuS n) pr.funcs) p = res at hres
 unfold prV
 refine b35.go 7 rfl fun hsm => ?_
 simp only [smw] at hsm
 simp only [W, seval, c35, hn, hi]
 refine ARun.join (fun q : Int => (envS 80 [(2, .ptr N 0), (3, .ptr (N + 1) 0), (4, .d (.bool false))], ⟨B.set c [.d (.int .i64 q)] ++ [[.ptr c 0], [.d (.sl (pr.structs.map suD)), .d (.sl (pr.funcs.map fuD))]], T⟩)) (fun q => (0 ≤ q ∧ q ≤ 60000) ∧ rowS (fuS n) pr.funcs q = res) ?_ ?_
 rotate_left
 ·intro K' hK
  refine ARun.goJ 30 ?_
  simp only [W, seval, c35, hn, hi]
  refine ARun.fits fun hf => ?_
  have hf2 : ∀ q' : Int, Fits ⟨B.set c [.d (.int .i64 q')] ++ [[.ptr c 0], [.d (.sl (pr.structs.map suD)), .d (.sl (pr.funcs.map fuD))]], T⟩ := fun q' => by
   have := hf.set (i := c) (vs := [.d (.int .i64 q')]) rfl
   rwa [bx_set_old (by omega)] at this
  refine ARun.loopB (fun a : Nat × Int => (envS 80 [(2, .ptr N 0), (3, .ptr (N + 1) 0), (4, .d (.bool false)), (10, .d (.sl (pr.structs.map suD))), (11, .d (.int .i64 pr.structs.length)), (12, .d (.int .i64 a.1))], ⟨B.set c [.d (.int .i64 a.2)] ++ [[.ptr c 0], [.d (.sl (pr.structs.map suD)), .d (.sl (pr.funcs.map fuD))]], T⟩)) (fun a => a.1 ≤ pr.structs.length ∧ (0 ≤ a.2 ∧ a.2 ≤ 60000) ∧ andS (rowS suS (pr.structs.drop a.1)) (rowS (fuS n) pr.funcs) a.2 = res) (fun a => pr.structs.length - a.1) (0, p) ⟨by omega, hp, hres⟩ ?_ (by rw [hbs]) ?_
  ·skip
   refine Agree.env _ ?_
   simp only [agw, seval, hn]
  rintro ⟨i, q⟩ ⟨h1, h2, h3⟩ ih
  dsimp only at h1 h2 h3 ih ⊢
  by_cases hlt : i < pr.structs.length
  ·have hw := wrap_in ((i : Int) + 1) (by omega)
   have hg := List.getElem?_eq_getElem hlt
   have hlt' : decide ((i : Int) < (pr.structs.length : Int)) = true := decide_eq_true (by omega)
   rw [drop_get hlt] at h3
   obtain ⟨x, hx⟩ : ∃ x, pr.structs[i] = x := ⟨_, rfl⟩
   rw [hx] at hg h3
   change andS (andS (suS x) (rowS suS (pr.structs.drop (i + 1)))) (rowS (fuS n) pr.funcs) q = res at h3
   rw [andS_assoc] at h3
   change andS (andS (partS 0) (andS (allowS (identS x.name)) (paS 60 x.fields))) _ q = res at h3
   rw [andS_assoc] at h3
   have hpar := params_ab 60 (by omega) x.fields c
   have hcast : ((60 : Nat) : Int) = 60 := rfl
   rw [hcast] at hpar
   refine ARun.goJ 100 ?_
   simp only [W, seval, c35, hn, hi, List.getElem?_map, hg, hlt', suD]
   refine callS_fn (part_ab c 0 q _ _ (by rw [bx_old (by simp; omega)]; exact bx_get hc) h2) ?_
   rintro _ _ ⟨rfl, rfl⟩
   refine ARun.goK 200 ?_
   simp only [W, seval, c35, hn, hi]
   cases hk : partOk 0 q
   ·rw [andS_no (show (partS 0 q).1 = false from hk)] at h3
    simp only [W, seval, c35, hn, hi, hk]
    refine ARun.ret Tryz.func35 rfl (Left.set (by rfl) ?_)
    rw [← h3]
    (try clear ih)
    (try simp only [dnw] at *)
    simp only [fnw, seval, Same] <;> simp [*]
    rfl
   have hpo := partOk_in hk
   rw [andS_yes (show (partS 0 q).1 = true from hk)] at h3
   change andS _ _ (q + 1) = res at h3
   rw [andS_assoc] at h3
   simp only [W, seval, c35, hn, hi, hk]
   refine callS_fn (ident_ab x.name _) ?_
   rintro _ _ ⟨rfl, rfl⟩
   refine ARun.goK 200 ?_
   simp only [W, seval, c35, hn, hi]
   cases hid : identS x.name
   ·rw [andS_no (by rw [hid]; rfl)] at h3
    simp only [W, seval, c35, hn, hi]
    refine ARun.ret Tryz.func35 rfl (Left.set (by rfl) ?_)
    rw [← h3]
    (try clear ih)
    (try simp only [dnw] at *)
    simp only [fnw, seval, Same] <;> simp [*]
    rfl
   rw [andS_yes (by rw [hid]; rfl)] at h3
   change andS _ _ (q + 1) = res at h3
   simp only [W, seval, c35, hn, hi]
   refine callS_fn (hpar (q + 1) _ T (by rw [bx_old (by simp; omega)]; exact bx_get hc) ⟨by omega, hpo.1⟩) ?_
   rintro _ _ ⟨rfl, rfl⟩
   have hup := (Cnts.pa 60 x.fields).up (q + 1)
   have hbn := Bnds.pa 60 x.fields (q + 1) hpo.1
   obtain ⟨⟨b, r⟩, hpa⟩ : ∃ z, paS 60 x.fields (q + 1) = z := ⟨_, rfl⟩
   rw [hpa] at hup hbn
   refine ARun.goK 200 ?_
   simp only [W, seval, c35, hn, hi, hpa]
   cases b
   ·rw [andS_no (by rw [hpa]), hpa] at h3
    simp only [W, seval, c35, hn, hi]
    refine ARun.ret Tryz.func35 rfl (Left.set (by rfl) ?_)
    rw [← h3]
    (try clear ih)
    (try simp only [dnw] at *)
    simp only [fnw, seval, Same] <;> simp [*]
    skip
   ·rw [andS_yes (by rw [hpa]), hpa] at h3
    have hup := hup rfl
    have hbn := hbn rfl
    dsimp only at hup hbn h3
    simp only [W, seval, c35, hn, hi, hw]
    rw [app3]
    refine ih (i + 1, r) ⟨hlt, ⟨by dsimp only; omega, hbn⟩, h3⟩ (by dsimp only; omega) _ _ _ _ rfl ⟨by simp; omega, Nat.le_refl _⟩ (hf2 r) ?_
    refine AgreeF.env _ ?_
    simp only [agf, seval, hn, List.length_append, List.length_cons, List.length_nil, Nat.zero_add, Nat.reduceAdd, hN1, hN2]
  ·have hlt' : decide ((i : Int) < (pr.structs.length : Int)) = false := decide_eq_false (by omega)
   rw [List.drop_eq_nil_of_le (by omega), andS_yes rfl] at h3
   refine ARun.goK 100 (k := [_, _, _]) (K := K') ?_
   simp only [W, seval, c35, hn, hi, hlt']
   refine hK q ⟨h2, h3⟩ _ _ ?_ rfl
   refine Agree.env _ ?_
   simp only [agw, seval, hn]
 ·rintro q0 ⟨hq0, hres2⟩
  clear hres hbs
  dsimp only
  refine ARun.go 20 ?_
  simp only [W, seval, c35, hn, hi]
  refine ARun.fits fun hf => ?_
  have hf2 : ∀ q' : Int, Fits ⟨B.set c [.d (.int .i64 q')] ++ [[.ptr c 0], [.d (.sl (pr.structs.map suD)), .d (.sl (pr.funcs.map fuD))]], T⟩ := fun q' => by
   have := hf.set (i := c) (vs := [.d (.int .i64 q')]) rfl
   rwa [bx_set_old (by simp; omega), List.set_set] at this
  refine ARun.loopB (fun a : Nat × Int => (envS 80 [(2, .ptr N 0), (3, .ptr (N + 1) 0), (4, .d (.bool false)), (34, .d (.sl (pr.funcs.map fuD))), (35, .d (.int .i64 pr.funcs.length)), (36, .d (.int .i64 a.1))], ⟨B.set c [.d (.int .i64 a.2)] ++ [[.ptr c 0], [.d (.sl (pr.structs.map suD)), .d (.sl (pr.funcs.map fuD))]], T⟩)) (fun a => a.1 ≤ pr.funcs.length ∧ (0 ≤ a.2 ∧ a.2 ≤ 60000) ∧ rowS (fuS n) (pr.funcs.drop a.1) a.2 = res) (fun a => pr.funcs.length - a.1) (0, q0) ⟨by omega, hq0, hres2⟩ ?_ rfl ?_
  ·skip
   refine Agree.env _ ?_
   simp only [agw, seval, hn]
  rintro ⟨i, q⟩ ⟨h1, h2, h3⟩ ih
  dsimp only at h1 h2 h3 ih ⊢
  by_cases hlt : i < pr.funcs.length
  ·have hw := wrap_in ((i : Int) + 1) (by omega)
   have hg := List.getElem?_eq_getElem hlt
   have hlt' : decide ((i : Int) < (pr.funcs.length : Int)) = true := decide_eq_true (by omega)
   rw [drop_get hlt] at h3
   obtain ⟨x, hx⟩ : ∃ x, pr.funcs[i] = x := ⟨_, rfl⟩
   have hxm : x ∈ pr.funcs := by rw [← hx]; exact List.getElem_mem hlt
   rw [hx] at hg h3
   change andS (andS (partS 0) (andS (allowS (identS x.name)) (andS (paS 20 x.params) (andS (allowS (decide (1 ≤ x.results.length) && decide (x.results.length ≤ 20))) (andS (rowS (fun t p => tyS identS t 0 p) x.results) (rowS (fun s => stS n s 0) x.body)))))) (rowS (fuS n) (pr.funcs.drop (i + 1))) q = res at h3
   rw [andS_assoc] at h3
   have hpar := params_ab 20 (by omega) x.params c
   have hcast : ((20 : Nat) : Int) = 20 := rfl
   rw [hcast] at hpar
   refine ARun.go 100 ?_
   simp only [W, seval, c35, hn, hi, List.getElem?_map, hg, hlt', fuD]
   refine callS_fn (part_ab c 0 q _ _ (by rw [bx_old (by simp; omega)]; exact bx_get hc) h2) ?_
   rintro _ _ ⟨rfl, rfl⟩
   refine ARun.go 200 ?_
   simp only [W, seval, c35, hn, hi]
   cases hk : partOk 0 q
   ·rw [andS_no (show (partS 0 q).1 = false from hk)] at h3
    simp only [W, seval, c35, hn, hi, hk]
    refine ARun.ret Tryz.func35 rfl (Left.set (by rfl) ?_)
    rw [← h3]
    (try clear ih)
    (try simp only [dnw] at *)
    simp only [fnw, seval, Same] <;> simp [*]
    rfl
   have hpo := partOk_in hk
   rw [andS_yes (show (partS 0 q).1 = true from hk)] at h3
   change andS _ _ (q + 1) = res at h3
   rw [andS_assoc] at h3
   simp only [W, seval, c35, hn, hi, hk]
   refine callS_fn (ident_ab x.name _) ?_
   rintro _ _ ⟨rfl, rfl⟩
   refine ARun.go 200 ?_
   simp only [W, seval, c35, hn, hi]
   cases hid : identS x.name
   ·rw [andS_no (by rw [hid]; rfl)] at h3
    simp only [W, seval, c35, hn, hi]
    refine ARun.ret Tryz.func35 rfl (Left.set (by rfl) ?_)
    rw [← h3]
    (try clear ih)
    (try simp only [dnw] at *)
    simp only [fnw, seval, Same] <;> simp [*]
    rfl
   rw [andS_yes (by rw [hid]; rfl)] at h3
   change andS _ _ (q + 1) = res at h3
   rw [andS_assoc] at h3
   simp only [W, seval, c35, hn, hi]
   refine callS_fn (hpar (q + 1) _ T (by rw [bx_old (by simp; omega)]; exact bx_get hc) ⟨by omega, hpo.1⟩) ?_
   rintro _ _ ⟨rfl, rfl⟩
   have hup := (Cnts.pa 20 x.params).up (q + 1)
   have hbn := Bnds.pa 20 x.params (q + 1) hpo.1
   obtain ⟨⟨b, r⟩, hpa⟩ : ∃ z, paS 20 x.params (q + 1) = z := ⟨_, rfl⟩
   rw [hpa] at hup hbn
   refine ARun.go 200 ?_
   simp only [W, seval, c35, hn, hi, hpa]
   cases b
   ·rw [andS_no (by rw [hpa]), hpa] at h3
    simp only [W, seval, c35, hn, hi]
    refine ARun.ret Tryz.func35 rfl (Left.set (by rfl) ?_)
    rw [← h3]
    (try clear ih)
    (try simp only [dnw] at *)
    simp only [fnw, seval, Same] <;> simp [*]
    skip
   rw [andS_yes (by rw [hpa]), hpa] at h3
   have hup := hup rfl
   have hbn := hbn rfl
   dsimp only at hup hbn h3
   rw [andS_assoc] at h3
   by_cases hlo : 1 ≤ x.results.length
   case neg =>
    have e1 : decide ((x.results.length : Int) < 1) = true := decide_eq_true (by omega)
    rw [andS_no (by rw [decide_eq_false hlo]; rfl)] at h3
    simp only [W, seval, c35, hn, hi, e1]
    refine ARun.ret Tryz.func35 rfl (Left.set (by rfl) ?_)
    rw [← h3]
    (try clear ih)
    (try simp only [dnw] at *)
    simp only [fnw, seval, Same] <;> simp [*]
    rfl
   have e1 : decide ((x.results.length : Int) < 1) = false := decide_eq_false (by omega)
   by_cases hhi : x.results.length ≤ 20
   case neg =>
    have e2 : decide ((20 : Int) < (x.results.length : Int)) = true := decide_eq_true (by omega)
    rw [andS_no (by rw [decide_eq_false hhi, Bool.and_false]; rfl)] at h3
    simp only [W, seval, c35, hn, hi, e1, e2]
    refine ARun.ret Tryz.func35 rfl (Left.set (by rfl) ?_)
    rw [← h3]
    (try clear ih)
    (try simp only [dnw] at *)
    simp only [fnw, seval, Same] <;> simp [*]
    rfl
   have e2 : decide ((20 : Int) < (x.results.length : Int)) = false := decide_eq_false (by omega)
   rw [andS_yes (by rw [decide_eq_true hlo, decide_eq_true hhi]; rfl)] at h3
   change andS _ _ r = res at h3
   rw [andS_assoc] at h3
   simp only [W, seval, c35, hn, hi, e1, e2]
   have hgd := ty_good N c B [[.ptr c 0], [.d (.sl (pr.structs.map suD)), .d (.sl (pr.funcs.map fuD))], [.d (.str x.name), .d (.sl (x.params.map paD)), .d (.sl (x.results.map tyD)), .d (.sl (x.body.map stD))]] T hc (fun q => by rw [bx_loc0 (by simpa using hn)]; rfl) x.results r ⟨by omega, hbn⟩
   have hcf := containsFunc_Type 66 [] [.ptr N 0] (fun q : Int => ⟨B.set c [.d (.int .i64 q)] ++ [[.ptr c 0], [.d (.sl (pr.structs.map suD)), .d (.sl (pr.funcs.map fuD))], [.d (.str x.name), .d (.sl (x.params.map paD)), .d (.sl (x.results.map tyD)), .d (.sl (x.body.map stD))]], T⟩) (fun x q => (!(tyS identS x 0 q).1, (tyS identS x 0 q).2)) (fun _ _ => ⟨by simp, rfl⟩) x.results (by omega) r hgd
   rw [anyF_row (fun x => tyS identS x 0)] at hcf
   refine callS_fn hcf ?_
   rintro _ _ ⟨rfl, rfl⟩
   have hup2 := (Cnts.row (f := fun t p => tyS identS t 0 p) (c := tcS) x.results fun t _ => Cnts.ty t 0).up r
   have hbn2 := Bnds.row (f := fun t p => tyS identS t 0 p) (fun t => Bnds.ty t 0) x.results r hbn
   obtain ⟨⟨b, r2⟩, hty⟩ : ∃ z, rowS (fun t p => tyS identS t 0 p) x.results r = z := ⟨_, rfl⟩
   rw [hty] at hup2 hbn2
   refine ARun.go 200 ?_
   simp only [W, seval, c35, hn, hi, hty]
   cases b
   ·rw [andS_no (by rw [hty]), hty] at h3
    simp only [W, seval, c35, hn, hi]
    refine ARun.ret Tryz.func35 rfl (Left.set (by rfl) ?_)
    rw [← h3]
    (try clear ih)
    (try simp only [dnw] at *)
    simp only [fnw, seval, Same] <;> simp [*]
    skip
   rw [andS_yes (by rw [hty]), hty] at h3
   have hup2 := hup2 rfl
   have hbn2 := hbn2 rfl
   dsimp only at hup2 hbn2 h3
   simp only [W, seval, c35, hn, hi]
   refine callS_fn (stmts_ab n x.body (hst x hxm) c 0 r2 _ T (by rw [bx_old (by simp; omega)]; exact bx_get hc) ⟨by omega, hbn2⟩ ⟨by omega, by omega⟩) ?_
   rintro _ _ ⟨rfl, rfl⟩
   have hup3 := (Cnts.row (f := fun s => stS n s 0) (c := stC n) x.body fun y _ => Cnts.st n y 0).up r2
   have hbn3 := Bnds.row (f := fun s => stS n s 0) (fun y => Bnds.st n y 0) x.body r2 hbn2
   obtain ⟨⟨b, r3⟩, hst3⟩ : ∃ z, rowS (fun s => stS n s 0) x.body r2 = z := ⟨_, rfl⟩
   rw [hst3] at hup3 hbn3
   refine ARun.go 200 ?_
   simp only [W, seval, c35, hn, hi, hst3]
   cases b
   ·rw [andS_no (by rw [hst3]), hst3] at h3
    simp only [W, seval, c35, hn, hi]
    refine ARun.ret Tryz.func35 rfl (Left.set (by rfl) ?_)
    rw [← h3]
    (try clear ih)
    (try simp only [dnw] at *)
    simp only [fnw, seval, Same] <;> simp [*]
    skip
   rw [andS_yes (by rw [hst3]), hst3] at h3
   have hup3 := hup3 rfl
   have hbn3 := hbn3 rfl
   dsimp only at hup3 hbn3 h3
   simp only [W, seval, c35, hn, hi, hw]
   rw [app3]
   refine ih (i + 1, r3) ⟨hlt, ⟨by dsimp only; omega, hbn3⟩, h3⟩ (by dsimp only; omega) _ _ _ _ rfl ⟨by simp; omega, Nat.le_refl _⟩ (hf2 r3) ?_
   refine AgreeF.env _ ?_
   simp only [agf, seval, hn, List.length_append, List.length_cons, List.length_nil, Nat.zero_add, Nat.reduceAdd, hN1, hN2]
  ·have hlt' : decide ((i : Int) < (pr.funcs.length : Int)) = false := decide_eq_false (by omega)
   rw [List.drop_eq_nil_of_le (by omega)] at h3
   refine ARun.go 100 ?_
   simp only [W, seval, c35, hn, hi, hlt']
   refine ARun.ret Tryz.func35 rfl (Left.set (by rfl) ?_)
   rw [← h3]
   (try clear ih)
   (try simp only [dnw] at *)
   simp only [fnw, seval, Same] <;> simp [*]
   rw [← h3]
   exact ⟨rfl, rfl⟩
set_option maxHeartbeats 1000000 in
theorem right_ab (n : Nat) (pr : PrT) (hst : ∀ f ∈ pr.funcs, ∀ x ∈ f.body, StmtOk n x) (B : List (List V)) (T : List (Nat × Nat)) :
 AFn Tryz.prog TabI 9 [prV pr] ⟨B, T⟩ (Same (.d (.bool (prS n pr 0).1)) ⟨B, T⟩) := by
 obtain ⟨N, hn⟩ : ∃ N, B.length = N := ⟨_, rfl⟩
 have h := prog_ab n pr hst (N + 1) 0 (B ++ [[.d (.sl (pr.structs.map suD)), .d (.sl (pr.funcs.map fuD))], [.d (.int .i64 0)]]) T (by rw [bx_loc hn]; rfl) (by omega)
 unfold prV at h ⊢
 refine b9.go 100 rfl fun hsm => ?_
 simp only [smw] at hsm
 simp only [W, seval, c9, hn]
 refine callS_fn h ?_
 rintro _ _ ⟨rfl, rfl⟩
 refine ARun.go 100 ?_
 simp only [W, seval, c9, hn]
 refine ARun.ret Tryz.func9 rfl (Left.box ?_)
 (try clear ih)
 (try simp only [dnw] at *)
 simp only [fnw, seval, Same] <;> simp [*]
 skip
def c13 := by
 have c := KK_of Tryz.f13 (by conv => lhs; cbv)
 dsimp only [KK, KxP, doO, opO, List.map_cons, List.map_nil, List.toList_toArray] at c
 exact c
theorem b13 : FnIs Tryz.prog 13 Tryz.f13 6 := ⟨Tryz.func13, by kernel_rfl⟩
def c10 := by
 have c := KK_of Tryz.f10 (by conv => lhs; cbv)
 dsimp only [KK, KxP, doO, opO, List.map_cons, List.map_nil, List.toList_toArray] at c
 exact c
theorem b10 : FnIs Tryz.prog 10 Tryz.f10 19 := ⟨Tryz.func10, by kernel_rfl⟩
def c37 := by
 have c := KK_of Tryz.f37 (by conv => lhs; cbv)
 dsimp only [KK, KxP, doO, opO, List.map_cons, List.map_nil, List.toList_toArray] at c
 exact c
theorem b37 : FnIs Tryz.prog 37 Tryz.f37 4 := ⟨Tryz.func37, by kernel_rfl⟩
set_option maxHeartbeats 4000000 in
theorem exprG_ab (x : ExT) (B : List (List V)) (T : List (Nat × Nat)) : AFn Tryz.prog TabI 13 [exV x] ⟨B, T⟩ (Same (.d (.bool (exS x 0 0).1)) ⟨B, T⟩) := by
 obtain ⟨N, hn⟩ : ∃ N, B.length = N := ⟨_, rfl⟩
 have h := expr_ab x (N + 1) 0 0 (B ++ [[.d (.int .i64 x.kind), .d (.str x.text), .d (.int .u64 x.int), .d (.int .i64 x.type.kind), .d (.str x.type.name), .d (.sl (x.type.elem.map tyD)), .d (.sl (ssD x.names)), .d (.sl (x.kids.map exD))], [.d (.int .i64 0)]]) T (by rw [bx_loc hn]; rfl) (by omega) (by omega)
 unfold exV at h ⊢
 refine b13.go 100 rfl fun hsm => ?_
 simp only [smw] at hsm
 simp only [W, seval, c13, hn]
 refine callS_fn h ?_
 rintro _ _ ⟨rfl, rfl⟩
 refine ARun.go 100 ?_
 simp only [W, seval, c13, hn]
 refine ARun.ret Tryz.func13 rfl (Left.box ?_)
 (try clear ih)
 (try simp only [dnw] at *)
 simp only [fnw, seval, Same] <;> simp [*]
 skip
def finE (n : Nat) (s : Ps) : ExT × Int := if endP (exprF true n s).2 (exS (exprF true n s).1 0 0).1 = 0 then ((exprF true n s).1, 0) else (zeroE, endP (exprF true n s).2 (exS (exprF true n s).1 0 0).1)
def xB (x : ExT) : List V := [.d (.int .i64 x.kind), .d (.str x.text), .d (.int .u64 x.int), .d (.int .i64 x.type.kind), .d (.str x.type.name), .d (.sl (x.type.elem.map tyD)), .d (.sl (ssD x.names)), .d (.sl (x.kids.map exD))]
def zB : List V := [.d (.int .i64 0), .d (.str []), .d (.int .u64 0), .d (.int .i64 0), .d (.str []), .sl [] .full, .sl [] .full, .sl [] .full]
theorem setP2 {B : List (List V)} {N : Nat} {Z : List V} (hn : B.length = N) (X O : List V) : (B ++ [Z, [], O]).set (N + 1) X = B ++ [Z, X, O] := by
 rw [List.set_append_right _ _ (by omega), hn, Nat.add_sub_cancel_left]
 rfl
set_option maxHeartbeats 8000000 in
theorem parseE_ab (bs : List UInt8) (h0 : True) (hl : bs.length ≤ 100000) (n : Nat) (hn1 : bs.length + 5 ≤ n) (B : List (List V)) (T : List (Nat × Nat)) :
 AFn Tryz.prog TabI 10 [.d (.sl (byD bs))] ⟨B, T⟩ (Same (.tup [exV (finE n (startS bs)).1, .d (.int .i64 (finE n (startS bs)).2)]) ⟨B, T⟩) := by
 obtain ⟨N, hn⟩ : ∃ N, B.length = N := ⟨_, rfl⟩
 have hmu := (start_ok bs).mu_le
 obtain ⟨⟨x, s1⟩, hx⟩ : ∃ r, exprF true n (startS bs) = r := ⟨_, rfl⟩
 have hfin : finE n (startS bs) = if endP s1 (exS x 0 0).1 = 0 then (x, 0) else (zeroE, endP s1 (exS x 0 0).1) := by unfold finE; rw [hx]
 rw [hfin]
 have hpe := expr_ok bs h0 hl (fun h1 h2 => fields_pp bs h0 hl h1 h2) n (startS bs) (by omega) (N + 1) (B ++ [zB, []]) T 0 (by simp; omega) (start_ok bs)
 have hset : ∀ X, (B ++ [zB, []]).set (N + 1) X = B ++ [zB, X] := fun X => by
  rw [List.set_append_right _ _ (by omega), hn, Nat.add_sub_cancel_left]
  rfl
 simp only [hset, hx] at hpe
 have hop := open_ab bs h0 hl (B ++ [zB]) T
 rw [List.length_append, hn, List.append_assoc] at hop
 refine b10.go 20 rfl fun hsm => ?_
 simp only [smw] at hsm
 simp only [W, seval, c10, hn]
 refine callS_fn hop ?_
 rintro _ _ ⟨rfl, rfl⟩
 unfold exV at hpe
 refine ARun.go 20 ?_
 simp only [W, seval, c10, hn]
 refine callS_fn hpe ?_
 rintro _ _ ⟨rfl, _, hok1, rfl⟩
 have hcl : AFn Tryz.prog TabI 37 [.ptr (N + 2) 0] ⟨B ++ [zB, bxP bs s1, xB x], T⟩ (Same (.d (.bool (exS x 0 0).1)) ⟨B ++ [zB, bxP bs s1, xB x], T⟩) := by
  have hg := exprG_ab x (B ++ [zB, bxP bs s1, xB x]) T
  unfold exV xB at hg
  unfold xB
  refine b37.go 20 rfl fun hsm => ?_
  simp only [smw] at hsm
  simp only [W, seval, c37, hn]
  refine callS_fn hg ?_
  rintro _ _ ⟨rfl, rfl⟩
  refine ARun.go 20 ?_
  simp only [W, seval, c37]
  refine ARun.ret Tryz.func37 rfl (Left.none ?_)
  exact ⟨rfl, rfl⟩
 have hen := end_ab bs s1 (exS x 0 0).1 37 [.ptr (N + 2) 0] (N + 1) (B ++ [zB, [], xB x]) T (by simp; omega) (by rw [setP2 hn]; exact hcl)
 rw [setP2 hn] at hen
 simp only [setP2 hn] at hen
 unfold xB at hen
 refine ARun.go 20 ?_
 simp only [W, seval, c10, hn]
 refine callS_fn hen ?_
 rintro _ _ ⟨rfl, s9, rfl⟩
 generalize endP s1 (exS x 0 0).1 = e at *
 by_cases he : e = 0
 ·have e1 := decide_eq_true he
  rw [if_pos he]
  refine ARun.go 60 ?_
  simp only [W, seval, c10, hn, e1, zB]
  refine retc2 (v := ?_) Tryz.func10 (by rfl) ?_ ?_
  rotate_left
  ·simp only [W, seval, c10, hn]
   exact rfl
  refine Left.box ?_
  simp only [W, seval, c10, wk, wkL, exV]
  exact ⟨rfl, rfl⟩
 ·have e1 := decide_eq_false he
  rw [if_neg he]
  refine ARun.go 60 ?_
  simp only [W, seval, c10, hn, e1, zB]
  refine retc2 (v := ?_) Tryz.func10 (by rfl) ?_ ?_
  rotate_left
  ·simp only [W, seval, c10, hn]
   exact rfl
  refine Left.box ?_
  simp only [W, seval, c10, wk, wkL, exV]
  exact ⟨rfl, rfl⟩
def c5 := by
 have c := KK_of Tryz.f5 (by conv => lhs; cbv)
 dsimp only [KK, KxP, doO, opO, List.map_cons, List.map_nil, List.toList_toArray] at c
 exact c
theorem b5 : FnIs Tryz.prog 5 Tryz.f5 62 := ⟨Tryz.func5, by kernel_rfl⟩
def tx1 : List UInt8 := [49, 32, 43, 32, 120, 32, 42, 32, 50]
def tx2 : List UInt8 := [112, 97, 99, 107, 97, 103, 101, 32, 112, 32, 102, 117, 110, 99, 32, 102, 40, 97, 32, 105, 110, 116, 41, 32, 40, 105, 110, 116, 41, 32, 123, 32, 114, 101, 116, 117, 114, 110, 32, 97, 32, 125]
noncomputable def rgP (p : PrT) : Bool := (prS (SizeOf.sizeOf p.funcs) p 0).1
theorem rgP_ab (p : PrT) (B : List (List V)) (T : List (Nat × Nat)) : AFn Tryz.prog TabI 9 [prV p] ⟨B, T⟩ (Same (.d (.bool (rgP p))) ⟨B, T⟩) := by
 refine right_ab (SizeOf.sizeOf p.funcs) p (fun f hf x hx => stmt_ab _ x (Dp.of_size _ x ?_)) B T
 have h1 := List.sizeOf_lt_of_mem hf
 have h2 := List.sizeOf_lt_of_mem hx
 have h3 : SizeOf.sizeOf f.body < SizeOf.sizeOf f := by cases f; simp only [FuT.mk.sizeOf_spec]; omega
 omega
theorem parseP_ab (bs : List UInt8) (h0 : True) (hl : bs.length ≤ 100000) (n : Nat) (hn : bs.length + 5 ≤ n) (B : List (List V)) (T : List (Nat × Nat)) :
 AFn Tryz.prog TabI 6 [.d (.sl (byD bs))] ⟨B, T⟩ (Same (.tup [prV (finP rgP n (startS bs)).1, .d (.int .i64 (finP rgP n (startS bs)).2)]) ⟨B, T⟩) :=
 parse_ab bs h0 hl n hn (stmt_ok bs h0 hl (expr_ok bs h0 hl fun h1 h2 => fields_pp bs h0 hl h1 h2) n) rgP rgP_ab B T
theorem fe1 : (finE 14 (startS tx1)).2 = 0 := by kernel_rfl
theorem fe2 : (finE 14 (startS tx1)).1.kind = 6 := by kernel_rfl
theorem fe3 : (finE 14 (startS tx1)).1.text = [43] := by kernel_rfl
theorem fe4 : (finE 14 (startS tx1)).1.kids.length = 2 := by kernel_rfl
theorem fe5 : (finE 14 (startS tx1)).1.kids[1]?.map ExT.text = some [42] := by kernel_rfl
theorem fp1 : (finP rgP 47 (startS tx2)).2 = 0 := by kernel_rfl
theorem fp2 : (finP rgP 47 (startS tx2)).1.funcs.length = 1 := by kernel_rfl
theorem fp3 : (finP rgP 47 (startS tx2)).1.funcs[0]?.map (fun f => f.body.length) = some 1 := by kernel_rfl
set_option maxHeartbeats 8000000 in
theorem works25_ab (S : Mem) : AFn Tryz.prog TabI 5 [] S (Same (.d (.bool true)) S) := by
 refine AFn.sameW (args' := []) ?_ rfl rfl S
 have hE := AFn.sameW (parseE_ab tx1 trivial (by simp [tx1]) 14 (by simp [tx1]) [] []).only (args := [.sl (byD tx1) .full]) (by simp [wkL, wk]) rfl
 have hP := AFn.sameW (parseP_ab tx2 trivial (by simp [tx2]) 47 (by simp [tx2]) [] []).only (args := [.sl (byD tx2) .full]) (by simp [wkL, wk]) rfl
 have e1 := fe1
 have e2 := fe2
 have e3 := fe3
 have e4 := fe4
 have e5 := fe5
 have p1 := fp1
 have p2 := fp2
 have p3 := fp3
 generalize finE 14 (startS tx1) = r1 at *
 generalize finP rgP 47 (startS tx2) = r2 at *
 obtain ⟨x, e⟩ := r1
 obtain ⟨p, f⟩ := r2
 dsimp only at *
 subst e1 p1
 obtain ⟨y, hy, hyt⟩ := Option.map_eq_some_iff.1 e5
 obtain ⟨fn, hf, hfb⟩ := Option.map_eq_some_iff.1 p3
 have hgy : (x.kids.map exD)[1]? = some (exD y) := by simp [hy]
 have hgf : (p.funcs.map fuD)[0]? = some (fuD fn) := by simp [hf]
 rw [exD_eq, hyt] at hgy
 rw [fuD_eq] at hgf
 have d4 : ((x.kids.length : Nat) : Int) = 2 := by omega
 have d2 : ((p.funcs.length : Nat) : Int) = 1 := by omega
 have d3 : ((fn.body.length : Nat) : Int) = 1 := by omega
 unfold exV at hE
 unfold prV at hP
 refine AFn.bodyN (body := (kF Tryz.f5 0)) 62 Tryz.func5 (by kernel_rfl) (by kernel_rfl) (by kernel_rfl) (Nat.le_of_ble_eq_true rfl) ?_
 refine ARun.go 60 ?_
 simp only [W, seval, c5, mapD_nil, mapD_cons, Nat.reduceMul]
 refine callS_fn (hE _) ?_
 rintro _ _ ⟨rfl, rfl⟩
 refine ARun.go 60 ?_
 simp only [W, seval, c5, mapD_nil, mapD_cons, Nat.reduceMul]
 refine callS_fn (hP _) ?_
 rintro _ _ ⟨rfl, rfl⟩
 refine ARun.go 200 ?_
 simp only [W, seval, c5, e2, e3, d4, hgy, d2, hgf, d3, decide_true]
 refine ARun.ret Tryz.func5 rfl (id ?_)
 exact rfl
end Go.Proofs.YtnnnhlkmdnacaaaGreatDoor
namespace Go.Proofs.YtnnnhlkmdnacaaaGreatDoor
open Go.RowKit Go.Av
abbrev Wd := Nat × List UInt8 × Nat
def okD (l : List UInt8) : Bool :=
 decide (valD (l.takeWhile digitB) ≤ maxU) && !(decide ((l.takeWhile digitB).length < l.length) && letterB (l.getD (l.takeWhile digitB).length 0)) && !(decide (1 < (l.takeWhile digitB).length) && decide (l.getD 0 0 = 48))
def wl (l : List UInt8) : Option Wd :=
 if l = [] then some (0, [], 0)
 else if letterB (l.getD 0 0) = true then some (if reservedS (l.takeWhile wordB) = true then 4 else 1, l.takeWhile wordB, 0)
 else if digitB (l.getD 0 0) = true then (if okD l = true then some (2, l.takeWhile digitB, valD (l.takeWhile digitB)) else none)
 else match signAt l with
  | some s => some (3, s, 0)
  | none => none
def atW (p : Nat) : Option Wd → WordS × Nat
 | some x => (⟨x.1, x.2.1, x.2.2, p, p + x.2.1.length⟩, 0)
 | none => (WordS.zero, 50)
theorem getD_drop (bs : List UInt8) (p k : Nat) : (bs.drop p).getD k 0 = bs.getD (p + k) 0 := by
 rw [List.getD_eq_getElem?_getD, List.getD_eq_getElem?_getD, List.getElem?_drop]
theorem take_while (p : UInt8 → Bool) (l : List UInt8) : l.take (l.takeWhile p).length = l.takeWhile p := (List.prefix_iff_eq_take.1 (List.takeWhile_prefix p)).symm
theorem takeAt_wl (bs : List UInt8) (p : Nat) (hp : p ≤ bs.length) : takeAt bs p = atW p (wl (bs.drop p)) := by
 have hrun : ∀ q : UInt8 → Bool, runAt q bs p = p + ((bs.drop p).takeWhile q).length := fun q => rfl
 have htext : ∀ q : UInt8 → Bool, textAt bs p (runAt q bs p) = (bs.drop p).takeWhile q := fun q => by
  unfold textAt
  rw [hrun, Nat.add_sub_cancel_left, take_while]
 have hdig : digitsAt bs p = (bs.drop p).takeWhile digitB := htext digitB
 have hg0 : (bs.drop p).getD 0 0 = bs.getD p 0 := getD_drop bs p 0
 unfold takeAt wl
 by_cases he : p = bs.length
 ·subst he
  rw [if_pos rfl, if_pos (List.drop_length)]
  rfl
 ·have hne : bs.drop p ≠ [] := by
   intro h
   have := congrArg List.length h
   rw [List.length_drop] at this
   simp at this
   omega
  rw [if_neg he, if_neg hne, hg0]
  by_cases hl : letterB (bs.getD p 0) = true
  ·rw [if_pos hl, if_pos hl, htext]
   rfl
  ·rw [if_neg hl, if_neg hl]
   by_cases hd : digitB (bs.getD p 0) = true
   ·rw [if_pos hd, if_pos hd]
    have hok : numberOk bs p = okD (bs.drop p) := by
     unfold numberOk okD
     rw [hdig, hrun, hg0, getD_drop, List.length_drop]
     congr 2
     ·congr 2
      first | (rw [decide_eq_decide]; omega) | (apply propext; omega)
     ·congr 2
      first | (rw [decide_eq_decide]; omega) | (apply propext; omega)
    rw [hok]
    cases okD (bs.drop p)
    ·rfl
    ·unfold numberW
     rw [hdig]
     rfl
   ·rw [if_neg hd, if_neg hd]
    cases signAt (bs.drop p) <;> rfl
theorem wl_prefix {l : List UInt8} {x : Wd} (h : wl l = some x) : x.2.1 <+: l := by
 unfold wl at h
 split at h
 ·obtain rfl := Option.some.inj h
  exact List.nil_prefix
 ·split at h
  ·obtain rfl := Option.some.inj h
   exact List.takeWhile_prefix _
  ·split at h
   ·split at h
    ·obtain rfl := Option.some.inj h
     exact List.takeWhile_prefix _
    ·cases h
   ·split at h
    ·rename_i s hs
     obtain rfl := Option.some.inj h
     have h3 : hasPre l s = true := List.find?_some (show signsL.find? (fun s => hasPre l s) = some s from hs)
     exact List.isPrefixOf_iff_prefix.1 h3
    ·cases h
theorem skip_suffix : ∀ (b : Bool) (l : List UInt8), skipM b l <:+ l
 | b, [] => by rw [skipM_nil]; exact List.suffix_refl _
 | true, c :: r => by
  simp only [skipM]
  split
  ·exact (skip_suffix false r).trans (List.suffix_cons _ _)
  ·exact (skip_suffix true r).trans (List.suffix_cons _ _)
 | false, c :: r => by
  simp only [skipM]
  split
  ·exact (skip_suffix false r).trans (List.suffix_cons _ _)
  ·split
   ·exact (skip_suffix true r).trans (List.suffix_cons _ _)
   ·exact List.suffix_refl _
theorem drop_white (bs : List UInt8) (k : Nat) (hk : k ≤ bs.length) : bs.drop (whiteAt bs k) = skipM false (bs.drop k) := by
 obtain ⟨t, ht⟩ := skip_suffix false (bs.drop k)
 have hl := congrArg List.length ht
 rw [List.length_append, List.length_drop] at hl
 have hw : whiteAt bs k = k + t.length := by unfold whiteAt; omega
 rw [hw, ← List.drop_drop, ← ht, List.drop_left]
 rw [ht]
def strip (x : WordS) : Wd := (x.kind, x.text, x.int)
theorem takeS_wl (bs : List UInt8) (k : Nat) (hk : k ≤ bs.length) : takeS bs k = atW (whiteAt bs k) (wl (skipM false (bs.drop k))) := by
 unfold takeS
 rw [if_neg (by omega), Int.toNat_natCast, takeAt_wl bs _ (whiteAt_le bs k), drop_white bs k hk]
theorem getD0_append (t r : List UInt8) (ht : t ≠ []) : (t ++ r).getD 0 0 = t.getD 0 0 := by
 cases t with
 | nil => exact absurd rfl ht
 | cons a t => rfl
theorem sign_bytes : ∀ s ∈ signsL, ∀ c ∈ s, whiteB c = false := by decide
set_option linter.unusedSimpArgs false
def wordsT : Nat → List UInt8 → List Wd
 | 0, _ => [(9, [], 0)]
 | f + 1, l => match wl (skipM false l) with
  | none => [(9, [], 0)]
  | some x => if x.1 = 0 then [(0, [], 0)] else x :: wordsT f ((skipM false l).drop x.2.1.length)
theorem wordsT_skip {l l' : List UInt8} (h : skipM false l = skipM false l') (f : Nat) : wordsT (f + 1) l = wordsT (f + 1) l' := by
 unfold wordsT
 rw [h]
theorem wl_zero {l : List UInt8} {x : Wd} (h : wl l = some x) (hx : x.1 = 0) : l = [] ∧ x = (0, [], 0) := by
 unfold wl at h
 split at h
 ·rename_i hl
  exact ⟨hl, (Option.some.inj h).symm⟩
 ·split at h
  ·obtain rfl := Option.some.inj h
   exfalso
   revert hx
   dsimp only
   split <;> decide
  ·split at h
   ·split at h
    ·obtain rfl := Option.some.inj h
     exact absurd hx (show ¬ (2 : Nat) = 0 by decide)
    ·cases h
   ·split at h
    ·obtain rfl := Option.some.inj h
     exact absurd hx (show ¬ (3 : Nat) = 0 by decide)
    ·cases h
theorem words_T (bs : List UInt8) : ∀ (f i : Nat), i ≤ bs.length → (wordsF bs f i).map strip = wordsT f (bs.drop i)
 | 0, _, _ => rfl
 | f + 1, i, hi => by
  unfold wordsF wordsT
  have ht := takeS_wl bs i hi
  cases hw : wl (skipM false (bs.drop i)) with
  | none =>
   rw [hw] at ht
   rw [ht]
   rfl
  | some x =>
   rw [hw] at ht
   have e0 : (takeS bs i).2 = 0 := by rw [ht]; rfl
   have e1 : (takeS bs i).1 = ⟨x.1, x.2.1, x.2.2, whiteAt bs i, whiteAt bs i + x.2.1.length⟩ := by rw [ht]; rfl
   have hn := take_next bs i hi e0
   rw [e1] at hn
   rw [if_pos e0, e1]
   dsimp only at hn ⊢
   by_cases hx : x.1 = 0
   ·rw [if_pos hx, if_pos hx]
    obtain ⟨_, rfl⟩ := wl_zero hw hx
    rfl
   ·rw [if_neg hx, if_neg hx, List.map_cons]
    have hn2 := hn hx
    rw [words_T bs f _ hn2.2, ← List.drop_drop, drop_white bs i hi]
    rfl
theorem wordsAt_T (bs : List UInt8) (f : Nat) (hf : bs.length < f) : (wordsAt bs 0).map strip = wordsT f bs := by
 unfold wordsAt
 rw [wordsF_fuel bs (bs.length + 1) f 0 (Nat.zero_le _) (by omega) (by omega), words_T bs f 0 (Nat.zero_le _)]
 rfl
theorem skip_app (r : List UInt8) : ∀ (b : Bool) (l : List UInt8), skipM b (l ++ 10 :: r) = if skipM b l = [] then skipM false r else skipM b l ++ 10 :: r
 | true, [] => rfl
 | false, [] => rfl
 | true, c :: l => by
  rw [List.cons_append]
  simp only [skipM]
  split
  ·exact skip_app r false l
  ·exact skip_app r true l
 | false, c :: l => by
  rw [List.cons_append]
  simp only [skipM]
  split
  ·exact skip_app r false l
  ·have hh : (c.toNat = 47 ∧ (l ++ 10 :: r).head? = some 47) ↔ (c.toNat = 47 ∧ l.head? = some 47) := by
    cases l with
    | nil => simp
    | cons d l => simp
   by_cases h : c.toNat = 47 ∧ l.head? = some 47
   ·rw [if_pos (hh.2 h), if_pos h]
    exact skip_app r true l
   ·rw [if_neg (fun h' => h (hh.1 h')), if_neg h, if_neg (by simp)]
    rfl
theorem while_app (p : UInt8 → Bool) (hp : p 10 = false) (r : List UInt8) : ∀ l : List UInt8, (l ++ 10 :: r).takeWhile p = l.takeWhile p
 | [] => by simp [hp]
 | c :: l => by
  rw [List.cons_append, List.takeWhile_cons, List.takeWhile_cons, while_app p hp r l]
theorem pre_app (r : List UInt8) : ∀ (s l : List UInt8), (∀ c ∈ s, whiteB c = false) → s.isPrefixOf (l ++ 10 :: r) = s.isPrefixOf l
 | [], l, _ => by simp
 | c :: s, [], h => by
  have : (c == 10) = false := by
   rw [beq_eq_false_iff_ne]
   rintro rfl
   exact absurd (h 10 List.mem_cons_self) (by decide)
  simp [List.isPrefixOf, this]
 | c :: s, d :: l, h => by
  rw [List.cons_append]
  simp only [List.isPrefixOf]
  rw [pre_app r s l fun x hx => h x (List.mem_cons_of_mem _ hx)]
theorem find_ext {α : Type} {p q : α → Bool} : ∀ l : List α, (∀ x ∈ l, p x = q x) → l.find? p = l.find? q
 | [], _ => rfl
 | x :: l, h => by
  rw [List.find?_cons, List.find?_cons, h x List.mem_cons_self, find_ext l fun y hy => h y (List.mem_cons_of_mem _ hy)]
theorem wl_app {l : List UInt8} {x : Wd} (h : wl l = some x) (hx : x.1 ≠ 0) (r : List UInt8) : wl (l ++ 10 :: r) = some x := by
 have hl : l ≠ [] := by
  rintro rfl
  obtain rfl := Option.some.inj (show some (0, [], 0) = some x from h)
  exact hx rfl
 rw [← h]
 unfold wl
 rw [if_neg hl, if_neg (by simp), getD0_append l _ hl, while_app wordB (by decide), while_app digitB (by decide)]
 have hok : okD (l ++ 10 :: r) = okD l := by
  unfold okD
  rw [while_app digitB (by decide), getD0_append l _ hl]
  have hle := (List.takeWhile_prefix digitB (l := l)).length_le
  rcases Nat.lt_or_ge (l.takeWhile digitB).length l.length with h1 | h1
  ·have e1 : (l ++ 10 :: r).getD (l.takeWhile digitB).length 0 = l.getD (l.takeWhile digitB).length 0 := by
    simp [List.getD, List.getElem?_append_left h1]
   rw [e1, decide_eq_true h1, decide_eq_true (show (l.takeWhile digitB).length < (l ++ 10 :: r).length by rw [List.length_append]; omega)]
  ·have e0 : (l.takeWhile digitB).length = l.length := by omega
   have e1 : (l ++ 10 :: r).getD (l.takeWhile digitB).length 0 = 10 := by
    rw [e0]
    simp [List.getD]
   have e2 : letterB 10 = false := by decide
   rw [e1, e2, decide_eq_false (Nat.not_lt.2 h1), Bool.and_false, Bool.false_and]
 have hsg : signAt (l ++ 10 :: r) = signAt l := find_ext _ fun s hs => pre_app r s l (sign_bytes s hs)
 rw [hok, hsg]
theorem words_cat : ∀ (init : List Wd) (f : Nat) (l : List UInt8), wordsT f l = init ++ [(0, [], 0)] → (∀ x ∈ init, x.1 ≠ 0 ∧ x.1 ≠ 9) → ∀ (g : Nat) (r : List UInt8), wordsT (g + 1 + init.length) (l ++ 10 :: r) = init ++ wordsT (g + 1) r
 | [], 0, l, h, _, g, r => by
  have := (List.cons.inj h).1
  exact absurd this (by decide)
 | y :: init, 0, l, h, hi, g, r => by
  have := (List.cons.inj h).1
  exact absurd (congrArg Prod.fst this).symm (hi y List.mem_cons_self).2
 | [], f + 1, l, h, _, g, r => by
  refine wordsT_skip ?_ g
  rw [skip_app]
  unfold wordsT at h
  split at h
  ·have := (List.cons.inj h).1
   exact absurd this (by decide)
  ·rename_i x hx
   split at h
   ·rename_i h0
    rw [if_pos (wl_zero hx h0).1]
   ·rename_i h0
    have := (List.cons.inj h).1
    exact absurd (congrArg Prod.fst this) h0
 | y :: init, f + 1, l, h, hi, g, r => by
  unfold wordsT at h
  split at h
  ·have := (List.cons.inj h).1
   exact absurd (congrArg Prod.fst this).symm (hi y List.mem_cons_self).2
  ·rename_i x hx
   split at h
   ·have := (List.cons.inj h).1
    exact absurd (congrArg Prod.fst this).symm (hi y List.mem_cons_self).1
   ·rename_i h0
    obtain ⟨rfl, h2⟩ := List.cons.inj h
    have hne : skipM false l ≠ [] := by
     intro e
     rw [e] at hx
     obtain rfl := Option.some.inj (show some (0, [], 0) = some x from hx)
     exact h0 rfl
    have ih := words_cat init f _ h2 (fun z hz => hi z (List.mem_cons_of_mem _ hz)) g r
    have hpre := (wl_prefix hx).length_le
    rw [List.length_cons, ← Nat.add_assoc]
    conv => lhs; unfold wordsT
    rw [skip_app, if_neg hne, wl_app hx h0]
    dsimp only
    rw [if_neg h0, List.drop_append_of_le_length hpre, ih]
    rfl
theorem words_open (f : Nat) (l : List UInt8) : wordsT (f + 1) (40 :: l) = (3, [40], 0) :: wordsT f l := by kernel_rfl
theorem words_close (f : Nat) (l : List UInt8) : wordsT (f + 1) (41 :: l) = (3, [41], 0) :: wordsT f l := by kernel_rfl
theorem words_brace (f : Nat) : wordsT (f + 2) [125] = [(3, [125], 0), (0, [], 0)] := by kernel_rfl
theorem words_opens (l : List UInt8) : ∀ (k f : Nat), wordsT (f + k) (List.replicate k 40 ++ l) = List.replicate k (3, [40], 0) ++ wordsT f l
 | 0, _ => rfl
 | k + 1, f => by
  rw [List.replicate_succ, List.cons_append, ← Nat.add_assoc, words_open, words_opens l k f]
  rfl
theorem words_closes : ∀ (k f : Nat), wordsT (f + 1 + k) (List.replicate k 41) = List.replicate k (3, [41], 0) ++ [(0, [], 0)]
 | 0, f => by kernel_rfl
 | k + 1, f => by
  rw [List.replicate_succ, ← Nat.add_assoc, words_close, words_closes k f]
  rfl
def preB : List UInt8 := [112, 97, 99, 107, 97, 103, 101, 32, 112, 32, 102, 117, 110, 99, 32, 102, 40, 41, 32, 40, 98, 111, 111, 108, 41, 32, 123, 32, 114, 101, 116, 117, 114, 110, 32]
def preW : List Wd := [(4, [112, 97, 99, 107, 97, 103, 101], 0), (1, [112], 0), (4, [102, 117, 110, 99], 0), (1, [102], 0), (3, [40], 0), (3, [41], 0), (3, [40], 0), (4, [98, 111, 111, 108], 0), (3, [41], 0), (3, [123], 0), (4, [114, 101, 116, 117, 114, 110], 0)]
theorem words_pre (f : Nat) (l : List UInt8) : wordsT (f + 12) (preB ++ l) = preW ++ wordsT (f + 1) l := by kernel_rfl
def bndP {α β : Type} (p : α × Ps) (f : α → Ps → β × Ps) : β × Ps := f p.1 p.2
theorem dn_bnd {α β : Type} {s : Ps} {p : α × Ps} {f : α → Ps → β × Ps} (h : Dn s p.2) (hf : ∀ x s1, Dn s1 (f x s1).2) : Dn s (bndP p f).2 := h.trans (hf _ _)
theorem Dn.zero {a b : Ps} (h : Dn a b) (hb : b.e = 0) : a.e = 0 := by
 by_cases ha : a.e = 0
 ·exact ha
 ·rw [h.e ha] at hb; exact hb
theorem Dn.bad {a b : Ps} (h : Dn a b) (ha : a.e = 51) : b.e = 51 := by
 rw [h.e (by omega), ha]
structure Sim (c : Wd) (tl : List Wd) (s t : Ps) : Prop where
 se : s.e = 0
 te : t.e = 0
 h : t.h = s.h
 ws : ∃ init : List Wd, s.ws.map strip = init ++ [(0, [], 0)] ∧ t.ws.map strip = init ++ c :: tl ∧ ∀ x ∈ init, x.1 ≠ 0 ∧ x.1 ≠ 9
section
variable {c : Wd} {tl : List Wd} {s t : Ps}
def Res (c : Wd) (tl : List Wd) {α : Type} (p q : α × Ps) : Prop := p.2.e = 0 → (q.1 = p.1 ∧ Sim c tl p.2 q.2) ∨ q.2.e = 51
theorem Res.pure {α : Type} {s t : Ps} (h : Sim c tl s t) (x : α) : Res c tl (x, s) (x, t) := fun _ => .inl ⟨rfl, h⟩
theorem Res.dead {α : Type} {p q : α × Ps} (h : ¬ p.2.e = 0) : Res c tl p q := fun h0 => absurd h0 h
theorem Res.bndP {α β : Type} {p q : α × Ps} {f g : α → Ps → β × Ps} (h : Res c tl p q) (hf : ∀ x s, Dn s (f x s).2) (hg : ∀ x s, Dn s (g x s).2) (hk : Sim c tl p.2 q.2 → Res c tl (f p.1 p.2) (g p.1 q.2)) : Res c tl (bndP p f) (bndP q g) := by
 intro h0
 rcases h ((hf p.1 p.2).zero h0) with ⟨e, hs⟩ | h51
 ·have := hk hs h0
  unfold Proofs.YtnnnhlkmdnacaaaGreatDoor.bndP
  rw [e]
  exact this
 ·exact .inr ((hg q.1 q.2).bad h51)
theorem next_step {w : WordS} {r : List WordS} {o : Int} {h : Bool} (hr : ¬ (r.headD .zero).kind = 9) : nextP ⟨w :: r, 0, o, h⟩ = ⟨r, 0, o, h⟩ := by
 unfold nextP
 rw [if_pos rfl]
 exact if_neg hr
theorem Sim.split (hs : Sim c tl s t) (hc : c.1 ≠ 9) : (s.w.kind = 0 ∧ strip t.w = c) ∨ (s.w.kind ≠ 0 ∧ strip t.w = strip s.w ∧ ∀ o o' : Int, Sim c tl (nextP ⟨s.ws, 0, o, s.h⟩) (nextP ⟨t.ws, 0, o', t.h⟩)) := by
 obtain ⟨se, te, hh, init, h1, h2, h3⟩ := hs
 cases init with
 | nil =>
  obtain ⟨w, r, e1, e2, e3⟩ := List.map_eq_cons_iff.1 h1
  obtain ⟨w', r', f1, f2, f3⟩ := List.map_eq_cons_iff.1 h2
  refine .inl ⟨?_, ?_⟩
  ·unfold Ps.w
   rw [e1]
   exact congrArg Prod.fst e2
  ·unfold Ps.w
   rw [f1]
   exact f2
 | cons x init =>
  obtain ⟨w, r, e1, e2, e3⟩ := List.map_eq_cons_iff.1 h1
  obtain ⟨w', r', f1, f2, f3⟩ := List.map_eq_cons_iff.1 h2
  have hx := h3 x List.mem_cons_self
  refine .inr ⟨?_, ?_, fun o o' => ?_⟩
  ·unfold Ps.w
   rw [e1]
   intro h0
   exact hx.1 (by rw [← e2]; exact h0)
  ·unfold Ps.w
   rw [e1, f1]
   exact f2.trans e2.symm
  ·have hr : ¬ (r.headD .zero).kind = 9 := by
    cases init with
    | nil =>
     obtain ⟨y, r2, g1, g2, _⟩ := List.map_eq_cons_iff.1 e3
     rw [g1]
     intro h9
     have : (strip y).1 = 9 := h9
     rw [g2] at this
     exact absurd this (by decide)
    | cons y l =>
     obtain ⟨y', r2, g1, g2, _⟩ := List.map_eq_cons_iff.1 e3
     rw [g1]
     intro h9
     have : (strip y').1 = 9 := h9
     rw [g2] at this
     exact (h3 y (by simp)).2 this
   have hr' : ¬ (r'.headD .zero).kind = 9 := by
    cases init with
    | nil =>
     obtain ⟨y, r2, g1, g2, _⟩ := List.map_eq_cons_iff.1 f3
     rw [g1]
     intro h9
     have : (strip y).1 = 9 := h9
     rw [g2] at this
     exact hc this
    | cons y l =>
     obtain ⟨y', r2, g1, g2, _⟩ := List.map_eq_cons_iff.1 f3
     rw [g1]
     intro h9
     have : (strip y').1 = 9 := h9
     rw [g2] at this
     exact (h3 y (by simp)).2 this
   rw [e1, f1, next_step hr, next_step hr']
   exact ⟨rfl, rfl, hh, init, e3, f3, fun y hy => h3 y (List.mem_cons_of_mem _ hy)⟩
theorem Sim.at (hs : Sim c tl s t) (hc : c.1 ≠ 9) (hk : s.w.kind ≠ 0) : t.w.kind = s.w.kind ∧ t.w.text = s.w.text ∧ t.w.int = s.w.int := by
 rcases hs.split hc with ⟨h, _⟩ | ⟨_, h, _⟩
 ·exact absurd h hk
 ·have h1 := congrArg Prod.fst h
  have h2 := congrArg (fun x : Wd => x.2.1) h
  have h3 := congrArg (fun x : Wd => x.2.2) h
  exact ⟨h1, h2, h3⟩
theorem Sim.next (hs : Sim c tl s t) (hc : c.1 ≠ 9) (hk : s.w.kind ≠ 0) : Sim c tl (nextP s) (nextP t) := by
 rcases hs.split hc with ⟨h, _⟩ | ⟨_, _, h⟩
 ·exact absurd h hk
 ·have := h s.o t.o
  obtain ⟨a, e, o, b⟩ := s
  obtain ⟨a', e', o', b'⟩ := t
  obtain rfl : e = 0 := hs.se
  obtain rfl : e' = 0 := hs.te
  exact this
theorem is_end {s : Ps} (hk : s.w.kind = 0) (T : List UInt8) : isP s T = false := by
 unfold isP
 rw [hk]
 simp
theorem Sim.is (hs : Sim c tl s t) (hc : c.1 ≠ 9) (hk : s.w.kind ≠ 0) (T : List UInt8) : isP t T = isP s T := by
 obtain ⟨h1, h2, _⟩ := hs.at hc hk
 unfold isP
 rw [h1, h2, hs.se, hs.te]
theorem Sim.isNe (hs : Sim c tl s t) (hc : c.1 ≠ 9) {T : List UInt8} (hT : T ≠ c.2.1) : isP t T = isP s T := by
 by_cases hk : s.w.kind = 0
 ·rcases hs.split hc with ⟨_, h⟩ | ⟨h, _⟩
  ·rw [is_end hk]
   unfold isP
   have h2 : t.w.text = c.2.1 := congrArg (fun x : Wd => x.2.1) h
   rw [h2, decide_eq_false (show ¬ c.2.1 = T from fun e => hT e.symm), Bool.and_false]
  ·exact absurd hk h
 ·exact hs.is hc hk T
theorem bump_ways {s : Ps} (he : s.e = 0) (T : List UInt8) : (∃ o, bumpP s T = ⟨s.ws, 0, o, s.h⟩) ∨ (bumpP s T).e = 51 := by
 obtain ⟨a, e, o, b⟩ := s
 obtain rfl : e = 0 := he
 unfold bumpP failP
 split
 ·split
  ·exact .inr rfl
  ·exact .inl ⟨_, rfl⟩
 ·split
  ·exact .inl ⟨_, rfl⟩
  ·exact .inl ⟨_, rfl⟩
theorem next_off {s : Ps} (h : ¬ s.e = 0) : nextP s = s := if_neg h
theorem sim_take (hs : Sim c tl s t) (hc : c.1 ≠ 9) (hk : s.w.kind ≠ 0) (T : List UInt8) (h0 : (nextP (bumpP s T)).e = 0) : Sim c tl (nextP (bumpP s T)) (nextP (bumpP t T)) ∨ (nextP (bumpP t T)).e = 51 := by
 rcases bump_ways hs.se T with ⟨o, h1⟩ | h1
 ·rcases bump_ways hs.te T with ⟨o', h2⟩ | h2
  ·rw [h1, h2]
   rcases hs.split hc with ⟨h, _⟩ | ⟨_, _, h⟩
   ·exact absurd h hk
   ·exact .inl (h o o')
  ·exact .inr (by rw [next_off (s := bumpP t T) (by omega)]; exact h2)
 ·rw [next_off (s := bumpP s T) (by omega)] at h0
  omega
theorem is_kind {s : Ps} {T : List UInt8} (h : isP s T = true) : s.w.kind ≠ 0 := by
 obtain ⟨_, h1, _⟩ := is_live h
 omega
theorem sim_got (hs : Sim c tl s t) (hc : c.1 ≠ 9) {T : List UInt8} (hT : T ≠ c.2.1) : Res c tl (gotP s T) (gotP t T) := by
 unfold gotP
 rw [hs.isNe hc hT]
 split
 ·rename_i hi
  intro h0
  rcases sim_take hs hc (is_kind hi) T h0 with h | h
  ·exact .inl ⟨rfl, h⟩
  ·exact .inr h
 ·exact Res.pure hs _
theorem want_eq (s : Ps) (T : List UInt8) : wantP s T = if isP s T = true then nextP (bumpP s T) else failP s 51 := by
 unfold wantP gotP
 cases isP s T <;> rfl
theorem fail_at {s : Ps} (h : s.e = 0) (e : Int) : (failP s e).e = e := by unfold failP; rw [if_pos h]
theorem sim_want {α : Type} (hs : Sim c tl s t) (hc : c.1 ≠ 9) (T : List UInt8) (x : α) : Res c tl (x, wantP s T) (x, wantP t T) := by
 intro h0
 dsimp only at h0 ⊢
 rw [want_eq] at h0
 by_cases hi : isP s T = true
 ·have hk := is_kind hi
  rw [want_eq, want_eq, hs.is hc hk, if_pos hi, if_pos hi]
  rw [if_pos hi] at h0
  exact (sim_take hs hc hk T h0).imp (fun h => ⟨rfl, h⟩) id
 ·rw [if_neg hi, fail_at hs.se] at h0
  exact absurd h0 (by decide)
theorem sim_name (hs : Sim c tl s t) (hc : c.1 ≠ 9) : Res c tl (nameP s) (nameP t) := by
 unfold nameP
 by_cases hk : s.w.kind = 1
 ·obtain ⟨h1, h2, _⟩ := hs.at hc (by omega)
  rw [if_pos ⟨hs.se, hk⟩, if_pos ⟨hs.te, by omega⟩, h2]
  exact Res.pure (hs.next hc (by omega)) _
 ·rw [if_neg (fun h => hk h.2)]
  refine Res.dead ?_
  dsimp only
  rw [fail_at hs.se]
  decide
end
structure Cl (c : Wd) : Prop where
 k : c.1 ≠ 9
 t : c.2.1 = [41] ∨ c.2.1 = [125] ∨ c.2.1 = []
theorem Cl.ne {c : Wd} (h : Cl c) {T : List UInt8} (hT : T ≠ [41] ∧ T ≠ [125] ∧ T ≠ []) : T ≠ c.2.1 := by
 rcases h.t with e | e | e <;> rw [e]
 ·exact hT.1
 ·exact hT.2.1
 ·exact hT.2.2
section
variable {c : Wd} {tl : List Wd} {s t : Ps}
theorem Res.no {α β : Type} {p : α × Ps} {f : α → Ps → β × Ps} {q : β × Ps} (h : ¬ p.2.e = 0) (hf : ∀ x s, Dn s (f x s).2) : Res c tl (Proofs.YtnnnhlkmdnacaaaGreatDoor.bndP p f) q := Res.dead fun h0 => h ((hf p.1 p.2).zero h0)
theorem want_lt {s : Ps} {T : List UInt8} (h : (wantP s T).e = 0) : mu (wantP s T) < mu s := by
 rw [want_eq] at h ⊢
 split at h
 ·rename_i hi
  rw [if_pos hi]
  have h2 := (got_all s T).2.1
  unfold gotP at h2
  rw [if_pos hi] at h2
  exact h2 rfl
 ·have h1 := (dn_fail s 51).zero h
  rw [fail_at h1] at h
  exact absurd h (by decide)
theorem got_mu {s : Ps} {T : List UInt8} (h : (gotP s T).1 = true) : mu (gotP s T).2 < mu s := (got_all s T).2.1 h
theorem up_eq (m : Nat) (s : Ps) : upP (m + 1) s = bndP (gotP s [91]) fun b s1 => if b = true then bndP ((), wantP s1 [93]) fun _ s2 => bndP (upP m s2) fun n s3 => (n + 1, s3) else (0, s1) := by
 conv => lhs; unfold upP
 rcases gotP s [91] with ⟨_ | _, s1⟩ <;> rfl
theorem sim_up (hc : Cl c) : ∀ (m : Nat) {s t : Ps}, Sim c tl s t → Res c tl (upP m s) (upP m t)
 | 0, s, t, hs => .pure hs _
 | m + 1, s, t, hs => by
  rw [up_eq, up_eq]
  refine Res.bndP (sim_got hs hc.k (hc.ne (by decide))) (fun _ _ => ?_) (fun _ _ => ?_) fun h1 => ?_
  ·repeat' (first | exact Dn.refl _ | exact dn_want _ _ | exact dn_fail _ _ | exact dn_next _ | exact (got_all _ _).1 | exact dn_name rfl | exact hE.dn _ | exact dn_list hE.dn _ _ _ rfl | exact dn_listP hE.dn rfl | exact dn_fld hE.dn _ rfl | exact dn_pst hE.dn _ rfl | exact dn_up _ rfl | exact dn_base rfl | exact dn_typ rfl | exact dn_rank hE.dn _ _ rfl | exact dn_sgn _ rfl | exact dn_prim hE.dn rfl | refine dn_bnd ?_ (fun _ _ => ?_) | split)
  ·repeat' (first | exact Dn.refl _ | exact dn_want _ _ | exact dn_fail _ _ | exact dn_next _ | exact (got_all _ _).1 | exact dn_name rfl | exact hE.dn _ | exact dn_list hE.dn _ _ _ rfl | exact dn_listP hE.dn rfl | exact dn_fld hE.dn _ rfl | exact dn_pst hE.dn _ rfl | exact dn_up _ rfl | exact dn_base rfl | exact dn_typ rfl | exact dn_rank hE.dn _ _ rfl | exact dn_sgn _ rfl | exact dn_prim hE.dn rfl | refine dn_bnd ?_ (fun _ _ => ?_) | split)
  split
  ·refine Res.bndP (sim_want h1 hc.k _ _) (fun _ _ => ?_) (fun _ _ => ?_) fun h2 => ?_
   ·repeat' (first | exact Dn.refl _ | exact dn_want _ _ | exact dn_fail _ _ | exact dn_next _ | exact (got_all _ _).1 | exact dn_name rfl | exact hE.dn _ | exact dn_list hE.dn _ _ _ rfl | exact dn_listP hE.dn rfl | exact dn_fld hE.dn _ rfl | exact dn_pst hE.dn _ rfl | exact dn_up _ rfl | exact dn_base rfl | exact dn_typ rfl | exact dn_rank hE.dn _ _ rfl | exact dn_sgn _ rfl | exact dn_prim hE.dn rfl | refine dn_bnd ?_ (fun _ _ => ?_) | split)
   ·repeat' (first | exact Dn.refl _ | exact dn_want _ _ | exact dn_fail _ _ | exact dn_next _ | exact (got_all _ _).1 | exact dn_name rfl | exact hE.dn _ | exact dn_list hE.dn _ _ _ rfl | exact dn_listP hE.dn rfl | exact dn_fld hE.dn _ rfl | exact dn_pst hE.dn _ rfl | exact dn_up _ rfl | exact dn_base rfl | exact dn_typ rfl | exact dn_rank hE.dn _ _ rfl | exact dn_sgn _ rfl | exact dn_prim hE.dn rfl | refine dn_bnd ?_ (fun _ _ => ?_) | split)
   refine Res.bndP (sim_up hc m h2) (fun _ _ => ?_) (fun _ _ => ?_) fun h3 => ?_
   ·repeat' (first | exact Dn.refl _ | exact dn_want _ _ | exact dn_fail _ _ | exact dn_next _ | exact (got_all _ _).1 | exact dn_name rfl | exact hE.dn _ | exact dn_list hE.dn _ _ _ rfl | exact dn_listP hE.dn rfl | exact dn_fld hE.dn _ rfl | exact dn_pst hE.dn _ rfl | exact dn_up _ rfl | exact dn_base rfl | exact dn_typ rfl | exact dn_rank hE.dn _ _ rfl | exact dn_sgn _ rfl | exact dn_prim hE.dn rfl | refine dn_bnd ?_ (fun _ _ => ?_) | split)
   ·repeat' (first | exact Dn.refl _ | exact dn_want _ _ | exact dn_fail _ _ | exact dn_next _ | exact (got_all _ _).1 | exact dn_name rfl | exact hE.dn _ | exact dn_list hE.dn _ _ _ rfl | exact dn_listP hE.dn rfl | exact dn_fld hE.dn _ rfl | exact dn_pst hE.dn _ rfl | exact dn_up _ rfl | exact dn_base rfl | exact dn_typ rfl | exact dn_rank hE.dn _ _ rfl | exact dn_sgn _ rfl | exact dn_prim hE.dn rfl | refine dn_bnd ?_ (fun _ _ => ?_) | split)
   exact .pure h3 _
  ·exact .pure h1 _
theorem sim_base (hc : Cl c) (hs : Sim c tl s t) : Res c tl (baseP s) (baseP t) := by
 by_cases hk : s.w.kind = 0
 ·refine Res.dead ?_
  unfold baseP
  rw [if_neg (by rw [is_end hk]; simp)]
  show ¬ (nameP s).2.e = 0
  unfold nameP
  rw [if_neg (by omega)]
  show ¬ (failP s 51).e = 0
  rw [fail_at hs.se]
  decide
 ·obtain ⟨h1, h2, _⟩ := hs.at hc.k hk
  have hb : ∀ s, baseP s = if 0 < kindS s.w.text ∧ isP s s.w.text = true then (.mk (kindS s.w.text) [] [], nextP s) else bndP (nameP s) fun t s1 => (.mk 7 t [], s1) := fun _ => rfl
  rw [hb, hb, h2, hs.is hc.k hk]
  split
  ·exact .pure (hs.next hc.k hk) _
  ·refine Res.bndP (sim_name hs hc.k) (fun _ _ => ?_) (fun _ _ => ?_) fun h3 => .pure h3 _
   ·repeat' (first | exact Dn.refl _ | exact dn_want _ _ | exact dn_fail _ _ | exact dn_next _ | exact (got_all _ _).1 | exact dn_name rfl | exact hE.dn _ | exact dn_list hE.dn _ _ _ rfl | exact dn_listP hE.dn rfl | exact dn_fld hE.dn _ rfl | exact dn_pst hE.dn _ rfl | exact dn_up _ rfl | exact dn_base rfl | exact dn_typ rfl | exact dn_rank hE.dn _ _ rfl | exact dn_sgn _ rfl | exact dn_prim hE.dn rfl | refine dn_bnd ?_ (fun _ _ => ?_) | split)
   ·repeat' (first | exact Dn.refl _ | exact dn_want _ _ | exact dn_fail _ _ | exact dn_next _ | exact (got_all _ _).1 | exact dn_name rfl | exact hE.dn _ | exact dn_list hE.dn _ _ _ rfl | exact dn_listP hE.dn rfl | exact dn_fld hE.dn _ rfl | exact dn_pst hE.dn _ rfl | exact dn_up _ rfl | exact dn_base rfl | exact dn_typ rfl | exact dn_rank hE.dn _ _ rfl | exact dn_sgn _ rfl | exact dn_prim hE.dn rfl | refine dn_bnd ?_ (fun _ _ => ?_) | split)
theorem sim_typ (hc : Cl c) (m : Nat) (hs : Sim c tl s t) : Res c tl (typP m s) (typP m t) := by
 have hb : ∀ s, typP m s = bndP (upP m s) fun n s1 => bndP (baseP s1) fun t s2 => (wrapT n t, s2) := fun _ => rfl
 rw [hb, hb]
 refine Res.bndP (sim_up hc m hs) (fun _ _ => ?_) (fun _ _ => ?_) fun h1 => ?_
 ·repeat' (first | exact Dn.refl _ | exact dn_want _ _ | exact dn_fail _ _ | exact dn_next _ | exact (got_all _ _).1 | exact dn_name rfl | exact hE.dn _ | exact dn_list hE.dn _ _ _ rfl | exact dn_listP hE.dn rfl | exact dn_fld hE.dn _ rfl | exact dn_pst hE.dn _ rfl | exact dn_up _ rfl | exact dn_base rfl | exact dn_typ rfl | exact dn_rank hE.dn _ _ rfl | exact dn_sgn _ rfl | exact dn_prim hE.dn rfl | refine dn_bnd ?_ (fun _ _ => ?_) | split)
 ·repeat' (first | exact Dn.refl _ | exact dn_want _ _ | exact dn_fail _ _ | exact dn_next _ | exact (got_all _ _).1 | exact dn_name rfl | exact hE.dn _ | exact dn_list hE.dn _ _ _ rfl | exact dn_listP hE.dn rfl | exact dn_fld hE.dn _ rfl | exact dn_pst hE.dn _ rfl | exact dn_up _ rfl | exact dn_base rfl | exact dn_typ rfl | exact dn_rank hE.dn _ _ rfl | exact dn_sgn _ rfl | exact dn_prim hE.dn rfl | refine dn_bnd ?_ (fun _ _ => ?_) | split)
 refine Res.bndP (sim_base hc h1) (fun _ _ => ?_) (fun _ _ => ?_) fun h2 => .pure h2 _
 ·repeat' (first | exact Dn.refl _ | exact dn_want _ _ | exact dn_fail _ _ | exact dn_next _ | exact (got_all _ _).1 | exact dn_name rfl | exact hE.dn _ | exact dn_list hE.dn _ _ _ rfl | exact dn_listP hE.dn rfl | exact dn_fld hE.dn _ rfl | exact dn_pst hE.dn _ rfl | exact dn_up _ rfl | exact dn_base rfl | exact dn_typ rfl | exact dn_rank hE.dn _ _ rfl | exact dn_sgn _ rfl | exact dn_prim hE.dn rfl | refine dn_bnd ?_ (fun _ _ => ?_) | split)
 ·repeat' (first | exact Dn.refl _ | exact dn_want _ _ | exact dn_fail _ _ | exact dn_next _ | exact (got_all _ _).1 | exact dn_name rfl | exact hE.dn _ | exact dn_list hE.dn _ _ _ rfl | exact dn_listP hE.dn rfl | exact dn_fld hE.dn _ rfl | exact dn_pst hE.dn _ rfl | exact dn_up _ rfl | exact dn_base rfl | exact dn_typ rfl | exact dn_rank hE.dn _ _ rfl | exact dn_sgn _ rfl | exact dn_prim hE.dn rfl | refine dn_bnd ?_ (fun _ _ => ?_) | split)
structure SE (c : Wd) (tl : List Wd) (n : Nat) (E : EP) : Prop where
 dn : DnE E
 go : ∀ {s t : Ps}, Sim c tl s t → mu s < n → Res c tl (E s) (E t)
 no : ∀ s, s.e = 0 → s.w.kind = 0 → mu s < n → ¬ (E s).2.e = 0
variable {n : Nat} {E : EP}
theorem list_eq (E : EP) (en : List UInt8) (comma : Bool) (m : Nat) (s : Ps) : listL E en comma (m + 1) s = if s.e = 0 ∧ isP s en = false then bndP (E s) fun x s1 => bndP (gotP s1 [44]) fun b s2 =>
 if b = true then bndP ((), if comma = false ∧ isP s2 en = true then failP s2 51 else s2) fun _ s3 => bndP (listL E en comma m s3) fun l s4 => (x :: l, s4) else ([x], s2) else ([], s) := by
 conv => lhs; unfold listL
 split
 ·unfold Proofs.YtnnnhlkmdnacaaaGreatDoor.bndP
  rcases E s with ⟨x, s1⟩
  dsimp only
  rcases gotP s1 [44] with ⟨_ | _, s2⟩ <;> rfl
 ·rfl
theorem sim_list (hc : Cl c) (hE : SE c tl n E) (en : List UInt8) (comma : Bool) : ∀ (m : Nat) {s t : Ps}, Sim c tl s t → mu s < n → Res c tl (listL E en comma m s) (listL E en comma m t)
 | 0, s, t, hs, _ => .pure hs _
 | m + 1, s, t, hs, hm => by
  rw [list_eq, list_eq]
  by_cases hk : s.w.kind = 0
  ·rw [if_pos ⟨hs.se, is_end hk en⟩]
   refine Res.no (hE.no s hs.se hk hm) (fun _ _ => ?_)
   repeat' (first | exact Dn.refl _ | exact dn_want _ _ | exact dn_fail _ _ | exact dn_next _ | exact (got_all _ _).1 | exact dn_name rfl | exact hE.dn _ | exact dn_list hE.dn _ _ _ rfl | exact dn_listP hE.dn rfl | exact dn_fld hE.dn _ rfl | exact dn_pst hE.dn _ rfl | exact dn_up _ rfl | exact dn_base rfl | exact dn_typ rfl | exact dn_rank hE.dn _ _ rfl | exact dn_sgn _ rfl | exact dn_prim hE.dn rfl | refine dn_bnd ?_ (fun _ _ => ?_) | split)
  rw [hs.is hc.k hk, hs.se, hs.te]
  split
  ·refine Res.bndP (hE.go hs hm) (fun _ _ => ?_) (fun _ _ => ?_) fun h1 => ?_
   ·repeat' (first | exact Dn.refl _ | exact dn_want _ _ | exact dn_fail _ _ | exact dn_next _ | exact (got_all _ _).1 | exact dn_name rfl | exact hE.dn _ | exact dn_list hE.dn _ _ _ rfl | exact dn_listP hE.dn rfl | exact dn_fld hE.dn _ rfl | exact dn_pst hE.dn _ rfl | exact dn_up _ rfl | exact dn_base rfl | exact dn_typ rfl | exact dn_rank hE.dn _ _ rfl | exact dn_sgn _ rfl | exact dn_prim hE.dn rfl | refine dn_bnd ?_ (fun _ _ => ?_) | split)
   ·repeat' (first | exact Dn.refl _ | exact dn_want _ _ | exact dn_fail _ _ | exact dn_next _ | exact (got_all _ _).1 | exact dn_name rfl | exact hE.dn _ | exact dn_list hE.dn _ _ _ rfl | exact dn_listP hE.dn rfl | exact dn_fld hE.dn _ rfl | exact dn_pst hE.dn _ rfl | exact dn_up _ rfl | exact dn_base rfl | exact dn_typ rfl | exact dn_rank hE.dn _ _ rfl | exact dn_sgn _ rfl | exact dn_prim hE.dn rfl | refine dn_bnd ?_ (fun _ _ => ?_) | split)
   have hm1 := (hE.dn s).le
   refine Res.bndP (sim_got h1 hc.k (hc.ne (by decide))) (fun _ _ => ?_) (fun _ _ => ?_) fun h2 => ?_
   ·repeat' (first | exact Dn.refl _ | exact dn_want _ _ | exact dn_fail _ _ | exact dn_next _ | exact (got_all _ _).1 | exact dn_name rfl | exact hE.dn _ | exact dn_list hE.dn _ _ _ rfl | exact dn_listP hE.dn rfl | exact dn_fld hE.dn _ rfl | exact dn_pst hE.dn _ rfl | exact dn_up _ rfl | exact dn_base rfl | exact dn_typ rfl | exact dn_rank hE.dn _ _ rfl | exact dn_sgn _ rfl | exact dn_prim hE.dn rfl | refine dn_bnd ?_ (fun _ _ => ?_) | split)
   ·repeat' (first | exact Dn.refl _ | exact dn_want _ _ | exact dn_fail _ _ | exact dn_next _ | exact (got_all _ _).1 | exact dn_name rfl | exact hE.dn _ | exact dn_list hE.dn _ _ _ rfl | exact dn_listP hE.dn rfl | exact dn_fld hE.dn _ rfl | exact dn_pst hE.dn _ rfl | exact dn_up _ rfl | exact dn_base rfl | exact dn_typ rfl | exact dn_rank hE.dn _ _ rfl | exact dn_sgn _ rfl | exact dn_prim hE.dn rfl | refine dn_bnd ?_ (fun _ _ => ?_) | split)
   have hm2 := (got_all (E s).2 [44]).1.le
   split
   ·refine Res.bndP ?_ (fun _ _ => ?_) (fun _ _ => ?_) fun h3 => ?_
    ·by_cases hk2 : (gotP (E s).2 [44]).2.w.kind = 0
     ·rw [is_end hk2, if_neg (by simp)]
      split
      ·exact fun _ => .inr (fail_at h2.te 51)
      ·exact .pure h2 _
     ·rw [h2.is hc.k hk2]
      split
      ·exact .dead (by rw [fail_at h2.se]; decide)
      ·exact .pure h2 _
    ·repeat' (first | exact Dn.refl _ | exact dn_want _ _ | exact dn_fail _ _ | exact dn_next _ | exact (got_all _ _).1 | exact dn_name rfl | exact hE.dn _ | exact dn_list hE.dn _ _ _ rfl | exact dn_listP hE.dn rfl | exact dn_fld hE.dn _ rfl | exact dn_pst hE.dn _ rfl | exact dn_up _ rfl | exact dn_base rfl | exact dn_typ rfl | exact dn_rank hE.dn _ _ rfl | exact dn_sgn _ rfl | exact dn_prim hE.dn rfl | refine dn_bnd ?_ (fun _ _ => ?_) | split)
    ·repeat' (first | exact Dn.refl _ | exact dn_want _ _ | exact dn_fail _ _ | exact dn_next _ | exact (got_all _ _).1 | exact dn_name rfl | exact hE.dn _ | exact dn_list hE.dn _ _ _ rfl | exact dn_listP hE.dn rfl | exact dn_fld hE.dn _ rfl | exact dn_pst hE.dn _ rfl | exact dn_up _ rfl | exact dn_base rfl | exact dn_typ rfl | exact dn_rank hE.dn _ _ rfl | exact dn_sgn _ rfl | exact dn_prim hE.dn rfl | refine dn_bnd ?_ (fun _ _ => ?_) | split)
    have hm3 : mu (if comma = false ∧ isP (gotP (E s).2 [44]).2 en = true then failP (gotP (E s).2 [44]).2 51 else (gotP (E s).2 [44]).2) ≤ mu (gotP (E s).2 [44]).2 := by
     split
     ·exact (dn_fail _ _).le
     ·exact Nat.le_refl _
    refine Res.bndP (sim_list hc hE en comma m h3 (by dsimp only; omega)) (fun _ _ => ?_) (fun _ _ => ?_) fun h4 => .pure h4 _
    ·repeat' (first | exact Dn.refl _ | exact dn_want _ _ | exact dn_fail _ _ | exact dn_next _ | exact (got_all _ _).1 | exact dn_name rfl | exact hE.dn _ | exact dn_list hE.dn _ _ _ rfl | exact dn_listP hE.dn rfl | exact dn_fld hE.dn _ rfl | exact dn_pst hE.dn _ rfl | exact dn_up _ rfl | exact dn_base rfl | exact dn_typ rfl | exact dn_rank hE.dn _ _ rfl | exact dn_sgn _ rfl | exact dn_prim hE.dn rfl | refine dn_bnd ?_ (fun _ _ => ?_) | split)
    ·repeat' (first | exact Dn.refl _ | exact dn_want _ _ | exact dn_fail _ _ | exact dn_next _ | exact (got_all _ _).1 | exact dn_name rfl | exact hE.dn _ | exact dn_list hE.dn _ _ _ rfl | exact dn_listP hE.dn rfl | exact dn_fld hE.dn _ rfl | exact dn_pst hE.dn _ rfl | exact dn_up _ rfl | exact dn_base rfl | exact dn_typ rfl | exact dn_rank hE.dn _ _ rfl | exact dn_sgn _ rfl | exact dn_prim hE.dn rfl | refine dn_bnd ?_ (fun _ _ => ?_) | split)
   ·exact .pure h2 _
  ·exact .pure hs _
theorem sim_listP (hc : Cl c) (hE : SE c tl n E) (en : List UInt8) (comma : Bool) (m : Nat) (hs : Sim c tl s t) (hm : mu s < n) : Res c tl (listP E en comma m s) (listP E en comma m t) := by
 have hb : ∀ s, listP E en comma m s = bndP (listL E en comma m s) fun l s1 => (l, wantP s1 en) := fun _ => rfl
 rw [hb, hb]
 refine Res.bndP (sim_list hc hE en comma m hs hm) (fun _ _ => ?_) (fun _ _ => ?_) fun h1 => sim_want h1 hc.k _ _
 ·repeat' (first | exact Dn.refl _ | exact dn_want _ _ | exact dn_fail _ _ | exact dn_next _ | exact (got_all _ _).1 | exact dn_name rfl | exact hE.dn _ | exact dn_list hE.dn _ _ _ rfl | exact dn_listP hE.dn rfl | exact dn_fld hE.dn _ rfl | exact dn_pst hE.dn _ rfl | exact dn_up _ rfl | exact dn_base rfl | exact dn_typ rfl | exact dn_rank hE.dn _ _ rfl | exact dn_sgn _ rfl | exact dn_prim hE.dn rfl | refine dn_bnd ?_ (fun _ _ => ?_) | split)
 ·repeat' (first | exact Dn.refl _ | exact dn_want _ _ | exact dn_fail _ _ | exact dn_next _ | exact (got_all _ _).1 | exact dn_name rfl | exact hE.dn _ | exact dn_list hE.dn _ _ _ rfl | exact dn_listP hE.dn rfl | exact dn_fld hE.dn _ rfl | exact dn_pst hE.dn _ rfl | exact dn_up _ rfl | exact dn_base rfl | exact dn_typ rfl | exact dn_rank hE.dn _ _ rfl | exact dn_sgn _ rfl | exact dn_prim hE.dn rfl | refine dn_bnd ?_ (fun _ _ => ?_) | split)
theorem name_end (he : s.e = 0) (hk : s.w.kind = 0) : ¬ (nameP s).2.e = 0 := by
 unfold nameP
 rw [if_neg (by omega)]
 show ¬ (failP s 51).e = 0
 rw [fail_at he]
 decide
theorem fld_eq (E : EP) (m : Nat) (s : Ps) : fldL E (m + 1) s = if s.e = 0 ∧ isP s [125] = false then bndP (nameP s) fun t s1 => bndP ((), wantP s1 [58]) fun _ s2 => bndP (E s2) fun x s3 => bndP (gotP s3 [44]) fun b s4 =>
 if b = true then bndP (fldL E m s4) fun p s5 => ((t :: p.1, x :: p.2), s5) else (([t], [x]), s4) else (([], []), s) := by
 conv => lhs; unfold fldL
 split
 ·unfold Proofs.YtnnnhlkmdnacaaaGreatDoor.bndP
  rcases nameP s with ⟨x, s1⟩
  dsimp only
  rcases E (wantP s1 [58]) with ⟨y, s2⟩
  dsimp only
  rcases gotP s2 [44] with ⟨_ | _, s3⟩ <;> rfl
 ·rfl
theorem sim_fld (hc : Cl c) (hE : SE c tl n E) : ∀ (m : Nat) {s t : Ps}, Sim c tl s t → mu s < n → Res c tl (fldL E m s) (fldL E m t)
 | 0, s, t, hs, _ => .pure hs _
 | m + 1, s, t, hs, hm => by
  rw [fld_eq, fld_eq]
  by_cases hk : s.w.kind = 0
  ·rw [if_pos ⟨hs.se, is_end hk _⟩]
   refine Res.no (name_end hs.se hk) (fun _ _ => ?_)
   repeat' (first | exact Dn.refl _ | exact dn_want _ _ | exact dn_fail _ _ | exact dn_next _ | exact (got_all _ _).1 | exact dn_name rfl | exact hE.dn _ | exact dn_list hE.dn _ _ _ rfl | exact dn_listP hE.dn rfl | exact dn_fld hE.dn _ rfl | exact dn_pst hE.dn _ rfl | exact dn_up _ rfl | exact dn_base rfl | exact dn_typ rfl | exact dn_rank hE.dn _ _ rfl | exact dn_sgn _ rfl | exact dn_prim hE.dn rfl | refine dn_bnd ?_ (fun _ _ => ?_) | split)
  rw [hs.is hc.k hk, hs.se, hs.te]
  split
  ·refine Res.bndP (sim_name hs hc.k) (fun _ _ => ?_) (fun _ _ => ?_) fun h1 => ?_
   ·repeat' (first | exact Dn.refl _ | exact dn_want _ _ | exact dn_fail _ _ | exact dn_next _ | exact (got_all _ _).1 | exact dn_name rfl | exact hE.dn _ | exact dn_list hE.dn _ _ _ rfl | exact dn_listP hE.dn rfl | exact dn_fld hE.dn _ rfl | exact dn_pst hE.dn _ rfl | exact dn_up _ rfl | exact dn_base rfl | exact dn_typ rfl | exact dn_rank hE.dn _ _ rfl | exact dn_sgn _ rfl | exact dn_prim hE.dn rfl | refine dn_bnd ?_ (fun _ _ => ?_) | split)
   ·repeat' (first | exact Dn.refl _ | exact dn_want _ _ | exact dn_fail _ _ | exact dn_next _ | exact (got_all _ _).1 | exact dn_name rfl | exact hE.dn _ | exact dn_list hE.dn _ _ _ rfl | exact dn_listP hE.dn rfl | exact dn_fld hE.dn _ rfl | exact dn_pst hE.dn _ rfl | exact dn_up _ rfl | exact dn_base rfl | exact dn_typ rfl | exact dn_rank hE.dn _ _ rfl | exact dn_sgn _ rfl | exact dn_prim hE.dn rfl | refine dn_bnd ?_ (fun _ _ => ?_) | split)
   have hm1 : mu (nameP s).2 ≤ mu s := (dn_name rfl).le
   refine Res.bndP (sim_want h1 hc.k _ _) (fun _ _ => ?_) (fun _ _ => ?_) fun h2 => ?_
   ·repeat' (first | exact Dn.refl _ | exact dn_want _ _ | exact dn_fail _ _ | exact dn_next _ | exact (got_all _ _).1 | exact dn_name rfl | exact hE.dn _ | exact dn_list hE.dn _ _ _ rfl | exact dn_listP hE.dn rfl | exact dn_fld hE.dn _ rfl | exact dn_pst hE.dn _ rfl | exact dn_up _ rfl | exact dn_base rfl | exact dn_typ rfl | exact dn_rank hE.dn _ _ rfl | exact dn_sgn _ rfl | exact dn_prim hE.dn rfl | refine dn_bnd ?_ (fun _ _ => ?_) | split)
   ·repeat' (first | exact Dn.refl _ | exact dn_want _ _ | exact dn_fail _ _ | exact dn_next _ | exact (got_all _ _).1 | exact dn_name rfl | exact hE.dn _ | exact dn_list hE.dn _ _ _ rfl | exact dn_listP hE.dn rfl | exact dn_fld hE.dn _ rfl | exact dn_pst hE.dn _ rfl | exact dn_up _ rfl | exact dn_base rfl | exact dn_typ rfl | exact dn_rank hE.dn _ _ rfl | exact dn_sgn _ rfl | exact dn_prim hE.dn rfl | refine dn_bnd ?_ (fun _ _ => ?_) | split)
   have hm2 := (dn_want (nameP s).2 [58]).le
   refine Res.bndP (hE.go h2 (by dsimp only; omega)) (fun _ _ => ?_) (fun _ _ => ?_) fun h3 => ?_
   ·repeat' (first | exact Dn.refl _ | exact dn_want _ _ | exact dn_fail _ _ | exact dn_next _ | exact (got_all _ _).1 | exact dn_name rfl | exact hE.dn _ | exact dn_list hE.dn _ _ _ rfl | exact dn_listP hE.dn rfl | exact dn_fld hE.dn _ rfl | exact dn_pst hE.dn _ rfl | exact dn_up _ rfl | exact dn_base rfl | exact dn_typ rfl | exact dn_rank hE.dn _ _ rfl | exact dn_sgn _ rfl | exact dn_prim hE.dn rfl | refine dn_bnd ?_ (fun _ _ => ?_) | split)
   ·repeat' (first | exact Dn.refl _ | exact dn_want _ _ | exact dn_fail _ _ | exact dn_next _ | exact (got_all _ _).1 | exact dn_name rfl | exact hE.dn _ | exact dn_list hE.dn _ _ _ rfl | exact dn_listP hE.dn rfl | exact dn_fld hE.dn _ rfl | exact dn_pst hE.dn _ rfl | exact dn_up _ rfl | exact dn_base rfl | exact dn_typ rfl | exact dn_rank hE.dn _ _ rfl | exact dn_sgn _ rfl | exact dn_prim hE.dn rfl | refine dn_bnd ?_ (fun _ _ => ?_) | split)
   have hm3 := (hE.dn (wantP (nameP s).2 [58])).le
   refine Res.bndP (sim_got h3 hc.k (hc.ne (by decide))) (fun _ _ => ?_) (fun _ _ => ?_) fun h4 => ?_
   ·repeat' (first | exact Dn.refl _ | exact dn_want _ _ | exact dn_fail _ _ | exact dn_next _ | exact (got_all _ _).1 | exact dn_name rfl | exact hE.dn _ | exact dn_list hE.dn _ _ _ rfl | exact dn_listP hE.dn rfl | exact dn_fld hE.dn _ rfl | exact dn_pst hE.dn _ rfl | exact dn_up _ rfl | exact dn_base rfl | exact dn_typ rfl | exact dn_rank hE.dn _ _ rfl | exact dn_sgn _ rfl | exact dn_prim hE.dn rfl | refine dn_bnd ?_ (fun _ _ => ?_) | split)
   ·repeat' (first | exact Dn.refl _ | exact dn_want _ _ | exact dn_fail _ _ | exact dn_next _ | exact (got_all _ _).1 | exact dn_name rfl | exact hE.dn _ | exact dn_list hE.dn _ _ _ rfl | exact dn_listP hE.dn rfl | exact dn_fld hE.dn _ rfl | exact dn_pst hE.dn _ rfl | exact dn_up _ rfl | exact dn_base rfl | exact dn_typ rfl | exact dn_rank hE.dn _ _ rfl | exact dn_sgn _ rfl | exact dn_prim hE.dn rfl | refine dn_bnd ?_ (fun _ _ => ?_) | split)
   have hm4 := (got_all (E (wantP (nameP s).2 [58])).2 [44]).1.le
   split
   ·refine Res.bndP (sim_fld hc hE m h4 (by dsimp only; omega)) (fun _ _ => ?_) (fun _ _ => ?_) fun h5 => .pure h5 _
    ·repeat' (first | exact Dn.refl _ | exact dn_want _ _ | exact dn_fail _ _ | exact dn_next _ | exact (got_all _ _).1 | exact dn_name rfl | exact hE.dn _ | exact dn_list hE.dn _ _ _ rfl | exact dn_listP hE.dn rfl | exact dn_fld hE.dn _ rfl | exact dn_pst hE.dn _ rfl | exact dn_up _ rfl | exact dn_base rfl | exact dn_typ rfl | exact dn_rank hE.dn _ _ rfl | exact dn_sgn _ rfl | exact dn_prim hE.dn rfl | refine dn_bnd ?_ (fun _ _ => ?_) | split)
    ·repeat' (first | exact Dn.refl _ | exact dn_want _ _ | exact dn_fail _ _ | exact dn_next _ | exact (got_all _ _).1 | exact dn_name rfl | exact hE.dn _ | exact dn_list hE.dn _ _ _ rfl | exact dn_listP hE.dn rfl | exact dn_fld hE.dn _ rfl | exact dn_pst hE.dn _ rfl | exact dn_up _ rfl | exact dn_base rfl | exact dn_typ rfl | exact dn_rank hE.dn _ _ rfl | exact dn_sgn _ rfl | exact dn_prim hE.dn rfl | refine dn_bnd ?_ (fun _ _ => ?_) | split)
   ·exact .pure h4 _
  ·exact .pure hs _
theorem named_eq (E : EP) (m : Nat) (s : Ps) : namedP true E m s = bndP (nameP s) fun t s1 => bndP (gotP s1 [40]) fun b s2 => if b = true then bndP (listP E [41] false m s2) fun l s3 => (.mk 7 t 0 noT [] l, s3)
 else if s2.h = false then bndP (gotP s2 [123]) fun b s3 => if b = true then bndP (fldL E m s3) fun p s4 => (.mk 14 [] 0 (.mk 7 t []) p.1 p.2, wantP s4 [125]) else (.mk 1 t 0 noT [] [], s3) else (.mk 1 t 0 noT [] [], s2) := by
 conv => lhs; unfold namedP
 unfold Proofs.YtnnnhlkmdnacaaaGreatDoor.bndP
 rcases nameP s with ⟨x, s0⟩
 dsimp only
 rcases hg : gotP s0 [40] with ⟨_ | _, s1⟩
 ·obtain rfl := got_no hg
  simp only [Bool.false_eq_true, if_false]
  split
  ·rcases hg2 : gotP s1 [123] with ⟨_ | _, s2⟩
   ·obtain rfl := got_no hg2
    rfl
   ·rfl
  ·rfl
 ·rfl
theorem sim_named (hc : Cl c) (hE : SE c tl n E) (m : Nat) (hs : Sim c tl s t) (hk : s.w.kind = 1) (hm : mu s ≤ n) : Res c tl (namedP true E m s) (namedP true E m t) := by
 rw [named_eq, named_eq]
 refine Res.bndP (sim_name hs hc.k) (fun _ _ => ?_) (fun _ _ => ?_) fun h1 => ?_
 ·repeat' (first | exact Dn.refl _ | exact dn_want _ _ | exact dn_fail _ _ | exact dn_next _ | exact (got_all _ _).1 | exact dn_name rfl | exact hE.dn _ | exact dn_list hE.dn _ _ _ rfl | exact dn_listP hE.dn rfl | exact dn_fld hE.dn _ rfl | exact dn_pst hE.dn _ rfl | exact dn_up _ rfl | exact dn_base rfl | exact dn_typ rfl | exact dn_rank hE.dn _ _ rfl | exact dn_sgn _ rfl | exact dn_prim hE.dn rfl | refine dn_bnd ?_ (fun _ _ => ?_) | split)
 ·repeat' (first | exact Dn.refl _ | exact dn_want _ _ | exact dn_fail _ _ | exact dn_next _ | exact (got_all _ _).1 | exact dn_name rfl | exact hE.dn _ | exact dn_list hE.dn _ _ _ rfl | exact dn_listP hE.dn rfl | exact dn_fld hE.dn _ rfl | exact dn_pst hE.dn _ rfl | exact dn_up _ rfl | exact dn_base rfl | exact dn_typ rfl | exact dn_rank hE.dn _ _ rfl | exact dn_sgn _ rfl | exact dn_prim hE.dn rfl | refine dn_bnd ?_ (fun _ _ => ?_) | split)
 have hm1 : mu (nameP s).2 < mu s := by
  unfold nameP
  rw [if_pos ⟨hs.se, hk⟩]
  exact next_lt s hs.se (by omega)
 refine Res.bndP (sim_got h1 hc.k (hc.ne (by decide))) (fun _ _ => ?_) (fun _ _ => ?_) fun h2 => ?_
 ·repeat' (first | exact Dn.refl _ | exact dn_want _ _ | exact dn_fail _ _ | exact dn_next _ | exact (got_all _ _).1 | exact dn_name rfl | exact hE.dn _ | exact dn_list hE.dn _ _ _ rfl | exact dn_listP hE.dn rfl | exact dn_fld hE.dn _ rfl | exact dn_pst hE.dn _ rfl | exact dn_up _ rfl | exact dn_base rfl | exact dn_typ rfl | exact dn_rank hE.dn _ _ rfl | exact dn_sgn _ rfl | exact dn_prim hE.dn rfl | refine dn_bnd ?_ (fun _ _ => ?_) | split)
 ·repeat' (first | exact Dn.refl _ | exact dn_want _ _ | exact dn_fail _ _ | exact dn_next _ | exact (got_all _ _).1 | exact dn_name rfl | exact hE.dn _ | exact dn_list hE.dn _ _ _ rfl | exact dn_listP hE.dn rfl | exact dn_fld hE.dn _ rfl | exact dn_pst hE.dn _ rfl | exact dn_up _ rfl | exact dn_base rfl | exact dn_typ rfl | exact dn_rank hE.dn _ _ rfl | exact dn_sgn _ rfl | exact dn_prim hE.dn rfl | refine dn_bnd ?_ (fun _ _ => ?_) | split)
 have hm2 := (got_all (nameP s).2 [40]).1.le
 split
 ·refine Res.bndP (sim_listP hc hE _ _ m h2 (by omega)) (fun _ _ => ?_) (fun _ _ => ?_) fun h3 => .pure h3 _
  ·repeat' (first | exact Dn.refl _ | exact dn_want _ _ | exact dn_fail _ _ | exact dn_next _ | exact (got_all _ _).1 | exact dn_name rfl | exact hE.dn _ | exact dn_list hE.dn _ _ _ rfl | exact dn_listP hE.dn rfl | exact dn_fld hE.dn _ rfl | exact dn_pst hE.dn _ rfl | exact dn_up _ rfl | exact dn_base rfl | exact dn_typ rfl | exact dn_rank hE.dn _ _ rfl | exact dn_sgn _ rfl | exact dn_prim hE.dn rfl | refine dn_bnd ?_ (fun _ _ => ?_) | split)
  ·repeat' (first | exact Dn.refl _ | exact dn_want _ _ | exact dn_fail _ _ | exact dn_next _ | exact (got_all _ _).1 | exact dn_name rfl | exact hE.dn _ | exact dn_list hE.dn _ _ _ rfl | exact dn_listP hE.dn rfl | exact dn_fld hE.dn _ rfl | exact dn_pst hE.dn _ rfl | exact dn_up _ rfl | exact dn_base rfl | exact dn_typ rfl | exact dn_rank hE.dn _ _ rfl | exact dn_sgn _ rfl | exact dn_prim hE.dn rfl | refine dn_bnd ?_ (fun _ _ => ?_) | split)
 ·rw [h2.h]
  split
  ·refine Res.bndP (sim_got h2 hc.k (hc.ne (by decide))) (fun _ _ => ?_) (fun _ _ => ?_) fun h3 => ?_
   ·repeat' (first | exact Dn.refl _ | exact dn_want _ _ | exact dn_fail _ _ | exact dn_next _ | exact (got_all _ _).1 | exact dn_name rfl | exact hE.dn _ | exact dn_list hE.dn _ _ _ rfl | exact dn_listP hE.dn rfl | exact dn_fld hE.dn _ rfl | exact dn_pst hE.dn _ rfl | exact dn_up _ rfl | exact dn_base rfl | exact dn_typ rfl | exact dn_rank hE.dn _ _ rfl | exact dn_sgn _ rfl | exact dn_prim hE.dn rfl | refine dn_bnd ?_ (fun _ _ => ?_) | split)
   ·repeat' (first | exact Dn.refl _ | exact dn_want _ _ | exact dn_fail _ _ | exact dn_next _ | exact (got_all _ _).1 | exact dn_name rfl | exact hE.dn _ | exact dn_list hE.dn _ _ _ rfl | exact dn_listP hE.dn rfl | exact dn_fld hE.dn _ rfl | exact dn_pst hE.dn _ rfl | exact dn_up _ rfl | exact dn_base rfl | exact dn_typ rfl | exact dn_rank hE.dn _ _ rfl | exact dn_sgn _ rfl | exact dn_prim hE.dn rfl | refine dn_bnd ?_ (fun _ _ => ?_) | split)
   have hm3 := (got_all (gotP (nameP s).2 [40]).2 [123]).1.le
   split
   ·refine Res.bndP (sim_fld hc hE m h3 (by omega)) (fun _ _ => ?_) (fun _ _ => ?_) fun h4 => sim_want h4 hc.k _ _
    ·repeat' (first | exact Dn.refl _ | exact dn_want _ _ | exact dn_fail _ _ | exact dn_next _ | exact (got_all _ _).1 | exact dn_name rfl | exact hE.dn _ | exact dn_list hE.dn _ _ _ rfl | exact dn_listP hE.dn rfl | exact dn_fld hE.dn _ rfl | exact dn_pst hE.dn _ rfl | exact dn_up _ rfl | exact dn_base rfl | exact dn_typ rfl | exact dn_rank hE.dn _ _ rfl | exact dn_sgn _ rfl | exact dn_prim hE.dn rfl | refine dn_bnd ?_ (fun _ _ => ?_) | split)
    ·repeat' (first | exact Dn.refl _ | exact dn_want _ _ | exact dn_fail _ _ | exact dn_next _ | exact (got_all _ _).1 | exact dn_name rfl | exact hE.dn _ | exact dn_list hE.dn _ _ _ rfl | exact dn_listP hE.dn rfl | exact dn_fld hE.dn _ rfl | exact dn_pst hE.dn _ rfl | exact dn_up _ rfl | exact dn_base rfl | exact dn_typ rfl | exact dn_rank hE.dn _ _ rfl | exact dn_sgn _ rfl | exact dn_prim hE.dn rfl | refine dn_bnd ?_ (fun _ _ => ?_) | split)
   ·exact .pure h3 _
  ·exact .pure h2 _
def keyQ (E : EP) (k : List UInt8) (s : Ps) : ExT × Ps := bndP ((), wantP s [40]) fun _ s1 => bndP (E s1) fun x s2 => if k = [97, 112, 112, 101, 110, 100] then bndP ((), wantP s2 [44]) fun _ s3 => bndP (E s3) fun y s4 => (.mk 13 [] 0 noT [] [x, y], wantP s4 [41])
 else if 1 < kindS k then (.mk 8 [] 0 (.mk (kindS k) [] []) [] [x], wantP s2 [41]) else (.mk 12 [] 0 noT [] [x], wantP s2 [41])
theorem keyed_eq (E : EP) (s : Ps) : keyedP E s = if s.w.text = [116, 114, 117, 101] then (.mk 3 [] 1 noT [] [], nextP s) else if s.w.text = [102, 97, 108, 115, 101] then (.mk 3 [] 0 noT [] [], nextP s) else keyQ E s.w.text (nextP s) := rfl
theorem sim_keyed (hc : Cl c) (hE : SE c tl n E) (hs : Sim c tl s t) (hk : s.w.kind ≠ 0) (hm : mu s ≤ n) : Res c tl (keyedP E s) (keyedP E t) := by
 rw [keyed_eq, keyed_eq, (hs.at hc.k hk).2.1]
 have h1 := hs.next hc.k hk
 have hm1 := next_lt s hs.se hk
 split
 ·exact .pure h1 _
 split
 ·exact .pure h1 _
 unfold keyQ
 refine Res.bndP (sim_want h1 hc.k _ _) (fun _ _ => ?_) (fun _ _ => ?_) fun h2 => ?_
 ·repeat' (first | exact Dn.refl _ | exact dn_want _ _ | exact dn_fail _ _ | exact dn_next _ | exact (got_all _ _).1 | exact dn_name rfl | exact hE.dn _ | exact dn_list hE.dn _ _ _ rfl | exact dn_listP hE.dn rfl | exact dn_fld hE.dn _ rfl | exact dn_pst hE.dn _ rfl | exact dn_up _ rfl | exact dn_base rfl | exact dn_typ rfl | exact dn_rank hE.dn _ _ rfl | exact dn_sgn _ rfl | exact dn_prim hE.dn rfl | refine dn_bnd ?_ (fun _ _ => ?_) | split)
 ·repeat' (first | exact Dn.refl _ | exact dn_want _ _ | exact dn_fail _ _ | exact dn_next _ | exact (got_all _ _).1 | exact dn_name rfl | exact hE.dn _ | exact dn_list hE.dn _ _ _ rfl | exact dn_listP hE.dn rfl | exact dn_fld hE.dn _ rfl | exact dn_pst hE.dn _ rfl | exact dn_up _ rfl | exact dn_base rfl | exact dn_typ rfl | exact dn_rank hE.dn _ _ rfl | exact dn_sgn _ rfl | exact dn_prim hE.dn rfl | refine dn_bnd ?_ (fun _ _ => ?_) | split)
 have hm2 := (dn_want (nextP s) [40]).le
 refine Res.bndP (hE.go h2 (by dsimp only; omega)) (fun _ _ => ?_) (fun _ _ => ?_) fun h3 => ?_
 ·repeat' (first | exact Dn.refl _ | exact dn_want _ _ | exact dn_fail _ _ | exact dn_next _ | exact (got_all _ _).1 | exact dn_name rfl | exact hE.dn _ | exact dn_list hE.dn _ _ _ rfl | exact dn_listP hE.dn rfl | exact dn_fld hE.dn _ rfl | exact dn_pst hE.dn _ rfl | exact dn_up _ rfl | exact dn_base rfl | exact dn_typ rfl | exact dn_rank hE.dn _ _ rfl | exact dn_sgn _ rfl | exact dn_prim hE.dn rfl | refine dn_bnd ?_ (fun _ _ => ?_) | split)
 ·repeat' (first | exact Dn.refl _ | exact dn_want _ _ | exact dn_fail _ _ | exact dn_next _ | exact (got_all _ _).1 | exact dn_name rfl | exact hE.dn _ | exact dn_list hE.dn _ _ _ rfl | exact dn_listP hE.dn rfl | exact dn_fld hE.dn _ rfl | exact dn_pst hE.dn _ rfl | exact dn_up _ rfl | exact dn_base rfl | exact dn_typ rfl | exact dn_rank hE.dn _ _ rfl | exact dn_sgn _ rfl | exact dn_prim hE.dn rfl | refine dn_bnd ?_ (fun _ _ => ?_) | split)
 have hm3 := (hE.dn (wantP (nextP s) [40])).le
 split
 ·refine Res.bndP (sim_want h3 hc.k _ _) (fun _ _ => ?_) (fun _ _ => ?_) fun h4 => ?_
  ·repeat' (first | exact Dn.refl _ | exact dn_want _ _ | exact dn_fail _ _ | exact dn_next _ | exact (got_all _ _).1 | exact dn_name rfl | exact hE.dn _ | exact dn_list hE.dn _ _ _ rfl | exact dn_listP hE.dn rfl | exact dn_fld hE.dn _ rfl | exact dn_pst hE.dn _ rfl | exact dn_up _ rfl | exact dn_base rfl | exact dn_typ rfl | exact dn_rank hE.dn _ _ rfl | exact dn_sgn _ rfl | exact dn_prim hE.dn rfl | refine dn_bnd ?_ (fun _ _ => ?_) | split)
  ·repeat' (first | exact Dn.refl _ | exact dn_want _ _ | exact dn_fail _ _ | exact dn_next _ | exact (got_all _ _).1 | exact dn_name rfl | exact hE.dn _ | exact dn_list hE.dn _ _ _ rfl | exact dn_listP hE.dn rfl | exact dn_fld hE.dn _ rfl | exact dn_pst hE.dn _ rfl | exact dn_up _ rfl | exact dn_base rfl | exact dn_typ rfl | exact dn_rank hE.dn _ _ rfl | exact dn_sgn _ rfl | exact dn_prim hE.dn rfl | refine dn_bnd ?_ (fun _ _ => ?_) | split)
  have hm4 := (dn_want (E (wantP (nextP s) [40])).2 [44]).le
  refine Res.bndP (hE.go h4 (by dsimp only; omega)) (fun _ _ => ?_) (fun _ _ => ?_) fun h5 => sim_want h5 hc.k _ _
  ·repeat' (first | exact Dn.refl _ | exact dn_want _ _ | exact dn_fail _ _ | exact dn_next _ | exact (got_all _ _).1 | exact dn_name rfl | exact hE.dn _ | exact dn_list hE.dn _ _ _ rfl | exact dn_listP hE.dn rfl | exact dn_fld hE.dn _ rfl | exact dn_pst hE.dn _ rfl | exact dn_up _ rfl | exact dn_base rfl | exact dn_typ rfl | exact dn_rank hE.dn _ _ rfl | exact dn_sgn _ rfl | exact dn_prim hE.dn rfl | refine dn_bnd ?_ (fun _ _ => ?_) | split)
  ·repeat' (first | exact Dn.refl _ | exact dn_want _ _ | exact dn_fail _ _ | exact dn_next _ | exact (got_all _ _).1 | exact dn_name rfl | exact hE.dn _ | exact dn_list hE.dn _ _ _ rfl | exact dn_listP hE.dn rfl | exact dn_fld hE.dn _ rfl | exact dn_pst hE.dn _ rfl | exact dn_up _ rfl | exact dn_base rfl | exact dn_typ rfl | exact dn_rank hE.dn _ _ rfl | exact dn_sgn _ rfl | exact dn_prim hE.dn rfl | refine dn_bnd ?_ (fun _ _ => ?_) | split)
 split
 ·exact sim_want h3 hc.k _ _
 ·exact sim_want h3 hc.k _ _
def primQ (E : EP) (m : Nat) (s : Ps) : ExT × Ps := bndP (gotP s [40]) fun b s1 => if b = true then bndP (E s1) fun x s2 => (x, wantP s2 [41])
 else if s1.h = false ∧ isP s1 [91] = true then bndP (typP m s1) fun t s2 => bndP ((), wantP s2 [123]) fun _ s3 => bndP (listP E [125] true m s3) fun l s4 => (.mk 15 [] 0 t [] l, s4) else (zeroE, failP s1 51)
theorem prim_eq (E : EP) (m : Nat) (s : Ps) : primP true E m s = if ¬ s.e = 0 then (zeroE, s) else if s.w.kind = 2 then (.mk 2 [] (s.w.int : Int) noT [] [], nextP s) else if s.w.kind = 1 then namedP true E m s else if keyB s = true then keyedP E s else primQ E m s := by
 conv => lhs; unfold primP
 split
 ·rfl
 split
 ·rfl
 split
 ·rfl
 split
 ·rfl
 unfold primQ
 rcases hg : gotP s [40] with ⟨_ | _, s1⟩
 ·obtain rfl := got_no hg
  rfl
 ·rfl
theorem sim_prim (hc : Cl c) (hE : SE c tl n E) (m : Nat) (hs : Sim c tl s t) (hm : mu s ≤ n) : Res c tl (primP true E m s) (primP true E m t) := by
 rw [prim_eq, prim_eq, if_neg (show ¬ ¬ s.e = 0 by rw [hs.se]; simp), if_neg (show ¬ ¬ t.e = 0 by rw [hs.te]; simp)]
 by_cases hk : s.w.kind = 0
 ·rw [if_neg (show ¬ s.w.kind = 2 by omega), if_neg (show ¬ s.w.kind = 1 by omega), if_neg (show ¬ keyB s = true by unfold keyB; simp only [is_end hk, hk]; simp)]
  refine Res.dead ?_
  unfold primQ gotP
  rw [is_end hk]
  show ¬ (if s.h = false ∧ isP s [91] = true then _ else (zeroE, failP s 51)).2.e = 0
  rw [is_end hk, if_neg (by simp)]
  show ¬ (failP s 51).e = 0
  rw [fail_at hs.se]
  decide
 obtain ⟨h1, h2, h3⟩ := hs.at hc.k hk
 have hkey : keyB t = keyB s := by
  unfold keyB
  rw [hs.is hc.k hk, hs.is hc.k hk, hs.is hc.k hk, hs.is hc.k hk, h1, h2]
 rw [h1, h3, hkey]
 split
 ·exact .pure (hs.next hc.k hk) _
 split
 ·rename_i h; exact sim_named hc hE m hs h hm
 split
 ·exact sim_keyed hc hE hs hk hm
 unfold primQ
 refine Res.bndP (sim_got hs hc.k (hc.ne (by decide))) (fun _ _ => ?_) (fun _ _ => ?_) fun h4 => ?_
 ·repeat' (first | exact Dn.refl _ | exact dn_want _ _ | exact dn_fail _ _ | exact dn_next _ | exact (got_all _ _).1 | exact dn_name rfl | exact hE.dn _ | exact dn_list hE.dn _ _ _ rfl | exact dn_listP hE.dn rfl | exact dn_fld hE.dn _ rfl | exact dn_pst hE.dn _ rfl | exact dn_up _ rfl | exact dn_base rfl | exact dn_typ rfl | exact dn_rank hE.dn _ _ rfl | exact dn_sgn _ rfl | exact dn_prim hE.dn rfl | refine dn_bnd ?_ (fun _ _ => ?_) | split)
 ·repeat' (first | exact Dn.refl _ | exact dn_want _ _ | exact dn_fail _ _ | exact dn_next _ | exact (got_all _ _).1 | exact dn_name rfl | exact hE.dn _ | exact dn_list hE.dn _ _ _ rfl | exact dn_listP hE.dn rfl | exact dn_fld hE.dn _ rfl | exact dn_pst hE.dn _ rfl | exact dn_up _ rfl | exact dn_base rfl | exact dn_typ rfl | exact dn_rank hE.dn _ _ rfl | exact dn_sgn _ rfl | exact dn_prim hE.dn rfl | refine dn_bnd ?_ (fun _ _ => ?_) | split)
 split
 ·rename_i hb
  have hm1 := got_mu hb
  refine Res.bndP (hE.go h4 (by omega)) (fun _ _ => ?_) (fun _ _ => ?_) fun h5 => sim_want h5 hc.k _ _
  ·repeat' (first | exact Dn.refl _ | exact dn_want _ _ | exact dn_fail _ _ | exact dn_next _ | exact (got_all _ _).1 | exact dn_name rfl | exact hE.dn _ | exact dn_list hE.dn _ _ _ rfl | exact dn_listP hE.dn rfl | exact dn_fld hE.dn _ rfl | exact dn_pst hE.dn _ rfl | exact dn_up _ rfl | exact dn_base rfl | exact dn_typ rfl | exact dn_rank hE.dn _ _ rfl | exact dn_sgn _ rfl | exact dn_prim hE.dn rfl | refine dn_bnd ?_ (fun _ _ => ?_) | split)
  ·repeat' (first | exact Dn.refl _ | exact dn_want _ _ | exact dn_fail _ _ | exact dn_next _ | exact (got_all _ _).1 | exact dn_name rfl | exact hE.dn _ | exact dn_list hE.dn _ _ _ rfl | exact dn_listP hE.dn rfl | exact dn_fld hE.dn _ rfl | exact dn_pst hE.dn _ rfl | exact dn_up _ rfl | exact dn_base rfl | exact dn_typ rfl | exact dn_rank hE.dn _ _ rfl | exact dn_sgn _ rfl | exact dn_prim hE.dn rfl | refine dn_bnd ?_ (fun _ _ => ?_) | split)
 ·have hm1 := (got_all s [40]).1.le
  rw [h4.h, h4.isNe hc.k (hc.ne (by decide))]
  split
  ·refine Res.bndP (sim_typ hc m h4) (fun _ _ => ?_) (fun _ _ => ?_) fun h5 => ?_
   ·repeat' (first | exact Dn.refl _ | exact dn_want _ _ | exact dn_fail _ _ | exact dn_next _ | exact (got_all _ _).1 | exact dn_name rfl | exact hE.dn _ | exact dn_list hE.dn _ _ _ rfl | exact dn_listP hE.dn rfl | exact dn_fld hE.dn _ rfl | exact dn_pst hE.dn _ rfl | exact dn_up _ rfl | exact dn_base rfl | exact dn_typ rfl | exact dn_rank hE.dn _ _ rfl | exact dn_sgn _ rfl | exact dn_prim hE.dn rfl | refine dn_bnd ?_ (fun _ _ => ?_) | split)
   ·repeat' (first | exact Dn.refl _ | exact dn_want _ _ | exact dn_fail _ _ | exact dn_next _ | exact (got_all _ _).1 | exact dn_name rfl | exact hE.dn _ | exact dn_list hE.dn _ _ _ rfl | exact dn_listP hE.dn rfl | exact dn_fld hE.dn _ rfl | exact dn_pst hE.dn _ rfl | exact dn_up _ rfl | exact dn_base rfl | exact dn_typ rfl | exact dn_rank hE.dn _ _ rfl | exact dn_sgn _ rfl | exact dn_prim hE.dn rfl | refine dn_bnd ?_ (fun _ _ => ?_) | split)
   have hm2 : mu (typP m (gotP s [40]).2).2 ≤ mu (gotP s [40]).2 := (dn_typ rfl).le
   refine Res.bndP (sim_want h5 hc.k _ _) (fun _ _ => ?_) (fun _ _ => ?_) fun h6 => ?_
   ·repeat' (first | exact Dn.refl _ | exact dn_want _ _ | exact dn_fail _ _ | exact dn_next _ | exact (got_all _ _).1 | exact dn_name rfl | exact hE.dn _ | exact dn_list hE.dn _ _ _ rfl | exact dn_listP hE.dn rfl | exact dn_fld hE.dn _ rfl | exact dn_pst hE.dn _ rfl | exact dn_up _ rfl | exact dn_base rfl | exact dn_typ rfl | exact dn_rank hE.dn _ _ rfl | exact dn_sgn _ rfl | exact dn_prim hE.dn rfl | refine dn_bnd ?_ (fun _ _ => ?_) | split)
   ·repeat' (first | exact Dn.refl _ | exact dn_want _ _ | exact dn_fail _ _ | exact dn_next _ | exact (got_all _ _).1 | exact dn_name rfl | exact hE.dn _ | exact dn_list hE.dn _ _ _ rfl | exact dn_listP hE.dn rfl | exact dn_fld hE.dn _ rfl | exact dn_pst hE.dn _ rfl | exact dn_up _ rfl | exact dn_base rfl | exact dn_typ rfl | exact dn_rank hE.dn _ _ rfl | exact dn_sgn _ rfl | exact dn_prim hE.dn rfl | refine dn_bnd ?_ (fun _ _ => ?_) | split)
   have hm3 := want_lt h6.se
   refine Res.bndP (sim_listP hc hE _ _ m h6 (by dsimp only at hm3 ⊢; omega)) (fun _ _ => ?_) (fun _ _ => ?_) fun h7 => .pure h7 _
   ·repeat' (first | exact Dn.refl _ | exact dn_want _ _ | exact dn_fail _ _ | exact dn_next _ | exact (got_all _ _).1 | exact dn_name rfl | exact hE.dn _ | exact dn_list hE.dn _ _ _ rfl | exact dn_listP hE.dn rfl | exact dn_fld hE.dn _ rfl | exact dn_pst hE.dn _ rfl | exact dn_up _ rfl | exact dn_base rfl | exact dn_typ rfl | exact dn_rank hE.dn _ _ rfl | exact dn_sgn _ rfl | exact dn_prim hE.dn rfl | refine dn_bnd ?_ (fun _ _ => ?_) | split)
   ·repeat' (first | exact Dn.refl _ | exact dn_want _ _ | exact dn_fail _ _ | exact dn_next _ | exact (got_all _ _).1 | exact dn_name rfl | exact hE.dn _ | exact dn_list hE.dn _ _ _ rfl | exact dn_listP hE.dn rfl | exact dn_fld hE.dn _ rfl | exact dn_pst hE.dn _ rfl | exact dn_up _ rfl | exact dn_base rfl | exact dn_typ rfl | exact dn_rank hE.dn _ _ rfl | exact dn_sgn _ rfl | exact dn_prim hE.dn rfl | refine dn_bnd ?_ (fun _ _ => ?_) | split)
  ·exact .dead (by rw [fail_at h4.se]; decide)
end
section
variable {c : Wd} {tl : List Wd} {s t : Ps} {n : Nat} {E : EP}
theorem sgn_eq (m : Nat) (s : Ps) : sgnL (m + 1) s = if isP s [33] = true then bndP (sgnL m (nextP s)) fun l s1 => (4 :: l, s1) else if isP s [45] = true then bndP (sgnL m (nextP s)) fun l s1 => (5 :: l, s1) else ([], s) := rfl
theorem sim_sgn (hc : Cl c) : ∀ (m : Nat) {s t : Ps}, Sim c tl s t → Res c tl (sgnL m s) (sgnL m t)
 | 0, s, t, hs => .pure hs _
 | m + 1, s, t, hs => by
  rw [sgn_eq, sgn_eq, hs.isNe hc.k (hc.ne (T := [33]) (by decide)), hs.isNe hc.k (hc.ne (T := [45]) (by decide))]
  split
  ·rename_i h
   refine Res.bndP (sim_sgn hc m (hs.next hc.k (is_kind h))) (fun _ _ => ?_) (fun _ _ => ?_) fun h1 => .pure h1 _
   ·repeat' (first | exact Dn.refl _ | exact dn_want _ _ | exact dn_fail _ _ | exact dn_next _ | exact (got_all _ _).1 | exact dn_name rfl | exact hE.dn _ | exact dn_list hE.dn _ _ _ rfl | exact dn_listP hE.dn rfl | exact dn_fld hE.dn _ rfl | exact dn_pst hE.dn _ rfl | exact dn_up _ rfl | exact dn_base rfl | exact dn_typ rfl | exact dn_rank hE.dn _ _ rfl | exact dn_sgn _ rfl | exact dn_prim hE.dn rfl | refine dn_bnd ?_ (fun _ _ => ?_) | split)
   ·repeat' (first | exact Dn.refl _ | exact dn_want _ _ | exact dn_fail _ _ | exact dn_next _ | exact (got_all _ _).1 | exact dn_name rfl | exact hE.dn _ | exact dn_list hE.dn _ _ _ rfl | exact dn_listP hE.dn rfl | exact dn_fld hE.dn _ rfl | exact dn_pst hE.dn _ rfl | exact dn_up _ rfl | exact dn_base rfl | exact dn_typ rfl | exact dn_rank hE.dn _ _ rfl | exact dn_sgn _ rfl | exact dn_prim hE.dn rfl | refine dn_bnd ?_ (fun _ _ => ?_) | split)
  split
  ·rename_i h
   refine Res.bndP (sim_sgn hc m (hs.next hc.k (is_kind h))) (fun _ _ => ?_) (fun _ _ => ?_) fun h1 => .pure h1 _
   ·repeat' (first | exact Dn.refl _ | exact dn_want _ _ | exact dn_fail _ _ | exact dn_next _ | exact (got_all _ _).1 | exact dn_name rfl | exact hE.dn _ | exact dn_list hE.dn _ _ _ rfl | exact dn_listP hE.dn rfl | exact dn_fld hE.dn _ rfl | exact dn_pst hE.dn _ rfl | exact dn_up _ rfl | exact dn_base rfl | exact dn_typ rfl | exact dn_rank hE.dn _ _ rfl | exact dn_sgn _ rfl | exact dn_prim hE.dn rfl | refine dn_bnd ?_ (fun _ _ => ?_) | split)
   ·repeat' (first | exact Dn.refl _ | exact dn_want _ _ | exact dn_fail _ _ | exact dn_next _ | exact (got_all _ _).1 | exact dn_name rfl | exact hE.dn _ | exact dn_list hE.dn _ _ _ rfl | exact dn_listP hE.dn rfl | exact dn_fld hE.dn _ rfl | exact dn_pst hE.dn _ rfl | exact dn_up _ rfl | exact dn_base rfl | exact dn_typ rfl | exact dn_rank hE.dn _ _ rfl | exact dn_sgn _ rfl | exact dn_prim hE.dn rfl | refine dn_bnd ?_ (fun _ _ => ?_) | split)
  ·exact .pure hs _
theorem pst_eq (E : EP) (m : Nat) (x : ExT) (s : Ps) : pstL E (m + 1) x s = if ¬ s.e = 0 then (x, s) else bndP (gotP s [46]) fun b s1 => if b = true then bndP (nameP s1) fun t s2 => pstL E m (.mk 9 t 0 noT [] [x]) s2
 else bndP (gotP s1 [91]) fun b s2 => if b = true then bndP (E s2) fun y s3 => bndP (gotP s3 [58]) fun b s4 => if b = true then bndP (E s4) fun z s5 => bndP ((), wantP s5 [93]) fun _ s6 => pstL E m (.mk 11 [] 0 noT [] [x, y, z]) s6
  else bndP ((), wantP s4 [93]) fun _ s5 => pstL E m (.mk 10 [] 0 noT [] [x, y]) s5 else (x, s2) := by
 conv => lhs; unfold pstL
 split
 ·rfl
 unfold Proofs.YtnnnhlkmdnacaaaGreatDoor.bndP
 rcases hg : gotP s [46] with ⟨_ | _, s1⟩
 ·obtain rfl := got_no hg
  simp only [Bool.false_eq_true, if_false]
  rcases hg2 : gotP s1 [91] with ⟨_ | _, s2⟩
  ·obtain rfl := got_no hg2
   rfl
  ·dsimp only
   rcases E s2 with ⟨y, s3⟩
   dsimp only
   rcases gotP s3 [58] with ⟨_ | _, s4⟩ <;> rfl
 ·rfl
theorem sim_pst (hc : Cl c) (hE : SE c tl n E) : ∀ (m : Nat) (x : ExT) {s t : Ps}, Sim c tl s t → mu s ≤ n → Res c tl (pstL E m x s) (pstL E m x t)
 | 0, x, s, t, hs, _ => .pure hs _
 | m + 1, x, s, t, hs, hm => by
  rw [pst_eq, pst_eq, if_neg (show ¬ ¬ s.e = 0 by rw [hs.se]; simp), if_neg (show ¬ ¬ t.e = 0 by rw [hs.te]; simp)]
  refine Res.bndP (sim_got hs hc.k (hc.ne (by decide))) (fun _ _ => ?_) (fun _ _ => ?_) fun h1 => ?_
  ·repeat' (first | exact Dn.refl _ | exact dn_want _ _ | exact dn_fail _ _ | exact dn_next _ | exact (got_all _ _).1 | exact dn_name rfl | exact hE.dn _ | exact dn_list hE.dn _ _ _ rfl | exact dn_listP hE.dn rfl | exact dn_fld hE.dn _ rfl | exact dn_pst hE.dn _ rfl | exact dn_up _ rfl | exact dn_base rfl | exact dn_typ rfl | exact dn_rank hE.dn _ _ rfl | exact dn_sgn _ rfl | exact dn_prim hE.dn rfl | refine dn_bnd ?_ (fun _ _ => ?_) | split)
  ·repeat' (first | exact Dn.refl _ | exact dn_want _ _ | exact dn_fail _ _ | exact dn_next _ | exact (got_all _ _).1 | exact dn_name rfl | exact hE.dn _ | exact dn_list hE.dn _ _ _ rfl | exact dn_listP hE.dn rfl | exact dn_fld hE.dn _ rfl | exact dn_pst hE.dn _ rfl | exact dn_up _ rfl | exact dn_base rfl | exact dn_typ rfl | exact dn_rank hE.dn _ _ rfl | exact dn_sgn _ rfl | exact dn_prim hE.dn rfl | refine dn_bnd ?_ (fun _ _ => ?_) | split)
  have hm1 := (got_all s [46]).1.le
  split
  ·refine Res.bndP (sim_name h1 hc.k) (fun _ _ => ?_) (fun _ _ => ?_) fun h2 => ?_
   ·repeat' (first | exact Dn.refl _ | exact dn_want _ _ | exact dn_fail _ _ | exact dn_next _ | exact (got_all _ _).1 | exact dn_name rfl | exact hE.dn _ | exact dn_list hE.dn _ _ _ rfl | exact dn_listP hE.dn rfl | exact dn_fld hE.dn _ rfl | exact dn_pst hE.dn _ rfl | exact dn_up _ rfl | exact dn_base rfl | exact dn_typ rfl | exact dn_rank hE.dn _ _ rfl | exact dn_sgn _ rfl | exact dn_prim hE.dn rfl | refine dn_bnd ?_ (fun _ _ => ?_) | split)
   ·repeat' (first | exact Dn.refl _ | exact dn_want _ _ | exact dn_fail _ _ | exact dn_next _ | exact (got_all _ _).1 | exact dn_name rfl | exact hE.dn _ | exact dn_list hE.dn _ _ _ rfl | exact dn_listP hE.dn rfl | exact dn_fld hE.dn _ rfl | exact dn_pst hE.dn _ rfl | exact dn_up _ rfl | exact dn_base rfl | exact dn_typ rfl | exact dn_rank hE.dn _ _ rfl | exact dn_sgn _ rfl | exact dn_prim hE.dn rfl | refine dn_bnd ?_ (fun _ _ => ?_) | split)
   have hm2 : mu (nameP (gotP s [46]).2).2 ≤ mu (gotP s [46]).2 := (dn_name rfl).le
   exact sim_pst hc hE m _ h2 (by omega)
  refine Res.bndP (sim_got h1 hc.k (hc.ne (by decide))) (fun _ _ => ?_) (fun _ _ => ?_) fun h2 => ?_
  ·repeat' (first | exact Dn.refl _ | exact dn_want _ _ | exact dn_fail _ _ | exact dn_next _ | exact (got_all _ _).1 | exact dn_name rfl | exact hE.dn _ | exact dn_list hE.dn _ _ _ rfl | exact dn_listP hE.dn rfl | exact dn_fld hE.dn _ rfl | exact dn_pst hE.dn _ rfl | exact dn_up _ rfl | exact dn_base rfl | exact dn_typ rfl | exact dn_rank hE.dn _ _ rfl | exact dn_sgn _ rfl | exact dn_prim hE.dn rfl | refine dn_bnd ?_ (fun _ _ => ?_) | split)
  ·repeat' (first | exact Dn.refl _ | exact dn_want _ _ | exact dn_fail _ _ | exact dn_next _ | exact (got_all _ _).1 | exact dn_name rfl | exact hE.dn _ | exact dn_list hE.dn _ _ _ rfl | exact dn_listP hE.dn rfl | exact dn_fld hE.dn _ rfl | exact dn_pst hE.dn _ rfl | exact dn_up _ rfl | exact dn_base rfl | exact dn_typ rfl | exact dn_rank hE.dn _ _ rfl | exact dn_sgn _ rfl | exact dn_prim hE.dn rfl | refine dn_bnd ?_ (fun _ _ => ?_) | split)
  split
  ·rename_i hb
   have hm2 := got_mu hb
   refine Res.bndP (hE.go h2 (by omega)) (fun _ _ => ?_) (fun _ _ => ?_) fun h3 => ?_
   ·repeat' (first | exact Dn.refl _ | exact dn_want _ _ | exact dn_fail _ _ | exact dn_next _ | exact (got_all _ _).1 | exact dn_name rfl | exact hE.dn _ | exact dn_list hE.dn _ _ _ rfl | exact dn_listP hE.dn rfl | exact dn_fld hE.dn _ rfl | exact dn_pst hE.dn _ rfl | exact dn_up _ rfl | exact dn_base rfl | exact dn_typ rfl | exact dn_rank hE.dn _ _ rfl | exact dn_sgn _ rfl | exact dn_prim hE.dn rfl | refine dn_bnd ?_ (fun _ _ => ?_) | split)
   ·repeat' (first | exact Dn.refl _ | exact dn_want _ _ | exact dn_fail _ _ | exact dn_next _ | exact (got_all _ _).1 | exact dn_name rfl | exact hE.dn _ | exact dn_list hE.dn _ _ _ rfl | exact dn_listP hE.dn rfl | exact dn_fld hE.dn _ rfl | exact dn_pst hE.dn _ rfl | exact dn_up _ rfl | exact dn_base rfl | exact dn_typ rfl | exact dn_rank hE.dn _ _ rfl | exact dn_sgn _ rfl | exact dn_prim hE.dn rfl | refine dn_bnd ?_ (fun _ _ => ?_) | split)
   have hm3 := (hE.dn (gotP (gotP s [46]).2 [91]).2).le
   refine Res.bndP (sim_got h3 hc.k (hc.ne (by decide))) (fun _ _ => ?_) (fun _ _ => ?_) fun h4 => ?_
   ·repeat' (first | exact Dn.refl _ | exact dn_want _ _ | exact dn_fail _ _ | exact dn_next _ | exact (got_all _ _).1 | exact dn_name rfl | exact hE.dn _ | exact dn_list hE.dn _ _ _ rfl | exact dn_listP hE.dn rfl | exact dn_fld hE.dn _ rfl | exact dn_pst hE.dn _ rfl | exact dn_up _ rfl | exact dn_base rfl | exact dn_typ rfl | exact dn_rank hE.dn _ _ rfl | exact dn_sgn _ rfl | exact dn_prim hE.dn rfl | refine dn_bnd ?_ (fun _ _ => ?_) | split)
   ·repeat' (first | exact Dn.refl _ | exact dn_want _ _ | exact dn_fail _ _ | exact dn_next _ | exact (got_all _ _).1 | exact dn_name rfl | exact hE.dn _ | exact dn_list hE.dn _ _ _ rfl | exact dn_listP hE.dn rfl | exact dn_fld hE.dn _ rfl | exact dn_pst hE.dn _ rfl | exact dn_up _ rfl | exact dn_base rfl | exact dn_typ rfl | exact dn_rank hE.dn _ _ rfl | exact dn_sgn _ rfl | exact dn_prim hE.dn rfl | refine dn_bnd ?_ (fun _ _ => ?_) | split)
   have hm4 := (got_all (E (gotP (gotP s [46]).2 [91]).2).2 [58]).1.le
   split
   ·refine Res.bndP (hE.go h4 (by omega)) (fun _ _ => ?_) (fun _ _ => ?_) fun h5 => ?_
    ·repeat' (first | exact Dn.refl _ | exact dn_want _ _ | exact dn_fail _ _ | exact dn_next _ | exact (got_all _ _).1 | exact dn_name rfl | exact hE.dn _ | exact dn_list hE.dn _ _ _ rfl | exact dn_listP hE.dn rfl | exact dn_fld hE.dn _ rfl | exact dn_pst hE.dn _ rfl | exact dn_up _ rfl | exact dn_base rfl | exact dn_typ rfl | exact dn_rank hE.dn _ _ rfl | exact dn_sgn _ rfl | exact dn_prim hE.dn rfl | refine dn_bnd ?_ (fun _ _ => ?_) | split)
    ·repeat' (first | exact Dn.refl _ | exact dn_want _ _ | exact dn_fail _ _ | exact dn_next _ | exact (got_all _ _).1 | exact dn_name rfl | exact hE.dn _ | exact dn_list hE.dn _ _ _ rfl | exact dn_listP hE.dn rfl | exact dn_fld hE.dn _ rfl | exact dn_pst hE.dn _ rfl | exact dn_up _ rfl | exact dn_base rfl | exact dn_typ rfl | exact dn_rank hE.dn _ _ rfl | exact dn_sgn _ rfl | exact dn_prim hE.dn rfl | refine dn_bnd ?_ (fun _ _ => ?_) | split)
    have hm5 := (hE.dn (gotP (E (gotP (gotP s [46]).2 [91]).2).2 [58]).2).le
    refine Res.bndP (sim_want h5 hc.k _ _) (fun _ _ => ?_) (fun _ _ => ?_) fun h6 => ?_
    ·repeat' (first | exact Dn.refl _ | exact dn_want _ _ | exact dn_fail _ _ | exact dn_next _ | exact (got_all _ _).1 | exact dn_name rfl | exact hE.dn _ | exact dn_list hE.dn _ _ _ rfl | exact dn_listP hE.dn rfl | exact dn_fld hE.dn _ rfl | exact dn_pst hE.dn _ rfl | exact dn_up _ rfl | exact dn_base rfl | exact dn_typ rfl | exact dn_rank hE.dn _ _ rfl | exact dn_sgn _ rfl | exact dn_prim hE.dn rfl | refine dn_bnd ?_ (fun _ _ => ?_) | split)
    ·repeat' (first | exact Dn.refl _ | exact dn_want _ _ | exact dn_fail _ _ | exact dn_next _ | exact (got_all _ _).1 | exact dn_name rfl | exact hE.dn _ | exact dn_list hE.dn _ _ _ rfl | exact dn_listP hE.dn rfl | exact dn_fld hE.dn _ rfl | exact dn_pst hE.dn _ rfl | exact dn_up _ rfl | exact dn_base rfl | exact dn_typ rfl | exact dn_rank hE.dn _ _ rfl | exact dn_sgn _ rfl | exact dn_prim hE.dn rfl | refine dn_bnd ?_ (fun _ _ => ?_) | split)
    have hm6 := (dn_want (E (gotP (E (gotP (gotP s [46]).2 [91]).2).2 [58]).2).2 [93]).le
    exact sim_pst hc hE m _ h6 (by dsimp only; omega)
   ·refine Res.bndP (sim_want h4 hc.k _ _) (fun _ _ => ?_) (fun _ _ => ?_) fun h6 => ?_
    ·repeat' (first | exact Dn.refl _ | exact dn_want _ _ | exact dn_fail _ _ | exact dn_next _ | exact (got_all _ _).1 | exact dn_name rfl | exact hE.dn _ | exact dn_list hE.dn _ _ _ rfl | exact dn_listP hE.dn rfl | exact dn_fld hE.dn _ rfl | exact dn_pst hE.dn _ rfl | exact dn_up _ rfl | exact dn_base rfl | exact dn_typ rfl | exact dn_rank hE.dn _ _ rfl | exact dn_sgn _ rfl | exact dn_prim hE.dn rfl | refine dn_bnd ?_ (fun _ _ => ?_) | split)
    ·repeat' (first | exact Dn.refl _ | exact dn_want _ _ | exact dn_fail _ _ | exact dn_next _ | exact (got_all _ _).1 | exact dn_name rfl | exact hE.dn _ | exact dn_list hE.dn _ _ _ rfl | exact dn_listP hE.dn rfl | exact dn_fld hE.dn _ rfl | exact dn_pst hE.dn _ rfl | exact dn_up _ rfl | exact dn_base rfl | exact dn_typ rfl | exact dn_rank hE.dn _ _ rfl | exact dn_sgn _ rfl | exact dn_prim hE.dn rfl | refine dn_bnd ?_ (fun _ _ => ?_) | split)
    have hm6 := (dn_want (gotP (E (gotP (gotP s [46]).2 [91]).2).2 [58]).2 [93]).le
    exact sim_pst hc hE m _ h6 (by dsimp only; omega)
  ·exact .pure h2 _
theorem prim_end (m : Nat) (he : s.e = 0) (hk : s.w.kind = 0) : ¬ (primP true E m s).2.e = 0 := by
 rw [prim_eq, if_neg (show ¬ ¬ s.e = 0 by rw [he]; simp), if_neg (show ¬ s.w.kind = 2 by omega), if_neg (show ¬ s.w.kind = 1 by omega), if_neg (show ¬ keyB s = true by unfold keyB; simp only [is_end hk, hk]; simp)]
 unfold primQ gotP
 rw [is_end hk]
 show ¬ (if s.h = false ∧ isP s [91] = true then _ else (zeroE, failP s 51)).2.e = 0
 rw [is_end hk, if_neg (by simp)]
 show ¬ (failP s 51).e = 0
 rw [fail_at he]
 decide
theorem sgn_end : ∀ (m : Nat) {s : Ps}, s.w.kind = 0 → sgnL m s = ([], s)
 | 0, _, _ => rfl
 | m + 1, s, hk => by
  rw [sgn_eq, is_end hk, is_end hk]
  rfl
theorem oper_eq (E : EP) (m : Nat) (s : Ps) : operP true E m s = bndP (sgnL m s) fun l s1 => bndP (primP true E m s1) fun x s2 => bndP (pstL E m x s2) fun y s3 => (signT l y, s3) := rfl
theorem se_oper (hc : Cl c) (hE : SE c tl n E) (m : Nat) : SE c tl (n + 1) (operP true E m) where
 dn := .of fun h => dn_oper hE.dn h
 go := fun {s t} hs hm => by
  rw [oper_eq, oper_eq]
  refine Res.bndP (sim_sgn hc m hs) (fun _ _ => ?_) (fun _ _ => ?_) fun h1 => ?_
  ·repeat' (first | exact Dn.refl _ | exact dn_want _ _ | exact dn_fail _ _ | exact dn_next _ | exact (got_all _ _).1 | exact dn_name rfl | exact hE.dn _ | exact dn_list hE.dn _ _ _ rfl | exact dn_listP hE.dn rfl | exact dn_fld hE.dn _ rfl | exact dn_pst hE.dn _ rfl | exact dn_up _ rfl | exact dn_base rfl | exact dn_typ rfl | exact dn_rank hE.dn _ _ rfl | exact dn_sgn _ rfl | exact dn_prim hE.dn rfl | refine dn_bnd ?_ (fun _ _ => ?_) | split)
  ·repeat' (first | exact Dn.refl _ | exact dn_want _ _ | exact dn_fail _ _ | exact dn_next _ | exact (got_all _ _).1 | exact dn_name rfl | exact hE.dn _ | exact dn_list hE.dn _ _ _ rfl | exact dn_listP hE.dn rfl | exact dn_fld hE.dn _ rfl | exact dn_pst hE.dn _ rfl | exact dn_up _ rfl | exact dn_base rfl | exact dn_typ rfl | exact dn_rank hE.dn _ _ rfl | exact dn_sgn _ rfl | exact dn_prim hE.dn rfl | refine dn_bnd ?_ (fun _ _ => ?_) | split)
  have hm1 : mu (sgnL m s).2 ≤ mu s := (dn_sgn m rfl).le
  refine Res.bndP (sim_prim hc hE m h1 (by omega)) (fun _ _ => ?_) (fun _ _ => ?_) fun h2 => ?_
  ·repeat' (first | exact Dn.refl _ | exact dn_want _ _ | exact dn_fail _ _ | exact dn_next _ | exact (got_all _ _).1 | exact dn_name rfl | exact hE.dn _ | exact dn_list hE.dn _ _ _ rfl | exact dn_listP hE.dn rfl | exact dn_fld hE.dn _ rfl | exact dn_pst hE.dn _ rfl | exact dn_up _ rfl | exact dn_base rfl | exact dn_typ rfl | exact dn_rank hE.dn _ _ rfl | exact dn_sgn _ rfl | exact dn_prim hE.dn rfl | refine dn_bnd ?_ (fun _ _ => ?_) | split)
  ·repeat' (first | exact Dn.refl _ | exact dn_want _ _ | exact dn_fail _ _ | exact dn_next _ | exact (got_all _ _).1 | exact dn_name rfl | exact hE.dn _ | exact dn_list hE.dn _ _ _ rfl | exact dn_listP hE.dn rfl | exact dn_fld hE.dn _ rfl | exact dn_pst hE.dn _ rfl | exact dn_up _ rfl | exact dn_base rfl | exact dn_typ rfl | exact dn_rank hE.dn _ _ rfl | exact dn_sgn _ rfl | exact dn_prim hE.dn rfl | refine dn_bnd ?_ (fun _ _ => ?_) | split)
  have hm2 : mu (primP true E m (sgnL m s).2).2 ≤ mu (sgnL m s).2 := (dn_prim hE.dn rfl).le
  refine Res.bndP (sim_pst hc hE m _ h2 (by omega)) (fun _ _ => ?_) (fun _ _ => ?_) fun h3 => .pure h3 _
  ·repeat' (first | exact Dn.refl _ | exact dn_want _ _ | exact dn_fail _ _ | exact dn_next _ | exact (got_all _ _).1 | exact dn_name rfl | exact hE.dn _ | exact dn_list hE.dn _ _ _ rfl | exact dn_listP hE.dn rfl | exact dn_fld hE.dn _ rfl | exact dn_pst hE.dn _ rfl | exact dn_up _ rfl | exact dn_base rfl | exact dn_typ rfl | exact dn_rank hE.dn _ _ rfl | exact dn_sgn _ rfl | exact dn_prim hE.dn rfl | refine dn_bnd ?_ (fun _ _ => ?_) | split)
  ·repeat' (first | exact Dn.refl _ | exact dn_want _ _ | exact dn_fail _ _ | exact dn_next _ | exact (got_all _ _).1 | exact dn_name rfl | exact hE.dn _ | exact dn_list hE.dn _ _ _ rfl | exact dn_listP hE.dn rfl | exact dn_fld hE.dn _ rfl | exact dn_pst hE.dn _ rfl | exact dn_up _ rfl | exact dn_base rfl | exact dn_typ rfl | exact dn_rank hE.dn _ _ rfl | exact dn_sgn _ rfl | exact dn_prim hE.dn rfl | refine dn_bnd ?_ (fun _ _ => ?_) | split)
 no := fun s he hk _ => by
  rw [oper_eq, sgn_end m hk]
  intro h0
  have h1 : Dn (primP true E m s).2 (pstL E m (primP true E m s).1 (primP true E m s).2).2 := dn_pst hE.dn _ rfl
  exact prim_end m he hk (h1.zero h0)
theorem rank_eq (O : EP) (r : Int) (m : Nat) (x : ExT) (s : Ps) : rankL O r (m + 1) x s = if s.e = 0 ∧ s.w.kind = 3 ∧ rankS s.w.text = r then bndP (O (nextP s)) fun y s1 => rankL O r m (.mk 6 s.w.text 0 noT [] [x, y]) s1 else (x, s) := rfl
theorem sim_rank (hc : Cl c) {O : EP} (hE : SE c tl n O) (r : Int) (hr : 1 ≤ r) : ∀ (m : Nat) (x : ExT) {s t : Ps}, Sim c tl s t → mu s < n → Res c tl (rankL O r m x s) (rankL O r m x t)
 | 0, x, s, t, hs, _ => .pure hs _
 | m + 1, x, s, t, hs, hm => by
  rw [rank_eq, rank_eq]
  by_cases hk : s.w.kind = 0
  ·rw [if_neg (show ¬ (s.e = 0 ∧ s.w.kind = 3 ∧ _) by omega)]
   rcases hs.split hc.k with ⟨_, h⟩ | ⟨h, _⟩
   ·have h2 : t.w.text = c.2.1 := congrArg (fun x : Wd => x.2.1) h
    have h3 : ¬ rankS c.2.1 = r := by
     rcases hc.t with e | e | e <;> rw [e]
     ·have : rankS [41] = 0 := by decide
      omega
     ·have : rankS [125] = 0 := by decide
      omega
     ·have : rankS [] = 0 := by decide
      omega
    rw [h2, if_neg (fun h => h3 h.2.2)]
    exact .pure hs _
   ·exact absurd hk h
  obtain ⟨h1, h2, _⟩ := hs.at hc.k hk
  rw [h1, h2, hs.se, hs.te]
  split
  ·have hm1 := next_lt s hs.se hk
   refine Res.bndP (hE.go (hs.next hc.k hk) (by omega)) (fun _ _ => ?_) (fun _ _ => ?_) fun h3 => ?_
   ·repeat' (first | exact Dn.refl _ | exact dn_want _ _ | exact dn_fail _ _ | exact dn_next _ | exact (got_all _ _).1 | exact dn_name rfl | exact hE.dn _ | exact dn_list hE.dn _ _ _ rfl | exact dn_listP hE.dn rfl | exact dn_fld hE.dn _ rfl | exact dn_pst hE.dn _ rfl | exact dn_up _ rfl | exact dn_base rfl | exact dn_typ rfl | exact dn_rank hE.dn _ _ rfl | exact dn_sgn _ rfl | exact dn_prim hE.dn rfl | refine dn_bnd ?_ (fun _ _ => ?_) | split)
   ·repeat' (first | exact Dn.refl _ | exact dn_want _ _ | exact dn_fail _ _ | exact dn_next _ | exact (got_all _ _).1 | exact dn_name rfl | exact hE.dn _ | exact dn_list hE.dn _ _ _ rfl | exact dn_listP hE.dn rfl | exact dn_fld hE.dn _ rfl | exact dn_pst hE.dn _ rfl | exact dn_up _ rfl | exact dn_base rfl | exact dn_typ rfl | exact dn_rank hE.dn _ _ rfl | exact dn_sgn _ rfl | exact dn_prim hE.dn rfl | refine dn_bnd ?_ (fun _ _ => ?_) | split)
   have hm2 := (hE.dn (nextP s)).le
   exact sim_rank hc hE r hr m _ h3 (by omega)
  ·exact .pure hs _
theorem climb_eq (O : EP) (m k : Nat) (s : Ps) : climbP O m (k + 1) s = if ¬ s.e = 0 then O s else bndP (climbP O m k s) fun x s1 => rankL (climbP O m k) (5 - (k : Int)) m x s1 := rfl
theorem se_climb (hc : Cl c) {O : EP} (hO : SE c tl n O) (m : Nat) : ∀ k : Nat, k ≤ 5 → SE c tl n (climbP O m k)
 | 0, _ => hO
 | k + 1, hk5 => by
  have hE := se_climb hc hO m k (by omega)
  refine ⟨dn_climb hO.dn m (k + 1), fun {s t} hs hm => ?_, fun s he hk hm => ?_⟩
  ·rw [climb_eq, climb_eq, if_neg (show ¬ ¬ s.e = 0 by rw [hs.se]; simp), if_neg (show ¬ ¬ t.e = 0 by rw [hs.te]; simp)]
   refine Res.bndP (hE.go hs hm) (fun _ _ => ?_) (fun _ _ => ?_) fun h1 => ?_
   ·repeat' (first | exact Dn.refl _ | exact dn_want _ _ | exact dn_fail _ _ | exact dn_next _ | exact (got_all _ _).1 | exact dn_name rfl | exact hE.dn _ | exact dn_list hE.dn _ _ _ rfl | exact dn_listP hE.dn rfl | exact dn_fld hE.dn _ rfl | exact dn_pst hE.dn _ rfl | exact dn_up _ rfl | exact dn_base rfl | exact dn_typ rfl | exact dn_rank hE.dn _ _ rfl | exact dn_sgn _ rfl | exact dn_prim hE.dn rfl | refine dn_bnd ?_ (fun _ _ => ?_) | split)
   ·repeat' (first | exact Dn.refl _ | exact dn_want _ _ | exact dn_fail _ _ | exact dn_next _ | exact (got_all _ _).1 | exact dn_name rfl | exact hE.dn _ | exact dn_list hE.dn _ _ _ rfl | exact dn_listP hE.dn rfl | exact dn_fld hE.dn _ rfl | exact dn_pst hE.dn _ rfl | exact dn_up _ rfl | exact dn_base rfl | exact dn_typ rfl | exact dn_rank hE.dn _ _ rfl | exact dn_sgn _ rfl | exact dn_prim hE.dn rfl | refine dn_bnd ?_ (fun _ _ => ?_) | split)
   have hm1 := (hE.dn s).le
   exact sim_rank hc hE _ (by omega) m _ h1 (by omega)
  ·rw [climb_eq, if_neg (show ¬ ¬ s.e = 0 by rw [he]; simp)]
   intro h0
   exact hE.no s he hk hm ((show Dn (climbP O m k s).2 (rankL (climbP O m k) (5 - (k : Int)) m (climbP O m k s).1 (climbP O m k s).2).2 from dn_rank hE.dn _ _ rfl).zero h0)
theorem se_expr (hc : Cl c) : ∀ n : Nat, SE c tl n (exprF true n)
 | 0 => ⟨fun s => .refl s, fun _ h => absurd h (Nat.not_lt_zero _), fun _ _ _ h => absurd h (Nat.not_lt_zero _)⟩
 | n + 1 => se_climb hc (se_oper hc (se_expr hc n) (n + 1)) (n + 1) 5 (Nat.le_refl _)
end
def Nine (s : Ps) : Prop := ∃ init : List Wd, s.ws.map strip = init ++ [(9, [], 0)] ∧ ∀ x ∈ init, x.1 ≠ 0 ∧ x.1 ≠ 9
def Nn {α : Type} (p : α × Ps) : Prop := p.2.e = 0 → Nine p.2
theorem Nn.pure {α : Type} {s : Ps} (h : Nine s) (x : α) : Nn (x, s) := fun _ => h
theorem Nn.bndP {α β : Type} {p : α × Ps} {f : α → Ps → β × Ps} (h : Nn p) (hf : ∀ x s, Dn s (f x s).2) (hk : ∀ x s, Nine s → Nn (f x s)) : Nn (bndP p f) := fun h0 => hk _ _ (h ((hf _ _).zero h0)) h0
theorem nine_kind {s : Ps} (h : Nine s) : s.w.kind ≠ 0 := by
 obtain ⟨init, h1, h2⟩ := h
 unfold Ps.w
 cases init with
 | nil =>
  obtain ⟨w, r, e1, e2, _⟩ := List.map_eq_cons_iff.1 h1
  rw [e1]
  intro h0
  have : (strip w).1 = 0 := h0
  rw [e2] at this
  exact absurd this (by decide)
 | cons x l =>
  obtain ⟨w, r, e1, e2, _⟩ := List.map_eq_cons_iff.1 h1
  rw [e1]
  intro h0
  have : (strip w).1 = 0 := h0
  rw [e2] at this
  exact (h2 x (by simp)).1 this
theorem nine_next {α : Type} {s : Ps} (h : Nine s) (hk : s.w.kind ≠ 9) (x : α) : Nn (x, nextP s) := by
 intro h0
 dsimp only at h0 ⊢
 obtain ⟨init, h1, h2⟩ := h
 unfold nextP at h0 ⊢
 split
 ·rename_i he
  rw [if_pos he] at h0
  split
  ·rename_i h9
   rw [if_pos h9] at h0
   exact absurd h0 (show ¬ (50 : Int) = 0 by decide)
  cases init with
  | nil =>
   obtain ⟨w, r, e1, e2, _⟩ := List.map_eq_cons_iff.1 h1
   refine absurd ?_ hk
   unfold Ps.w
   rw [e1]
   exact congrArg Prod.fst e2
  | cons y l =>
   obtain ⟨w, r, e1, e2, e3⟩ := List.map_eq_cons_iff.1 h1
   refine ⟨l, ?_, fun z hz => h2 z (List.mem_cons_of_mem _ hz)⟩
   rw [e1]
   exact e3
 ·rename_i he
  rw [if_neg he] at h0
  exact absurd h0 he
theorem nine_bump {s : Ps} (h : Nine s) (T : List UInt8) : Nine (bumpP s T) := by
 unfold Nine
 rw [bump_w]
 exact h
theorem nine_fail {s : Ps} (h : Nine s) (e : Int) : Nine (failP s e) := by
 unfold failP
 split
 ·exact h
 ·exact h
theorem bump_kind (s : Ps) (T : List UInt8) : (bumpP s T).w.kind = s.w.kind := by
 unfold Ps.w
 rw [bump_w]
theorem nine_got {s : Ps} (h : Nine s) (T : List UInt8) : Nn (gotP s T) := by
 unfold gotP
 split
 ·rename_i hi
  obtain ⟨_, h3, _⟩ := is_live hi
  exact nine_next (nine_bump h T) (by rw [bump_kind]; omega) _
 ·exact .pure h _
theorem nine_want {α : Type} {s : Ps} (h : Nine s) (T : List UInt8) (x : α) : Nn (x, wantP s T) := by
 rw [want_eq]
 split
 ·rename_i hi
  obtain ⟨_, h3, _⟩ := is_live hi
  exact nine_next (nine_bump h T) (by rw [bump_kind]; omega) _
 ·exact .pure (nine_fail h _) _
theorem nine_name {s : Ps} (h : Nine s) : Nn (nameP s) := by
 unfold nameP
 split
 ·rename_i hk
  exact nine_next h (by omega) _
 ·exact .pure (nine_fail h _) _
theorem nine_up : ∀ (m : Nat) {s : Ps}, Nine s → Nn (upP m s)
 | 0, s, h => .pure h _
 | m + 1, s, h => by
  rw [up_eq]
  refine .bndP (nine_got h _) (fun _ _ => ?_) fun b s1 h1 => ?_
  ·repeat' (first | exact Dn.refl _ | exact dn_want _ _ | exact dn_fail _ _ | exact dn_next _ | exact (got_all _ _).1 | exact dn_name rfl | exact hE.dn _ | exact dn_list hE.dn _ _ _ rfl | exact dn_listP hE.dn rfl | exact dn_fld hE.dn _ rfl | exact dn_pst hE.dn _ rfl | exact dn_up _ rfl | exact dn_base rfl | exact dn_typ rfl | exact dn_rank hE.dn _ _ rfl | exact dn_sgn _ rfl | exact dn_prim hE.dn rfl | refine dn_bnd ?_ (fun _ _ => ?_) | split)
  split
  ·refine .bndP (nine_want h1 _ _) (fun _ _ => ?_) fun _ s2 h2 => .bndP (nine_up m h2) (fun _ _ => ?_) fun _ _ h3 => .pure h3 _
   ·repeat' (first | exact Dn.refl _ | exact dn_want _ _ | exact dn_fail _ _ | exact dn_next _ | exact (got_all _ _).1 | exact dn_name rfl | exact hE.dn _ | exact dn_list hE.dn _ _ _ rfl | exact dn_listP hE.dn rfl | exact dn_fld hE.dn _ rfl | exact dn_pst hE.dn _ rfl | exact dn_up _ rfl | exact dn_base rfl | exact dn_typ rfl | exact dn_rank hE.dn _ _ rfl | exact dn_sgn _ rfl | exact dn_prim hE.dn rfl | refine dn_bnd ?_ (fun _ _ => ?_) | split)
   ·repeat' (first | exact Dn.refl _ | exact dn_want _ _ | exact dn_fail _ _ | exact dn_next _ | exact (got_all _ _).1 | exact dn_name rfl | exact hE.dn _ | exact dn_list hE.dn _ _ _ rfl | exact dn_listP hE.dn rfl | exact dn_fld hE.dn _ rfl | exact dn_pst hE.dn _ rfl | exact dn_up _ rfl | exact dn_base rfl | exact dn_typ rfl | exact dn_rank hE.dn _ _ rfl | exact dn_sgn _ rfl | exact dn_prim hE.dn rfl | refine dn_bnd ?_ (fun _ _ => ?_) | split)
  ·exact .pure h1 _
theorem nine_base {s : Ps} (h : Nine s) : Nn (baseP s) := by
 have hb : baseP s = if 0 < kindS s.w.text ∧ isP s s.w.text = true then (.mk (kindS s.w.text) [] [], nextP s) else bndP (nameP s) fun t s1 => (.mk 7 t [], s1) := rfl
 rw [hb]
 split
 ·rename_i hi
  obtain ⟨_, h3, _⟩ := is_live hi.2
  exact nine_next h (by omega) _
 ·refine .bndP (nine_name h) (fun _ _ => ?_) fun _ _ h1 => .pure h1 _
  repeat' (first | exact Dn.refl _ | exact dn_want _ _ | exact dn_fail _ _ | exact dn_next _ | exact (got_all _ _).1 | exact dn_name rfl | exact hE.dn _ | exact dn_list hE.dn _ _ _ rfl | exact dn_listP hE.dn rfl | exact dn_fld hE.dn _ rfl | exact dn_pst hE.dn _ rfl | exact dn_up _ rfl | exact dn_base rfl | exact dn_typ rfl | exact dn_rank hE.dn _ _ rfl | exact dn_sgn _ rfl | exact dn_prim hE.dn rfl | refine dn_bnd ?_ (fun _ _ => ?_) | split)
theorem nine_typ (m : Nat) {s : Ps} (h : Nine s) : Nn (typP m s) := by
 have hb : typP m s = bndP (upP m s) fun n s1 => bndP (baseP s1) fun t s2 => (wrapT n t, s2) := rfl
 rw [hb]
 refine .bndP (nine_up m h) (fun _ _ => ?_) fun _ s1 h1 => .bndP (nine_base h1) (fun _ _ => ?_) fun _ _ h2 => .pure h2 _
 ·repeat' (first | exact Dn.refl _ | exact dn_want _ _ | exact dn_fail _ _ | exact dn_next _ | exact (got_all _ _).1 | exact dn_name rfl | exact hE.dn _ | exact dn_list hE.dn _ _ _ rfl | exact dn_listP hE.dn rfl | exact dn_fld hE.dn _ rfl | exact dn_pst hE.dn _ rfl | exact dn_up _ rfl | exact dn_base rfl | exact dn_typ rfl | exact dn_rank hE.dn _ _ rfl | exact dn_sgn _ rfl | exact dn_prim hE.dn rfl | refine dn_bnd ?_ (fun _ _ => ?_) | split)
 ·repeat' (first | exact Dn.refl _ | exact dn_want _ _ | exact dn_fail _ _ | exact dn_next _ | exact (got_all _ _).1 | exact dn_name rfl | exact hE.dn _ | exact dn_list hE.dn _ _ _ rfl | exact dn_listP hE.dn rfl | exact dn_fld hE.dn _ rfl | exact dn_pst hE.dn _ rfl | exact dn_up _ rfl | exact dn_base rfl | exact dn_typ rfl | exact dn_rank hE.dn _ _ rfl | exact dn_sgn _ rfl | exact dn_prim hE.dn rfl | refine dn_bnd ?_ (fun _ _ => ?_) | split)
structure NE (E : EP) : Prop where
 dn : DnE E
 go : ∀ {s : Ps}, Nine s → Nn (E s)
variable {E : EP}
theorem nine_list (hE : NE E) (en : List UInt8) (comma : Bool) : ∀ (m : Nat) {s : Ps}, Nine s → Nn (listL E en comma m s)
 | 0, s, h => .pure h _
 | m + 1, s, h => by
  rw [list_eq]
  split
  ·refine .bndP (hE.go h) (fun _ _ => ?_) fun _ s1 h1 => .bndP (nine_got h1 _) (fun _ _ => ?_) fun b s2 h2 => ?_
   ·repeat' (first | exact Dn.refl _ | exact dn_want _ _ | exact dn_fail _ _ | exact dn_next _ | exact (got_all _ _).1 | exact dn_name rfl | exact hE.dn _ | exact dn_list hE.dn _ _ _ rfl | exact dn_listP hE.dn rfl | exact dn_fld hE.dn _ rfl | exact dn_pst hE.dn _ rfl | exact dn_up _ rfl | exact dn_base rfl | exact dn_typ rfl | exact dn_rank hE.dn _ _ rfl | exact dn_sgn _ rfl | exact dn_prim hE.dn rfl | refine dn_bnd ?_ (fun _ _ => ?_) | split)
   ·repeat' (first | exact Dn.refl _ | exact dn_want _ _ | exact dn_fail _ _ | exact dn_next _ | exact (got_all _ _).1 | exact dn_name rfl | exact hE.dn _ | exact dn_list hE.dn _ _ _ rfl | exact dn_listP hE.dn rfl | exact dn_fld hE.dn _ rfl | exact dn_pst hE.dn _ rfl | exact dn_up _ rfl | exact dn_base rfl | exact dn_typ rfl | exact dn_rank hE.dn _ _ rfl | exact dn_sgn _ rfl | exact dn_prim hE.dn rfl | refine dn_bnd ?_ (fun _ _ => ?_) | split)
   split
   ·refine .bndP ?_ (fun _ _ => ?_) fun _ s3 h3 => .bndP (nine_list hE en comma m h3) (fun _ _ => ?_) fun _ _ h4 => .pure h4 _
    ·split
     ·exact .pure (nine_fail h2 _) _
     ·exact .pure h2 _
    ·repeat' (first | exact Dn.refl _ | exact dn_want _ _ | exact dn_fail _ _ | exact dn_next _ | exact (got_all _ _).1 | exact dn_name rfl | exact hE.dn _ | exact dn_list hE.dn _ _ _ rfl | exact dn_listP hE.dn rfl | exact dn_fld hE.dn _ rfl | exact dn_pst hE.dn _ rfl | exact dn_up _ rfl | exact dn_base rfl | exact dn_typ rfl | exact dn_rank hE.dn _ _ rfl | exact dn_sgn _ rfl | exact dn_prim hE.dn rfl | refine dn_bnd ?_ (fun _ _ => ?_) | split)
    ·repeat' (first | exact Dn.refl _ | exact dn_want _ _ | exact dn_fail _ _ | exact dn_next _ | exact (got_all _ _).1 | exact dn_name rfl | exact hE.dn _ | exact dn_list hE.dn _ _ _ rfl | exact dn_listP hE.dn rfl | exact dn_fld hE.dn _ rfl | exact dn_pst hE.dn _ rfl | exact dn_up _ rfl | exact dn_base rfl | exact dn_typ rfl | exact dn_rank hE.dn _ _ rfl | exact dn_sgn _ rfl | exact dn_prim hE.dn rfl | refine dn_bnd ?_ (fun _ _ => ?_) | split)
   ·exact .pure h2 _
  ·exact .pure h _
theorem nine_listP (hE : NE E) (en : List UInt8) (comma : Bool) (m : Nat) {s : Ps} (h : Nine s) : Nn (listP E en comma m s) := by
 have hb : listP E en comma m s = bndP (listL E en comma m s) fun l s1 => (l, wantP s1 en) := rfl
 rw [hb]
 refine .bndP (nine_list hE en comma m h) (fun _ _ => ?_) fun _ _ h1 => nine_want h1 _ _
 repeat' (first | exact Dn.refl _ | exact dn_want _ _ | exact dn_fail _ _ | exact dn_next _ | exact (got_all _ _).1 | exact dn_name rfl | exact hE.dn _ | exact dn_list hE.dn _ _ _ rfl | exact dn_listP hE.dn rfl | exact dn_fld hE.dn _ rfl | exact dn_pst hE.dn _ rfl | exact dn_up _ rfl | exact dn_base rfl | exact dn_typ rfl | exact dn_rank hE.dn _ _ rfl | exact dn_sgn _ rfl | exact dn_prim hE.dn rfl | refine dn_bnd ?_ (fun _ _ => ?_) | split)
theorem nine_fld (hE : NE E) : ∀ (m : Nat) {s : Ps}, Nine s → Nn (fldL E m s)
 | 0, s, h => .pure h _
 | m + 1, s, h => by
  rw [fld_eq]
  split
  ·refine .bndP (nine_name h) (fun _ _ => ?_) fun _ s1 h1 => .bndP (nine_want h1 _ _) (fun _ _ => ?_) fun _ s2 h2 => .bndP (hE.go h2) (fun _ _ => ?_) fun _ s3 h3 => .bndP (nine_got h3 _) (fun _ _ => ?_) fun b s4 h4 => ?_
   ·repeat' (first | exact Dn.refl _ | exact dn_want _ _ | exact dn_fail _ _ | exact dn_next _ | exact (got_all _ _).1 | exact dn_name rfl | exact hE.dn _ | exact dn_list hE.dn _ _ _ rfl | exact dn_listP hE.dn rfl | exact dn_fld hE.dn _ rfl | exact dn_pst hE.dn _ rfl | exact dn_up _ rfl | exact dn_base rfl | exact dn_typ rfl | exact dn_rank hE.dn _ _ rfl | exact dn_sgn _ rfl | exact dn_prim hE.dn rfl | refine dn_bnd ?_ (fun _ _ => ?_) | split)
   ·repeat' (first | exact Dn.refl _ | exact dn_want _ _ | exact dn_fail _ _ | exact dn_next _ | exact (got_all _ _).1 | exact dn_name rfl | exact hE.dn _ | exact dn_list hE.dn _ _ _ rfl | exact dn_listP hE.dn rfl | exact dn_fld hE.dn _ rfl | exact dn_pst hE.dn _ rfl | exact dn_up _ rfl | exact dn_base rfl | exact dn_typ rfl | exact dn_rank hE.dn _ _ rfl | exact dn_sgn _ rfl | exact dn_prim hE.dn rfl | refine dn_bnd ?_ (fun _ _ => ?_) | split)
   ·repeat' (first | exact Dn.refl _ | exact dn_want _ _ | exact dn_fail _ _ | exact dn_next _ | exact (got_all _ _).1 | exact dn_name rfl | exact hE.dn _ | exact dn_list hE.dn _ _ _ rfl | exact dn_listP hE.dn rfl | exact dn_fld hE.dn _ rfl | exact dn_pst hE.dn _ rfl | exact dn_up _ rfl | exact dn_base rfl | exact dn_typ rfl | exact dn_rank hE.dn _ _ rfl | exact dn_sgn _ rfl | exact dn_prim hE.dn rfl | refine dn_bnd ?_ (fun _ _ => ?_) | split)
   ·repeat' (first | exact Dn.refl _ | exact dn_want _ _ | exact dn_fail _ _ | exact dn_next _ | exact (got_all _ _).1 | exact dn_name rfl | exact hE.dn _ | exact dn_list hE.dn _ _ _ rfl | exact dn_listP hE.dn rfl | exact dn_fld hE.dn _ rfl | exact dn_pst hE.dn _ rfl | exact dn_up _ rfl | exact dn_base rfl | exact dn_typ rfl | exact dn_rank hE.dn _ _ rfl | exact dn_sgn _ rfl | exact dn_prim hE.dn rfl | refine dn_bnd ?_ (fun _ _ => ?_) | split)
   split
   ·refine .bndP (nine_fld hE m h4) (fun _ _ => ?_) fun _ _ h5 => .pure h5 _
    repeat' (first | exact Dn.refl _ | exact dn_want _ _ | exact dn_fail _ _ | exact dn_next _ | exact (got_all _ _).1 | exact dn_name rfl | exact hE.dn _ | exact dn_list hE.dn _ _ _ rfl | exact dn_listP hE.dn rfl | exact dn_fld hE.dn _ rfl | exact dn_pst hE.dn _ rfl | exact dn_up _ rfl | exact dn_base rfl | exact dn_typ rfl | exact dn_rank hE.dn _ _ rfl | exact dn_sgn _ rfl | exact dn_prim hE.dn rfl | refine dn_bnd ?_ (fun _ _ => ?_) | split)
   ·exact .pure h4 _
  ·exact .pure h _
theorem nine_named (hE : NE E) (m : Nat) {s : Ps} (h : Nine s) : Nn (namedP true E m s) := by
 rw [named_eq]
 refine .bndP (nine_name h) (fun _ _ => ?_) fun _ s1 h1 => .bndP (nine_got h1 _) (fun _ _ => ?_) fun b s2 h2 => ?_
 ·repeat' (first | exact Dn.refl _ | exact dn_want _ _ | exact dn_fail _ _ | exact dn_next _ | exact (got_all _ _).1 | exact dn_name rfl | exact hE.dn _ | exact dn_list hE.dn _ _ _ rfl | exact dn_listP hE.dn rfl | exact dn_fld hE.dn _ rfl | exact dn_pst hE.dn _ rfl | exact dn_up _ rfl | exact dn_base rfl | exact dn_typ rfl | exact dn_rank hE.dn _ _ rfl | exact dn_sgn _ rfl | exact dn_prim hE.dn rfl | refine dn_bnd ?_ (fun _ _ => ?_) | split)
 ·repeat' (first | exact Dn.refl _ | exact dn_want _ _ | exact dn_fail _ _ | exact dn_next _ | exact (got_all _ _).1 | exact dn_name rfl | exact hE.dn _ | exact dn_list hE.dn _ _ _ rfl | exact dn_listP hE.dn rfl | exact dn_fld hE.dn _ rfl | exact dn_pst hE.dn _ rfl | exact dn_up _ rfl | exact dn_base rfl | exact dn_typ rfl | exact dn_rank hE.dn _ _ rfl | exact dn_sgn _ rfl | exact dn_prim hE.dn rfl | refine dn_bnd ?_ (fun _ _ => ?_) | split)
 split
 ·refine .bndP (nine_listP hE _ _ m h2) (fun _ _ => ?_) fun _ _ h3 => .pure h3 _
  repeat' (first | exact Dn.refl _ | exact dn_want _ _ | exact dn_fail _ _ | exact dn_next _ | exact (got_all _ _).1 | exact dn_name rfl | exact hE.dn _ | exact dn_list hE.dn _ _ _ rfl | exact dn_listP hE.dn rfl | exact dn_fld hE.dn _ rfl | exact dn_pst hE.dn _ rfl | exact dn_up _ rfl | exact dn_base rfl | exact dn_typ rfl | exact dn_rank hE.dn _ _ rfl | exact dn_sgn _ rfl | exact dn_prim hE.dn rfl | refine dn_bnd ?_ (fun _ _ => ?_) | split)
 split
 ·refine .bndP (nine_got h2 _) (fun _ _ => ?_) fun b s3 h3 => ?_
  ·repeat' (first | exact Dn.refl _ | exact dn_want _ _ | exact dn_fail _ _ | exact dn_next _ | exact (got_all _ _).1 | exact dn_name rfl | exact hE.dn _ | exact dn_list hE.dn _ _ _ rfl | exact dn_listP hE.dn rfl | exact dn_fld hE.dn _ rfl | exact dn_pst hE.dn _ rfl | exact dn_up _ rfl | exact dn_base rfl | exact dn_typ rfl | exact dn_rank hE.dn _ _ rfl | exact dn_sgn _ rfl | exact dn_prim hE.dn rfl | refine dn_bnd ?_ (fun _ _ => ?_) | split)
  split
  ·refine .bndP (nine_fld hE m h3) (fun _ _ => ?_) fun _ _ h4 => nine_want h4 _ _
   repeat' (first | exact Dn.refl _ | exact dn_want _ _ | exact dn_fail _ _ | exact dn_next _ | exact (got_all _ _).1 | exact dn_name rfl | exact hE.dn _ | exact dn_list hE.dn _ _ _ rfl | exact dn_listP hE.dn rfl | exact dn_fld hE.dn _ rfl | exact dn_pst hE.dn _ rfl | exact dn_up _ rfl | exact dn_base rfl | exact dn_typ rfl | exact dn_rank hE.dn _ _ rfl | exact dn_sgn _ rfl | exact dn_prim hE.dn rfl | refine dn_bnd ?_ (fun _ _ => ?_) | split)
  ·exact .pure h3 _
 ·exact .pure h2 _
theorem nine_keyed (hE : NE E) {s : Ps} (h : Nine s) (hk : s.w.kind ≠ 9) : Nn (keyedP E s) := by
 rw [keyed_eq]
 split
 ·exact nine_next h hk _
 split
 ·exact nine_next h hk _
 have hb : keyQ E s.w.text (nextP s) = bndP ((), nextP s) fun _ s0 => keyQ E s.w.text s0 := rfl
 rw [hb]
 unfold keyQ
 refine .bndP (nine_next h hk _) (fun _ _ => ?_) fun _ s1 h1 => .bndP (nine_want h1 _ _) (fun _ _ => ?_) fun _ s2 h2 => .bndP (hE.go h2) (fun _ _ => ?_) fun _ s3 h3 => ?_
 ·repeat' (first | exact Dn.refl _ | exact dn_want _ _ | exact dn_fail _ _ | exact dn_next _ | exact (got_all _ _).1 | exact dn_name rfl | exact hE.dn _ | exact dn_list hE.dn _ _ _ rfl | exact dn_listP hE.dn rfl | exact dn_fld hE.dn _ rfl | exact dn_pst hE.dn _ rfl | exact dn_up _ rfl | exact dn_base rfl | exact dn_typ rfl | exact dn_rank hE.dn _ _ rfl | exact dn_sgn _ rfl | exact dn_prim hE.dn rfl | refine dn_bnd ?_ (fun _ _ => ?_) | split)
 ·repeat' (first | exact Dn.refl _ | exact dn_want _ _ | exact dn_fail _ _ | exact dn_next _ | exact (got_all _ _).1 | exact dn_name rfl | exact hE.dn _ | exact dn_list hE.dn _ _ _ rfl | exact dn_listP hE.dn rfl | exact dn_fld hE.dn _ rfl | exact dn_pst hE.dn _ rfl | exact dn_up _ rfl | exact dn_base rfl | exact dn_typ rfl | exact dn_rank hE.dn _ _ rfl | exact dn_sgn _ rfl | exact dn_prim hE.dn rfl | refine dn_bnd ?_ (fun _ _ => ?_) | split)
 ·repeat' (first | exact Dn.refl _ | exact dn_want _ _ | exact dn_fail _ _ | exact dn_next _ | exact (got_all _ _).1 | exact dn_name rfl | exact hE.dn _ | exact dn_list hE.dn _ _ _ rfl | exact dn_listP hE.dn rfl | exact dn_fld hE.dn _ rfl | exact dn_pst hE.dn _ rfl | exact dn_up _ rfl | exact dn_base rfl | exact dn_typ rfl | exact dn_rank hE.dn _ _ rfl | exact dn_sgn _ rfl | exact dn_prim hE.dn rfl | refine dn_bnd ?_ (fun _ _ => ?_) | split)
 split
 ·refine .bndP (nine_want h3 _ _) (fun _ _ => ?_) fun _ s4 h4 => .bndP (hE.go h4) (fun _ _ => ?_) fun _ _ h5 => nine_want h5 _ _
  ·repeat' (first | exact Dn.refl _ | exact dn_want _ _ | exact dn_fail _ _ | exact dn_next _ | exact (got_all _ _).1 | exact dn_name rfl | exact hE.dn _ | exact dn_list hE.dn _ _ _ rfl | exact dn_listP hE.dn rfl | exact dn_fld hE.dn _ rfl | exact dn_pst hE.dn _ rfl | exact dn_up _ rfl | exact dn_base rfl | exact dn_typ rfl | exact dn_rank hE.dn _ _ rfl | exact dn_sgn _ rfl | exact dn_prim hE.dn rfl | refine dn_bnd ?_ (fun _ _ => ?_) | split)
  ·repeat' (first | exact Dn.refl _ | exact dn_want _ _ | exact dn_fail _ _ | exact dn_next _ | exact (got_all _ _).1 | exact dn_name rfl | exact hE.dn _ | exact dn_list hE.dn _ _ _ rfl | exact dn_listP hE.dn rfl | exact dn_fld hE.dn _ rfl | exact dn_pst hE.dn _ rfl | exact dn_up _ rfl | exact dn_base rfl | exact dn_typ rfl | exact dn_rank hE.dn _ _ rfl | exact dn_sgn _ rfl | exact dn_prim hE.dn rfl | refine dn_bnd ?_ (fun _ _ => ?_) | split)
 split
 ·exact nine_want h3 _ _
 ·exact nine_want h3 _ _
theorem nine_prim (hE : NE E) (m : Nat) {s : Ps} (h : Nine s) : Nn (primP true E m s) := by
 rw [prim_eq]
 split
 ·exact .pure h _
 split
 ·exact nine_next h (by omega) _
 split
 ·exact nine_named hE m h
 split
 ·rename_i hb
  refine nine_keyed hE h fun h9 => ?_
  unfold keyB at hb
  have : ∀ T, isP s T = false := fun T => by unfold isP; rw [h9]; simp
  rw [this, this, this, this, h9] at hb
  exact absurd hb (by simp)
 unfold primQ
 refine .bndP (nine_got h _) (fun _ _ => ?_) fun b s1 h1 => ?_
 ·repeat' (first | exact Dn.refl _ | exact dn_want _ _ | exact dn_fail _ _ | exact dn_next _ | exact (got_all _ _).1 | exact dn_name rfl | exact hE.dn _ | exact dn_list hE.dn _ _ _ rfl | exact dn_listP hE.dn rfl | exact dn_fld hE.dn _ rfl | exact dn_pst hE.dn _ rfl | exact dn_up _ rfl | exact dn_base rfl | exact dn_typ rfl | exact dn_rank hE.dn _ _ rfl | exact dn_sgn _ rfl | exact dn_prim hE.dn rfl | refine dn_bnd ?_ (fun _ _ => ?_) | split)
 split
 ·refine .bndP (hE.go h1) (fun _ _ => ?_) fun _ _ h2 => nine_want h2 _ _
  repeat' (first | exact Dn.refl _ | exact dn_want _ _ | exact dn_fail _ _ | exact dn_next _ | exact (got_all _ _).1 | exact dn_name rfl | exact hE.dn _ | exact dn_list hE.dn _ _ _ rfl | exact dn_listP hE.dn rfl | exact dn_fld hE.dn _ rfl | exact dn_pst hE.dn _ rfl | exact dn_up _ rfl | exact dn_base rfl | exact dn_typ rfl | exact dn_rank hE.dn _ _ rfl | exact dn_sgn _ rfl | exact dn_prim hE.dn rfl | refine dn_bnd ?_ (fun _ _ => ?_) | split)
 split
 ·refine .bndP (nine_typ m h1) (fun _ _ => ?_) fun _ s2 h2 => .bndP (nine_want h2 _ _) (fun _ _ => ?_) fun _ s3 h3 => .bndP (nine_listP hE _ _ m h3) (fun _ _ => ?_) fun _ _ h4 => .pure h4 _
  ·repeat' (first | exact Dn.refl _ | exact dn_want _ _ | exact dn_fail _ _ | exact dn_next _ | exact (got_all _ _).1 | exact dn_name rfl | exact hE.dn _ | exact dn_list hE.dn _ _ _ rfl | exact dn_listP hE.dn rfl | exact dn_fld hE.dn _ rfl | exact dn_pst hE.dn _ rfl | exact dn_up _ rfl | exact dn_base rfl | exact dn_typ rfl | exact dn_rank hE.dn _ _ rfl | exact dn_sgn _ rfl | exact dn_prim hE.dn rfl | refine dn_bnd ?_ (fun _ _ => ?_) | split)
  ·repeat' (first | exact Dn.refl _ | exact dn_want _ _ | exact dn_fail _ _ | exact dn_next _ | exact (got_all _ _).1 | exact dn_name rfl | exact hE.dn _ | exact dn_list hE.dn _ _ _ rfl | exact dn_listP hE.dn rfl | exact dn_fld hE.dn _ rfl | exact dn_pst hE.dn _ rfl | exact dn_up _ rfl | exact dn_base rfl | exact dn_typ rfl | exact dn_rank hE.dn _ _ rfl | exact dn_sgn _ rfl | exact dn_prim hE.dn rfl | refine dn_bnd ?_ (fun _ _ => ?_) | split)
  ·repeat' (first | exact Dn.refl _ | exact dn_want _ _ | exact dn_fail _ _ | exact dn_next _ | exact (got_all _ _).1 | exact dn_name rfl | exact hE.dn _ | exact dn_list hE.dn _ _ _ rfl | exact dn_listP hE.dn rfl | exact dn_fld hE.dn _ rfl | exact dn_pst hE.dn _ rfl | exact dn_up _ rfl | exact dn_base rfl | exact dn_typ rfl | exact dn_rank hE.dn _ _ rfl | exact dn_sgn _ rfl | exact dn_prim hE.dn rfl | refine dn_bnd ?_ (fun _ _ => ?_) | split)
 ·exact .pure (nine_fail h1 _) _
theorem nine_sgn : ∀ (m : Nat) {s : Ps}, Nine s → Nn (sgnL m s)
 | 0, s, h => .pure h _
 | m + 1, s, h => by
  have hb : ∀ k : Int, (bndP (sgnL m (nextP s)) fun l s1 => (k :: l, s1)) = bndP ((), nextP s) fun _ s0 => bndP (sgnL m s0) fun l s1 => (k :: l, s1) := fun _ => rfl
  rw [sgn_eq, hb, hb]
  split
  ·rename_i hi
   obtain ⟨_, h3, _⟩ := is_live hi
   refine .bndP (nine_next h (by omega) _) (fun _ _ => ?_) fun _ s1 h1 => .bndP (nine_sgn m h1) (fun _ _ => ?_) fun _ _ h2 => .pure h2 _
   ·repeat' (first | exact Dn.refl _ | exact dn_want _ _ | exact dn_fail _ _ | exact dn_next _ | exact (got_all _ _).1 | exact dn_name rfl | exact hE.dn _ | exact dn_list hE.dn _ _ _ rfl | exact dn_listP hE.dn rfl | exact dn_fld hE.dn _ rfl | exact dn_pst hE.dn _ rfl | exact dn_up _ rfl | exact dn_base rfl | exact dn_typ rfl | exact dn_rank hE.dn _ _ rfl | exact dn_sgn _ rfl | exact dn_prim hE.dn rfl | refine dn_bnd ?_ (fun _ _ => ?_) | split)
   ·repeat' (first | exact Dn.refl _ | exact dn_want _ _ | exact dn_fail _ _ | exact dn_next _ | exact (got_all _ _).1 | exact dn_name rfl | exact hE.dn _ | exact dn_list hE.dn _ _ _ rfl | exact dn_listP hE.dn rfl | exact dn_fld hE.dn _ rfl | exact dn_pst hE.dn _ rfl | exact dn_up _ rfl | exact dn_base rfl | exact dn_typ rfl | exact dn_rank hE.dn _ _ rfl | exact dn_sgn _ rfl | exact dn_prim hE.dn rfl | refine dn_bnd ?_ (fun _ _ => ?_) | split)
  split
  ·rename_i hi
   obtain ⟨_, h3, _⟩ := is_live hi
   refine .bndP (nine_next h (by omega) _) (fun _ _ => ?_) fun _ s1 h1 => .bndP (nine_sgn m h1) (fun _ _ => ?_) fun _ _ h2 => .pure h2 _
   ·repeat' (first | exact Dn.refl _ | exact dn_want _ _ | exact dn_fail _ _ | exact dn_next _ | exact (got_all _ _).1 | exact dn_name rfl | exact hE.dn _ | exact dn_list hE.dn _ _ _ rfl | exact dn_listP hE.dn rfl | exact dn_fld hE.dn _ rfl | exact dn_pst hE.dn _ rfl | exact dn_up _ rfl | exact dn_base rfl | exact dn_typ rfl | exact dn_rank hE.dn _ _ rfl | exact dn_sgn _ rfl | exact dn_prim hE.dn rfl | refine dn_bnd ?_ (fun _ _ => ?_) | split)
   ·repeat' (first | exact Dn.refl _ | exact dn_want _ _ | exact dn_fail _ _ | exact dn_next _ | exact (got_all _ _).1 | exact dn_name rfl | exact hE.dn _ | exact dn_list hE.dn _ _ _ rfl | exact dn_listP hE.dn rfl | exact dn_fld hE.dn _ rfl | exact dn_pst hE.dn _ rfl | exact dn_up _ rfl | exact dn_base rfl | exact dn_typ rfl | exact dn_rank hE.dn _ _ rfl | exact dn_sgn _ rfl | exact dn_prim hE.dn rfl | refine dn_bnd ?_ (fun _ _ => ?_) | split)
  ·exact .pure h _
theorem nine_pst (hE : NE E) : ∀ (m : Nat) (x : ExT) {s : Ps}, Nine s → Nn (pstL E m x s)
 | 0, x, s, h => .pure h _
 | m + 1, x, s, h => by
  rw [pst_eq]
  split
  ·exact .pure h _
  refine .bndP (nine_got h _) (fun _ _ => ?_) fun b s1 h1 => ?_
  ·repeat' (first | exact Dn.refl _ | exact dn_want _ _ | exact dn_fail _ _ | exact dn_next _ | exact (got_all _ _).1 | exact dn_name rfl | exact hE.dn _ | exact dn_list hE.dn _ _ _ rfl | exact dn_listP hE.dn rfl | exact dn_fld hE.dn _ rfl | exact dn_pst hE.dn _ rfl | exact dn_up _ rfl | exact dn_base rfl | exact dn_typ rfl | exact dn_rank hE.dn _ _ rfl | exact dn_sgn _ rfl | exact dn_prim hE.dn rfl | refine dn_bnd ?_ (fun _ _ => ?_) | split)
  split
  ·refine .bndP (nine_name h1) (fun _ _ => ?_) fun _ s2 h2 => nine_pst hE m _ h2
   repeat' (first | exact Dn.refl _ | exact dn_want _ _ | exact dn_fail _ _ | exact dn_next _ | exact (got_all _ _).1 | exact dn_name rfl | exact hE.dn _ | exact dn_list hE.dn _ _ _ rfl | exact dn_listP hE.dn rfl | exact dn_fld hE.dn _ rfl | exact dn_pst hE.dn _ rfl | exact dn_up _ rfl | exact dn_base rfl | exact dn_typ rfl | exact dn_rank hE.dn _ _ rfl | exact dn_sgn _ rfl | exact dn_prim hE.dn rfl | refine dn_bnd ?_ (fun _ _ => ?_) | split)
  refine .bndP (nine_got h1 _) (fun _ _ => ?_) fun b s2 h2 => ?_
  ·repeat' (first | exact Dn.refl _ | exact dn_want _ _ | exact dn_fail _ _ | exact dn_next _ | exact (got_all _ _).1 | exact dn_name rfl | exact hE.dn _ | exact dn_list hE.dn _ _ _ rfl | exact dn_listP hE.dn rfl | exact dn_fld hE.dn _ rfl | exact dn_pst hE.dn _ rfl | exact dn_up _ rfl | exact dn_base rfl | exact dn_typ rfl | exact dn_rank hE.dn _ _ rfl | exact dn_sgn _ rfl | exact dn_prim hE.dn rfl | refine dn_bnd ?_ (fun _ _ => ?_) | split)
  split
  ·refine .bndP (hE.go h2) (fun _ _ => ?_) fun _ s3 h3 => .bndP (nine_got h3 _) (fun _ _ => ?_) fun b s4 h4 => ?_
   ·repeat' (first | exact Dn.refl _ | exact dn_want _ _ | exact dn_fail _ _ | exact dn_next _ | exact (got_all _ _).1 | exact dn_name rfl | exact hE.dn _ | exact dn_list hE.dn _ _ _ rfl | exact dn_listP hE.dn rfl | exact dn_fld hE.dn _ rfl | exact dn_pst hE.dn _ rfl | exact dn_up _ rfl | exact dn_base rfl | exact dn_typ rfl | exact dn_rank hE.dn _ _ rfl | exact dn_sgn _ rfl | exact dn_prim hE.dn rfl | refine dn_bnd ?_ (fun _ _ => ?_) | split)
   ·repeat' (first | exact Dn.refl _ | exact dn_want _ _ | exact dn_fail _ _ | exact dn_next _ | exact (got_all _ _).1 | exact dn_name rfl | exact hE.dn _ | exact dn_list hE.dn _ _ _ rfl | exact dn_listP hE.dn rfl | exact dn_fld hE.dn _ rfl | exact dn_pst hE.dn _ rfl | exact dn_up _ rfl | exact dn_base rfl | exact dn_typ rfl | exact dn_rank hE.dn _ _ rfl | exact dn_sgn _ rfl | exact dn_prim hE.dn rfl | refine dn_bnd ?_ (fun _ _ => ?_) | split)
   split
   ·refine .bndP (hE.go h4) (fun _ _ => ?_) fun _ s5 h5 => .bndP (nine_want h5 _ _) (fun _ _ => ?_) fun _ s6 h6 => nine_pst hE m _ h6
    ·repeat' (first | exact Dn.refl _ | exact dn_want _ _ | exact dn_fail _ _ | exact dn_next _ | exact (got_all _ _).1 | exact dn_name rfl | exact hE.dn _ | exact dn_list hE.dn _ _ _ rfl | exact dn_listP hE.dn rfl | exact dn_fld hE.dn _ rfl | exact dn_pst hE.dn _ rfl | exact dn_up _ rfl | exact dn_base rfl | exact dn_typ rfl | exact dn_rank hE.dn _ _ rfl | exact dn_sgn _ rfl | exact dn_prim hE.dn rfl | refine dn_bnd ?_ (fun _ _ => ?_) | split)
    ·repeat' (first | exact Dn.refl _ | exact dn_want _ _ | exact dn_fail _ _ | exact dn_next _ | exact (got_all _ _).1 | exact dn_name rfl | exact hE.dn _ | exact dn_list hE.dn _ _ _ rfl | exact dn_listP hE.dn rfl | exact dn_fld hE.dn _ rfl | exact dn_pst hE.dn _ rfl | exact dn_up _ rfl | exact dn_base rfl | exact dn_typ rfl | exact dn_rank hE.dn _ _ rfl | exact dn_sgn _ rfl | exact dn_prim hE.dn rfl | refine dn_bnd ?_ (fun _ _ => ?_) | split)
   ·refine .bndP (nine_want h4 _ _) (fun _ _ => ?_) fun _ s6 h6 => nine_pst hE m _ h6
    repeat' (first | exact Dn.refl _ | exact dn_want _ _ | exact dn_fail _ _ | exact dn_next _ | exact (got_all _ _).1 | exact dn_name rfl | exact hE.dn _ | exact dn_list hE.dn _ _ _ rfl | exact dn_listP hE.dn rfl | exact dn_fld hE.dn _ rfl | exact dn_pst hE.dn _ rfl | exact dn_up _ rfl | exact dn_base rfl | exact dn_typ rfl | exact dn_rank hE.dn _ _ rfl | exact dn_sgn _ rfl | exact dn_prim hE.dn rfl | refine dn_bnd ?_ (fun _ _ => ?_) | split)
  ·exact .pure h2 _
theorem nine_oper (hE : NE E) (m : Nat) : NE (operP true E m) where
 dn := .of fun h => dn_oper hE.dn h
 go := fun {s} h => by
  rw [oper_eq]
  refine .bndP (nine_sgn m h) (fun _ _ => ?_) fun _ s1 h1 => .bndP (nine_prim hE m h1) (fun _ _ => ?_) fun _ s2 h2 => .bndP (nine_pst hE m _ h2) (fun _ _ => ?_) fun _ _ h3 => .pure h3 _
  ·repeat' (first | exact Dn.refl _ | exact dn_want _ _ | exact dn_fail _ _ | exact dn_next _ | exact (got_all _ _).1 | exact dn_name rfl | exact hE.dn _ | exact dn_list hE.dn _ _ _ rfl | exact dn_listP hE.dn rfl | exact dn_fld hE.dn _ rfl | exact dn_pst hE.dn _ rfl | exact dn_up _ rfl | exact dn_base rfl | exact dn_typ rfl | exact dn_rank hE.dn _ _ rfl | exact dn_sgn _ rfl | exact dn_prim hE.dn rfl | refine dn_bnd ?_ (fun _ _ => ?_) | split)
  ·repeat' (first | exact Dn.refl _ | exact dn_want _ _ | exact dn_fail _ _ | exact dn_next _ | exact (got_all _ _).1 | exact dn_name rfl | exact hE.dn _ | exact dn_list hE.dn _ _ _ rfl | exact dn_listP hE.dn rfl | exact dn_fld hE.dn _ rfl | exact dn_pst hE.dn _ rfl | exact dn_up _ rfl | exact dn_base rfl | exact dn_typ rfl | exact dn_rank hE.dn _ _ rfl | exact dn_sgn _ rfl | exact dn_prim hE.dn rfl | refine dn_bnd ?_ (fun _ _ => ?_) | split)
  ·repeat' (first | exact Dn.refl _ | exact dn_want _ _ | exact dn_fail _ _ | exact dn_next _ | exact (got_all _ _).1 | exact dn_name rfl | exact hE.dn _ | exact dn_list hE.dn _ _ _ rfl | exact dn_listP hE.dn rfl | exact dn_fld hE.dn _ rfl | exact dn_pst hE.dn _ rfl | exact dn_up _ rfl | exact dn_base rfl | exact dn_typ rfl | exact dn_rank hE.dn _ _ rfl | exact dn_sgn _ rfl | exact dn_prim hE.dn rfl | refine dn_bnd ?_ (fun _ _ => ?_) | split)
theorem nine_rank {O : EP} (hE : NE O) (r : Int) : ∀ (m : Nat) (x : ExT) {s : Ps}, Nine s → Nn (rankL O r m x s)
 | 0, x, s, h => .pure h _
 | m + 1, x, s, h => by
  rw [rank_eq]
  split
  ·rename_i hi
   have hb : (bndP (O (nextP s)) fun y s1 => rankL O r m (.mk 6 s.w.text 0 noT [] [x, y]) s1) = bndP ((), nextP s) fun _ s0 => bndP (O s0) fun y s1 => rankL O r m (.mk 6 s.w.text 0 noT [] [x, y]) s1 := rfl
   rw [hb]
   refine .bndP (nine_next h (by omega) _) (fun _ _ => ?_) fun _ s1 h1 => .bndP (hE.go h1) (fun _ _ => ?_) fun _ s2 h2 => nine_rank hE r m _ h2
   ·repeat' (first | exact Dn.refl _ | exact dn_want _ _ | exact dn_fail _ _ | exact dn_next _ | exact (got_all _ _).1 | exact dn_name rfl | exact hE.dn _ | exact dn_list hE.dn _ _ _ rfl | exact dn_listP hE.dn rfl | exact dn_fld hE.dn _ rfl | exact dn_pst hE.dn _ rfl | exact dn_up _ rfl | exact dn_base rfl | exact dn_typ rfl | exact dn_rank hE.dn _ _ rfl | exact dn_sgn _ rfl | exact dn_prim hE.dn rfl | refine dn_bnd ?_ (fun _ _ => ?_) | split)
   ·repeat' (first | exact Dn.refl _ | exact dn_want _ _ | exact dn_fail _ _ | exact dn_next _ | exact (got_all _ _).1 | exact dn_name rfl | exact hE.dn _ | exact dn_list hE.dn _ _ _ rfl | exact dn_listP hE.dn rfl | exact dn_fld hE.dn _ rfl | exact dn_pst hE.dn _ rfl | exact dn_up _ rfl | exact dn_base rfl | exact dn_typ rfl | exact dn_rank hE.dn _ _ rfl | exact dn_sgn _ rfl | exact dn_prim hE.dn rfl | refine dn_bnd ?_ (fun _ _ => ?_) | split)
  ·exact .pure h _
theorem nine_climb {O : EP} (hO : NE O) (m : Nat) : ∀ k : Nat, NE (climbP O m k)
 | 0 => hO
 | k + 1 => by
  have hE := nine_climb hO m k
  refine ⟨dn_climb hO.dn m (k + 1), fun {s} h => ?_⟩
  rw [climb_eq]
  split
  ·exact hO.go h
  ·refine .bndP (hE.go h) (fun _ _ => ?_) fun _ s1 h1 => nine_rank hE _ m _ h1
   repeat' (first | exact Dn.refl _ | exact dn_want _ _ | exact dn_fail _ _ | exact dn_next _ | exact (got_all _ _).1 | exact dn_name rfl | exact hE.dn _ | exact dn_list hE.dn _ _ _ rfl | exact dn_listP hE.dn rfl | exact dn_fld hE.dn _ rfl | exact dn_pst hE.dn _ rfl | exact dn_up _ rfl | exact dn_base rfl | exact dn_typ rfl | exact dn_rank hE.dn _ _ rfl | exact dn_sgn _ rfl | exact dn_prim hE.dn rfl | refine dn_bnd ?_ (fun _ _ => ?_) | split)
theorem nine_expr : ∀ n : Nat, NE (exprF true n)
 | 0 => ⟨fun s => .refl s, fun h => .pure h _⟩
 | n + 1 => nine_climb (nine_oper (nine_expr n) (n + 1)) (n + 1) 5
abbrev LP : Wd := (3, [40], 0)
abbrev RP : Wd := (3, [41], 0)
structure At (s : Ps) (l : List Wd) : Prop where
 e : s.e = 0
 ws : s.ws.map strip = l
theorem At.w {s : Ps} {x : Wd} {l : List Wd} (h : At s (x :: l)) : strip s.w = x := by
 obtain ⟨w, r, e1, e2, _⟩ := List.map_eq_cons_iff.1 h.ws
 unfold Ps.w
 rw [e1]
 exact e2
theorem At.kind {s : Ps} {x : Wd} {l : List Wd} (h : At s (x :: l)) : s.w.kind = x.1 ∧ s.w.text = x.2.1 := ⟨congrArg Prod.fst h.w, congrArg (fun x : Wd => x.2.1) h.w⟩
theorem At.next {s : Ps} {x y : Wd} {l : List Wd} (h : At s (x :: y :: l)) (hy : y.1 ≠ 9) : At (nextP s) (y :: l) := by
 obtain ⟨w, r, e1, e2, e3⟩ := List.map_eq_cons_iff.1 h.ws
 obtain ⟨w2, r2, g1, g2, g3⟩ := List.map_eq_cons_iff.1 e3
 obtain ⟨a, e, o, b⟩ := s
 obtain rfl : e = 0 := h.e
 obtain rfl : a = w :: r := e1
 rw [next_step (by rw [g1]; intro h9; exact hy (by rw [← g2]; exact h9))]
 exact ⟨rfl, e3⟩
theorem At.take {s : Ps} {x y : Wd} {l : List Wd} (h : At s (x :: y :: l)) (hy : y.1 ≠ 9) (T : List UInt8) : At (nextP (bumpP s T)) (y :: l) ∨ (nextP (bumpP s T)).e = 51 := by
 rcases bump_ways h.e T with ⟨o, h1⟩ | h1
 ·rw [h1]
  exact .inl (At.next (s := ⟨s.ws, 0, o, s.h⟩) ⟨rfl, h.ws⟩ hy)
 ·exact .inr (by rw [next_off (by omega)]; exact h1)
theorem At.is {s : Ps} {x : Wd} {l : List Wd} (h : At s (x :: l)) (T : List UInt8) : isP s T = ((decide (x.1 = 3) || decide (x.1 = 4)) && decide (x.2.1 = T)) := by
 unfold isP
 rw [h.e, h.kind.1, h.kind.2]
 simp
theorem next_h (s : Ps) : (nextP s).h = s.h := by
 unfold nextP
 split
 ·split <;> rfl
 ·rfl
theorem bump_h (s : Ps) (T : List UInt8) : (bumpP s T).h = s.h := by
 unfold bumpP failP
 split
 ·split
  ·split <;> rfl
  ·rfl
 ·split <;> rfl
theorem climb_id {O : EP} {m : Nat} {t t3 : Ps} {x : ExT} (h : O t = (x, t3)) (h3 : ¬ t3.e = 0 ∨ ¬ (t3.w.kind = 3 ∧ 1 ≤ rankS t3.w.text)) : ∀ k : Nat, k ≤ 5 → climbP O m k t = (x, t3)
 | 0, _ => h
 | k + 1, hk => by
  rw [climb_eq]
  split
  ·exact h
  ·unfold Proofs.YtnnnhlkmdnacaaaGreatDoor.bndP
   rw [climb_id h h3 k (by omega)]
   cases m with
   | zero => rfl
   | succ m =>
    show rankL (climbP O (m + 1) k) (5 - (k : Int)) (m + 1) x t3 = (x, t3)
    rw [rank_eq, if_neg]
    rintro ⟨h1, h2, h4⟩
    rcases h3 with h | h
    ·exact h h1
    ·exact h ⟨h2, by omega⟩
theorem sgn_paren {t : Ps} {l : List Wd} (ht : At t (LP :: l)) : ∀ m : Nat, sgnL m t = ([], t)
 | 0 => rfl
 | m + 1 => by
  rw [sgn_eq, ht.is, ht.is]
  rfl
theorem oper_paren {E : EP} {m : Nat} {t : Ps} {l : List Wd} (ht : At t (LP :: l)) : operP true E m t = bndP (E (nextP (bumpP t [40]))) fun x s2 => bndP (pstL E m x (wantP s2 [41])) fun y s3 => (y, s3) := by
 rw [oper_eq, sgn_paren ht]
 have hk := ht.kind
 have hp : primP true E m t = bndP (E (nextP (bumpP t [40]))) fun x s2 => (x, wantP s2 [41]) := by
  have hkey : keyB t = false := by
   unfold keyB
   rw [ht.is, ht.is, ht.is, ht.is, hk.1]
   rfl
  rw [prim_eq, if_neg (show ¬ ¬ t.e = 0 by rw [ht.e]; simp), if_neg (by rw [hk.1]; decide), if_neg (by rw [hk.1]; decide), if_neg (by rw [hkey]; decide)]
  unfold primQ gotP
  rw [ht.is]
  rfl
 unfold Proofs.YtnnnhlkmdnacaaaGreatDoor.bndP
 dsimp only
 rw [hp]
 rfl
theorem head_ok (k : Nat) (init : List Wd) (hi : ∀ y ∈ init, y.1 ≠ 0 ∧ y.1 ≠ 9) (r : List Wd) : ∃ y l, List.replicate k LP ++ init ++ (List.replicate k RP ++ RP :: r) = y :: l ∧ y.1 ≠ 9 := by
 cases k with
 | zero =>
  cases init with
  | nil => exact ⟨RP, r, rfl, by decide⟩
  | cons y l => exact ⟨y, _, rfl, (hi y List.mem_cons_self).2⟩
 | succ k => exact ⟨LP, _, rfl, by decide⟩
theorem At.end_pst {E : EP} {c : Wd} {tl : List Wd} (hc : Cl c) {s : Ps} (h : At s (c :: tl)) (x : ExT) (m : Nat) : pstL E m x s = (x, s) := by
 cases m with
 | zero => rfl
 | succ m =>
  have n1 : isP s [46] = false := by rw [h.is, decide_eq_false (show ¬ c.2.1 = [46] from fun e => hc.ne (T := [46]) (by decide) e.symm), Bool.and_false]
  have n2 : isP s [91] = false := by rw [h.is, decide_eq_false (show ¬ c.2.1 = [91] from fun e => hc.ne (T := [91]) (by decide) e.symm), Bool.and_false]
  rw [pst_eq, if_neg (show ¬ ¬ s.e = 0 by rw [h.e]; simp)]
  have g1 : gotP s [46] = (false, s) := by unfold gotP; rw [n1]; rfl
  have g2 : gotP s [91] = (false, s) := by unfold gotP; rw [n2]; rfl
  unfold Proofs.YtnnnhlkmdnacaaaGreatDoor.bndP
  rw [g1]
  simp only [Bool.false_eq_true, if_false, g2]
theorem Cl.rank {c : Wd} (hc : Cl c) : rankS c.2.1 = 0 := by
 rcases hc.t with e | e | e <;> rw [e] <;> decide
theorem rp_cl : Cl RP := ⟨by decide, .inl rfl⟩
theorem paren_ok {n : Nat} {s s1 : Ps} {init : List Wd} {x : ExT} (hs : At s (init ++ [(0, [], 0)])) (hi : ∀ y ∈ init, y.1 ≠ 0 ∧ y.1 ≠ 9) (hm : mu s < n) (hx : exprF true n s = (x, s1)) (h1 : s1.e = 0) (hk : s1.w.kind = 0) :
 ∀ (k : Nat) (c : Wd) (tl : List Wd), Cl c → ∀ t : Ps, t.h = s.h → At t (List.replicate k LP ++ init ++ (List.replicate k RP ++ c :: tl)) →
  (exprF true (n + k) t).2.e = 51 ∨ ((exprF true (n + k) t).1 = x ∧ At (exprF true (n + k) t).2 (c :: tl))
 | 0, c, tl, hc, t, hh, ht => by
  have hsim : Sim c tl s t := ⟨hs.e, ht.e, hh, init, hs.ws, ht.ws, hi⟩
  have hr := (se_expr (tl := tl) hc n).go hsim hm
  rw [hx] at hr
  rcases hr h1 with ⟨e, h⟩ | h
  ·refine .inr ⟨e, h.te, ?_⟩
   obtain ⟨i2, g1, g2, g3⟩ := h.ws
   cases i2 with
   | nil => exact g2
   | cons y l =>
    obtain ⟨w, r, f1, f2, _⟩ := List.map_eq_cons_iff.1 g1
    refine absurd ?_ (g3 y List.mem_cons_self).1
    rw [← f2]
    have : s1.w = w := by unfold Ps.w; rw [f1]; rfl
    rw [← this]
    exact hk
  ·exact .inl h
 | k + 1, c, tl, hc, t, hh, ht => by
  have ht' : At t (LP :: (List.replicate k LP ++ init ++ (List.replicate k RP ++ RP :: c :: tl))) := by
   refine ⟨ht.e, ht.ws.trans ?_⟩
   rw [List.replicate_succ, List.replicate_succ' (n := k) (a := RP)]
   simp
  obtain ⟨y, l, hl, hy⟩ := head_ok k init hi (c :: tl)
  have hop := oper_paren (E := exprF true (n + k)) (m := n + k + 1) ht'
  rw [hl] at ht'
  have hdn : ∀ q : Ps, Dn q (bndP (exprF true (n + k) q) fun x s2 => bndP (pstL (exprF true (n + k)) (n + k + 1) x (wantP s2 [41])) fun y s3 => (y, s3)).2 := fun q => by
   refine dn_bnd (dn_expr true (n + k) q) fun x s2 => ?_
   exact (dn_want s2 [41]).trans (show Dn (wantP s2 [41]) (pstL (exprF true (n + k)) (n + k + 1) x (wantP s2 [41])).2 from dn_pst (dn_expr true (n + k)) _ rfl)
  have hdead : ∀ q : Ps, operP true (exprF true (n + k)) (n + k + 1) t = (bndP (exprF true (n + k) q) fun x s2 => bndP (pstL (exprF true (n + k)) (n + k + 1) x (wantP s2 [41])) fun y s3 => (y, s3)) → (operP true (exprF true (n + k)) (n + k + 1) t).2.e = 51 → (exprF true (n + (k + 1)) t).2.e = 51 := fun q _ h51 => by
   have := climb_id (m := n + k + 1) (t := t) (O := operP true (exprF true (n + k)) (n + k + 1)) (x := (operP true (exprF true (n + k)) (n + k + 1) t).1) (t3 := (operP true (exprF true (n + k)) (n + k + 1) t).2) rfl (.inl (by omega)) 5 (Nat.le_refl _)
   show (climbP (operP true (exprF true (n + k)) (n + k + 1)) (n + k + 1) 5 t).2.e = 51
   rw [this]
   exact h51
  rcases ht'.take hy [40] with ha | ha
  ·rw [← hl] at ha
   have ih := paren_ok hs hi hm hx h1 hk k RP (c :: tl) rp_cl (nextP (bumpP t [40])) (by rw [next_h, bump_h, hh]) ha
   rcases ih with h51 | ⟨hx2, h2⟩
   ·refine .inl (hdead _ hop ?_)
    rw [hop]
    show (pstL (exprF true (n + k)) (n + k + 1) _ (wantP (exprF true (n + k) (nextP (bumpP t [40]))).2 [41])).2.e = 51
    exact ((dn_want _ [41]).trans (show Dn _ (pstL (exprF true (n + k)) (n + k + 1) _ _).2 from dn_pst (dn_expr true (n + k)) _ rfl)).bad h51
   ·have hw : wantP (exprF true (n + k) (nextP (bumpP t [40]))).2 [41] = nextP (bumpP (exprF true (n + k) (nextP (bumpP t [40]))).2 [41]) := by
     rw [want_eq, h2.is]
     rfl
    rcases h2.take (T := [41]) hc.k with h3 | h3
    ·right
     have hfin : operP true (exprF true (n + k)) (n + k + 1) t = (x, wantP (exprF true (n + k) (nextP (bumpP t [40]))).2 [41]) := by
      rw [hop]
      unfold Proofs.YtnnnhlkmdnacaaaGreatDoor.bndP
      dsimp only
      rw [hx2, hw, h3.end_pst hc]
     rw [hw] at hfin
     have := climb_id (m := n + k + 1) hfin (.inr (by rw [h3.kind.2, hc.rank]; omega)) 5 (Nat.le_refl _)
     have he : exprF true (n + (k + 1)) t = climbP (operP true (exprF true (n + k)) (n + k + 1)) (n + k + 1) 5 t := rfl
     rw [he, this]
     exact ⟨rfl, h3⟩
    ·refine .inl (hdead _ hop ?_)
     rw [hop]
     show (pstL (exprF true (n + k)) (n + k + 1) _ (wantP (exprF true (n + k) (nextP (bumpP t [40]))).2 [41])).2.e = 51
     rw [hw]
     exact (show Dn _ (pstL (exprF true (n + k)) (n + k + 1) _ _).2 from dn_pst (dn_expr true (n + k)) _ rfl).bad h3
  ·refine .inl (hdead _ hop ?_)
   rw [hop]
   exact (hdn _).bad ha
def bumpN (T : List UInt8) (o : Int) : Option Int := if opnB T = true then (if 100 < IntKind.i64.wrap (o + 1) then none else some (IntKind.i64.wrap (o + 1))) else if clsB T = true then some (IntKind.i64.wrap (o - 1)) else some o
theorem bump_N {s : Ps} (he : s.e = 0) {T : List UInt8} {o : Int} (ho : bumpN T s.o = some o) : bumpP s T = ⟨s.ws, 0, o, s.h⟩ := by
 obtain ⟨a, e, q, b⟩ := s
 obtain rfl : e = 0 := he
 unfold bumpN at ho
 unfold bumpP
 split
 ·rename_i h
  rw [if_pos h] at ho
  split
  ·rename_i h2
   rw [if_pos h2] at ho
   cases ho
  ·rename_i h2
   rw [if_neg h2] at ho
   cases ho
   rfl
 ·rename_i h
  rw [if_neg h] at ho
  split
  ·rename_i h2
   rw [if_pos h2] at ho
   cases ho
   rfl
  ·rename_i h2
   rw [if_neg h2] at ho
   cases ho
   rfl
structure AtO (s : Ps) (l : List Wd) (o : Int) : Prop where
 at' : At s l
 h : s.h = false
 o : s.o = o
section
variable {s : Ps} {x y : Wd} {l : List Wd} {o : Int}
theorem AtO.next (h : AtO s (x :: y :: l) o) (hy : y.1 ≠ 9) : AtO (nextP s) (y :: l) o := by
 refine ⟨h.at'.next hy, by rw [next_h, h.h], ?_⟩
 rw [← h.o]
 unfold nextP
 split
 ·split <;> rfl
 ·rfl
theorem AtO.yes (h : AtO s (x :: y :: l) o) (hy : y.1 ≠ 9) {T : List UInt8} (hT : ((decide (x.1 = 3) || decide (x.1 = 4)) && decide (x.2.1 = T)) = true) {o' : Int} (ho : bumpN T o = some o') : ∃ s', gotP s T = (true, s') ∧ wantP s T = s' ∧ AtO s' (y :: l) o' := by
 have hi : isP s T = true := by rw [h.at'.is]; exact hT
 have hb := bump_N h.at'.e (T := T) (by rw [h.o]; exact ho)
 refine ⟨nextP (bumpP s T), ?_, ?_, ?_⟩
 ·unfold gotP
  rw [if_pos hi]
 ·rw [want_eq, if_pos hi]
 ·rw [hb]
  exact AtO.next (s := ⟨s.ws, 0, o', s.h⟩) ⟨⟨rfl, h.at'.ws⟩, h.h, rfl⟩ hy
theorem AtO.no (h : AtO s (x :: l) o) {T : List UInt8} (hT : ((decide (x.1 = 3) || decide (x.1 = 4)) && decide (x.2.1 = T)) = false) : gotP s T = (false, s) := by
 unfold gotP
 rw [h.at'.is, hT]
 rfl
theorem AtO.name {t : List UInt8} {i : Nat} (h : AtO s ((1, t, i) :: y :: l) o) (hy : y.1 ≠ 9) : ∃ s', nameP s = (t, s') ∧ AtO s' (y :: l) o := by
 refine ⟨nextP s, ?_, h.next hy⟩
 unfold nameP
 rw [if_pos ⟨h.at'.e, h.at'.kind.1⟩, h.at'.kind.2]
end
def retP (x : ExT) : PrT := ⟨[], [⟨[102], [], [.mk 1 [] []], [.mk 6 [] noT [] [x] [] [] []]⟩]⟩
theorem ret_ok {n : Nat} {s s1 : Ps} {init : List Wd} {x : ExT} (hs : At s (init ++ [(0, [], 0)])) (hsh : s.h = false) (hi : ∀ y ∈ init, y.1 ≠ 0 ∧ y.1 ≠ 9) (hm : mu s < n) (hx : exprF true n s = (x, s1)) (h1 : s1.e = 0) (hk : s1.w.kind = 0)
 {t : Ps} (ht : AtO t (preW ++ (init ++ [(3, [125], 0), (0, [], 0)])) 0) : (progP true n t).2.e = 51 ∨ ((progP true n t).1 = retP x ∧ At (progP true n t).2 [(0, [], 0)]) := by
 obtain ⟨j, rfl⟩ : ∃ j, n = j + 1 := ⟨n - 1, by omega⟩
 obtain ⟨y, l, hl, hy⟩ : ∃ y l, init ++ [((3, [125], 0) : Wd), (0, [], 0)] = y :: l ∧ y.1 ≠ 9 := by
  cases init with
  | nil => exact ⟨_, _, rfl, by decide⟩
  | cons y l => exact ⟨y, _, rfl, (hi y List.mem_cons_self).2⟩
 rw [hl] at ht
 obtain ⟨a1, _, g1, A1⟩ := ht.yes (T := [112, 97, 99, 107, 97, 103, 101]) (by decide) (by decide) (o' := 0) (by decide)
 obtain ⟨a2, g2, A2⟩ := A1.name (by decide)
 have n2 := A2.no (T := [116, 121, 112, 101]) (by decide)
 obtain ⟨a3, g3, _, A3⟩ := A2.yes (T := [102, 117, 110, 99]) (by decide) (by decide) (o' := 0) (by decide)
 obtain ⟨a4, g4, A4⟩ := A3.name (by decide)
 obtain ⟨a5, _, g5, A5⟩ := A4.yes (T := [40]) (by decide) (by decide) (o' := 1) (by decide)
 have i5 : isP a5 [41] = true := by rw [A5.at'.is]; decide
 obtain ⟨a6, _, g6, A6⟩ := A5.yes (T := [41]) (by decide) (by decide) (o' := 0) (by decide)
 obtain ⟨a7, _, g7, A7⟩ := A6.yes (T := [40]) (by decide) (by decide) (o' := 1) (by decide)
 have n7 := A7.no (T := [91]) (by decide)
 have i7 : isP a7 [98, 111, 111, 108] = true := by rw [A7.at'.is]; decide
 have A8 := A7.next (by decide)
 have t7 : a7.w.text = [98, 111, 111, 108] := A7.at'.kind.2
 have htyp : typeL (j + 1) (j + 1) a7 = ([.mk 1 [] []], nextP a7) := by
  have h1 : typP (j + 1) a7 = (.mk 1 [] [], nextP a7) := by
   unfold typP upP
   rw [n7]
   dsimp only
   unfold baseP
   rw [t7, if_pos ⟨by decide, i7⟩]
   rfl
  unfold typeL
  rw [h1]
  dsimp only
  rw [A8.no (T := [44]) (by decide)]
 obtain ⟨a9, _, g9, A9⟩ := A8.yes (T := [41]) (by decide) (by decide) (o' := 0) (by decide)
 obtain ⟨aA, _, gA, AA⟩ := A9.yes (T := [123]) (by decide) (by decide) (o' := 1) (by decide)
 obtain ⟨aB, gB, _, AB⟩ := AA.yes (T := [114, 101, 116, 117, 114, 110]) hy (by decide) (o' := 1) (by decide)
 rw [← hl] at AB
 have hE := paren_ok hs hi hm hx h1 hk 0 (3, [125], 0) [(0, [], 0)] ⟨by decide, .inr (.inl rfl)⟩ aB (by rw [AB.h, hsh]) AB.at'
 obtain ⟨⟨x', s12⟩, hr⟩ : ∃ r, exprF true (j + 1) aB = r := ⟨_, rfl⟩
 rw [Nat.add_zero, hr] at hE
 dsimp only at hE
 have f1 : gotP s12 [44] = (false, s12) := by
  rcases hE with h | ⟨_, h⟩
  ·unfold gotP isP
   rw [h]
   rfl
  ·unfold gotP
   rw [h.is]
   rfl
 have f2 : ∀ m, stmtsL (stmtF true (j + 1)) m s12 = ([], s12) := fun m => by
  cases m with
  | zero => rfl
  | succ m =>
   unfold stmtsL
   rw [if_neg]
   rintro ⟨e, h2, _⟩
   rcases hE with h | ⟨_, h⟩
   ·omega
   ·rw [h.is] at h2
    exact absurd h2 (by decide)
 have hst : stmtF true (j + 1) aA = (.mk 6 [] noT [] [x'] [] [] [], s12) := by
  show stmtP (exprF true (j + 1)) (stmtF true j) (j + 1) aA = _
  unfold stmtP
  rw [AA.no (T := [118, 97, 114]) (by decide), AA.no (T := [105, 102]) (by decide), AA.no (T := [102, 111, 114]) (by decide), AA.no (T := [115, 119, 105, 116, 99, 104]) (by decide), gB]
  dsimp only
  unfold valsP
  rw [hr]
  dsimp only
  rw [f1]
 have hbl : blockP (stmtF true (j + 1)) (j + 1) a9 = ([.mk 6 [] noT [] [x'] [] [] []], wantP s12 [125]) := by
  unfold blockP
  rw [gA]
  unfold stmtsL
  rw [if_pos ⟨AA.at'.e, by rw [AA.at'.is]; decide, by rw [AA.at'.is]; decide, by rw [AA.at'.is]; decide⟩, hst]
  dsimp only
  rw [f2]
 have hfn : funcP (stmtF true (j + 1)) (j + 1) a3 = (⟨[102], [], [.mk 1 [] []], [.mk 6 [] noT [] [x'] [] [] []]⟩, wantP s12 [125]) := by
  unfold funcP
  rw [g4]
  dsimp only
  rw [g5, if_pos i5]
  dsimp only
  rw [g6, g7, htyp]
  dsimp only
  rw [g9, hbl]
 have f3 : ∀ m p, declL (stmtF true (j + 1)) (j + 1) m (wantP s12 [125]) p = (p, wantP s12 [125]) := fun m p => by
  cases m with
  | zero => rfl
  | succ m =>
   unfold declL
   rw [if_neg]
   rintro ⟨e, h2⟩
   rcases hE with h | ⟨_, h⟩
   ·have := (dn_want s12 [125]).bad h
    omega
   ·have hw : wantP s12 [125] = nextP (bumpP s12 [125]) := by
     rw [want_eq, h.is]
     rfl
    rw [hw] at h2 e
    rcases h.take (T := [125]) (by decide) with h3 | h3
    ·exact h2 h3.kind.1
    ·omega
 have hall : progP true (j + 1) t = (retP x', wantP s12 [125]) := by
  unfold progP
  rw [g1, g2]
  dsimp only
  unfold declL
  rw [if_pos ⟨A2.at'.e, by rw [A2.at'.kind.1]; decide⟩, n2]
  dsimp only
  rw [g3]
  dsimp only
  rw [hfn]
  dsimp only
  rw [f3]
  rfl
 rw [hall]
 rcases hE with h | ⟨rfl, h⟩
 ·exact .inl ((dn_want s12 [125]).bad h)
 ·have hw : wantP s12 [125] = nextP (bumpP s12 [125]) := by
   rw [want_eq, h.is]
   rfl
  rw [hw]
  rcases h.take (T := [125]) (by decide) with h3 | h3
  ·exact .inr ⟨rfl, h3⟩
  ·exact .inl h3
end Go.Proofs.YtnnnhlkmdnacaaaGreatDoor
namespace Go.Proofs.YtnnnhlkmdnacaaaGreatDoor
open Go.RowKit Go.Av Go.Ab
set_option linter.unusedSimpArgs false
theorem wl_le {l : List UInt8} {x : Wd} (h : wl l = some x) : x.1 ≤ 4 := by
 unfold wl at h
 split at h
 ·obtain rfl := Option.some.inj h
  exact Nat.zero_le _
 ·split at h
  ·obtain rfl := Option.some.inj h
   dsimp only
   split <;> omega
  ·split at h
   ·split at h
    ·obtain rfl := Option.some.inj h
     show 2 ≤ 4
     omega
    ·cases h
   ·split at h
    ·obtain rfl := Option.some.inj h
     show 3 ≤ 4
     omega
    ·cases h
theorem words_shape : ∀ (f : Nat) (l : List UInt8), ∃ init z, wordsT f l = init ++ [z] ∧ (z = (0, [], 0) ∨ z = (9, [], 0)) ∧ ∀ x ∈ init, x.1 ≠ 0 ∧ x.1 ≠ 9
 | 0, _ => ⟨[], _, rfl, .inr rfl, by simp⟩
 | f + 1, l => by
  unfold wordsT
  split
  ·exact ⟨[], _, rfl, .inr rfl, by simp⟩
  ·rename_i x hx
   split
   ·exact ⟨[], _, rfl, .inl rfl, by simp⟩
   ·rename_i h0
    obtain ⟨init, z, h1, h2, h3⟩ := words_shape f ((skipM false l).drop x.2.1.length)
    refine ⟨x :: init, z, by rw [h1]; rfl, h2, fun y hy => ?_⟩
    rcases List.mem_cons.1 hy with rfl | hy
    ·have := wl_le hx
     exact ⟨h0, by omega⟩
    ·exact h3 y hy
theorem start_at {bs : List UInt8} {y : Wd} {l : List Wd} (hw : (wordsAt bs 0).map strip = y :: l) (hy : y.1 ≠ 9) : AtO (startS bs) (y :: l) 0 := by
 by_cases h : (takeS bs 0).2 = 0
 ·have : startS bs = ⟨wordsAt bs 0, 0, 0, false⟩ := by unfold startS; rw [if_pos h]
  rw [this]
  exact ⟨⟨rfl, hw⟩, rfl, rfl⟩
 ·rw [words0, if_neg h] at hw
  exact absurd (congrArg Prod.fst (List.cons.inj hw).1).symm hy
structure ExprT (b : List UInt8) (n : Nat) (x : ExT) : Prop where
 fin : finE n (startS b) = (x, 0)
 ok : (exS x 0 0).1 = true
 words : ∃ (s1 : Ps) (init : List Wd), exprF true n (startS b) = (x, s1) ∧ s1.e = 0 ∧ s1.w.kind = 0 ∧ At (startS b) (init ++ [(0, [], 0)]) ∧ (∀ y ∈ init, y.1 ≠ 0 ∧ y.1 ≠ 9) ∧ wordsT (b.length + 1) b = init ++ [(0, [], 0)]
theorem expr_words {b : List UInt8} {n : Nat} (h : (finE n (startS b)).2 = 0) : ∃ x, ExprT b n x := by
 obtain ⟨⟨x, s1⟩, hx⟩ : ∃ r, exprF true n (startS b) = r := ⟨_, rfl⟩
 have hfin : finE n (startS b) = if endP s1 (exS x 0 0).1 = 0 then (x, 0) else (zeroE, endP s1 (exS x 0 0).1) := by unfold finE; rw [hx]
 rw [hfin] at h
 by_cases he : endP s1 (exS x 0 0).1 = 0
 case neg =>
  rw [if_neg he] at h
  exact absurd h he
 rw [if_pos he] at hfin
 unfold endP at he
 have h1 : s1.e = 0 := by
  by_cases h1 : s1.e = 0
  ·exact h1
  ·rw [if_neg h1] at he
   exact absurd he h1
 rw [if_pos h1] at he
 have h2 : s1.w.kind = 0 ∧ (exS x 0 0).1 = true := by
  by_cases h2 : s1.w.kind = 0 ∧ (exS x 0 0).1 = true
  ·exact h2
  ·rw [if_neg h2] at he
   exact absurd he (by decide)
 have hd := dn_expr true n (startS b)
 rw [hx] at hd
 have h0 : (startS b).e = 0 := hd.zero h1
 have ht : (takeS b 0).2 = 0 := by
  by_cases ht : (takeS b 0).2 = 0
  ·exact ht
  ·unfold startS at h0
   rw [if_neg ht] at h0
   exact absurd (Int.ofNat_inj.1 h0) ht
 have hs : startS b = ⟨wordsAt b 0, 0, 0, false⟩ := by unfold startS; rw [if_pos ht]
 obtain ⟨init, z, w1, w2, w3⟩ := words_shape (b.length + 1) b
 have hw := wordsAt_T b (b.length + 1) (by omega)
 have hws : (startS b).ws.map strip = init ++ [z] := by rw [hs]; exact hw.trans w1
 rcases w2 with rfl | rfl
 ·exact ⟨x, hfin, h2.2, s1, init, hx, h1, h2.1, ⟨h0, hws⟩, w3, w1⟩
 ·have hn := (nine_expr n).go (s := startS b) ⟨init, hws, w3⟩
  rw [hx] at hn
  exact absurd h2.1 (nine_kind (hn h1))
theorem mu_start (b : List UInt8) : mu (startS b) ≤ b.length + 2 := by
 unfold mu
 split
 ·unfold startS
  split
  ·exact wordsAt_len b 0
  ·show 1 ≤ _
   omega
 ·omega
def textP (k : Nat) (b : List UInt8) : List UInt8 := List.replicate k 40 ++ (b ++ 10 :: List.replicate k 41)
theorem textP_words {b : List UInt8} {init : List Wd} (hw : wordsT (b.length + 1) b = init ++ [(0, [], 0)]) (hi : ∀ y ∈ init, y.1 ≠ 0 ∧ y.1 ≠ 9) (k : Nat) : (wordsAt (textP k b) 0).map strip = List.replicate k LP ++ init ++ (List.replicate k RP ++ [(0, [], 0)]) := by
 have h1 := words_closes k (textP k b).length
 have h2 := words_cat init _ b hw hi ((textP k b).length + k) (List.replicate k 41)
 have h3 := words_opens (b ++ 10 :: List.replicate k 41) k ((textP k b).length + k + 1 + init.length)
 rw [show (textP k b).length + k + 1 = (textP k b).length + 1 + k by omega] at h2 h3
 rw [h1] at h2
 rw [h2] at h3
 rw [wordsAt_T (textP k b) ((textP k b).length + 1 + k + init.length + k) (by omega)]
 rw [List.append_assoc]
 exact h3
theorem paren_fin {b : List UInt8} {n : Nat} {x : ExT} (h : ExprT b n x) (hn : b.length + 5 ≤ n) (k : Nat) : finE (n + k) (startS (textP k b)) = (x, 0) ∨ finE (n + k) (startS (textP k b)) = (zeroE, 51) := by
 obtain ⟨s1, init, hx, h1, hk, hat, hi, hw⟩ := h.words
 have hwp := textP_words hw hi k
 obtain ⟨y, l, hl, hy⟩ : ∃ y l, List.replicate k LP ++ init ++ (List.replicate k RP ++ [((0, [], 0) : Wd)]) = y :: l ∧ y.1 ≠ 9 := by
  cases k with
  | zero =>
   cases init with
   | nil => exact ⟨_, _, rfl, by decide⟩
   | cons y l => exact ⟨y, _, rfl, (hi y List.mem_cons_self).2⟩
  | succ k => exact ⟨LP, _, rfl, by decide⟩
 have hst := start_at (hwp.trans hl) hy
 rw [← hl] at hst
 have hsh : (startS b).h = false := by unfold startS; split <;> rfl
 have hp := paren_ok hat hi (by have := mu_start b; omega) hx h1 hk k (0, [], 0) [] ⟨by decide, .inr (.inr rfl)⟩ (startS (textP k b)) (by rw [hst.h, hsh]) hst.at'
 unfold finE
 rcases hp with h51 | ⟨hx2, hat2⟩
 ·have he : endP (exprF true (n + k) (startS (textP k b))).2 (exS (exprF true (n + k) (startS (textP k b))).1 0 0).1 = 51 := by
   unfold endP
   rw [if_neg (by omega), h51]
  rw [he]
  exact .inr rfl
 ·have he : endP (exprF true (n + k) (startS (textP k b))).2 (exS (exprF true (n + k) (startS (textP k b))).1 0 0).1 = 0 := by
   unfold endP
   rw [if_pos hat2.e, hx2, if_pos ⟨hat2.kind.1, h.ok⟩]
  rw [he, hx2]
  exact .inl rfl
def textR (b : List UInt8) : List UInt8 := preB ++ (b ++ [10, 125])
theorem textR_words {b : List UInt8} {init : List Wd} (hw : wordsT (b.length + 1) b = init ++ [(0, [], 0)]) (hi : ∀ y ∈ init, y.1 ≠ 0 ∧ y.1 ≠ 9) : (wordsAt (textR b) 0).map strip = preW ++ (init ++ [(3, [125], 0), (0, [], 0)]) := by
 have h1 := words_brace (textR b).length
 have h2 := words_cat init _ b hw hi ((textR b).length + 1) [125]
 rw [h1] at h2
 have h3 := words_pre ((textR b).length + 1 + init.length) (b ++ [10, 125])
 rw [show (textR b).length + 1 + init.length + 1 = (textR b).length + 1 + 1 + init.length by omega, h2] at h3
 rw [wordsAt_T (textR b) ((textR b).length + 1 + init.length + 12) (by omega)]
 exact h3
theorem ret_fin {b : List UInt8} {n : Nat} {x : ExT} (h : ExprT b n x) (hn : b.length + 5 ≤ n) (rg : PrT → Bool) : finP rg n (startS (textR b)) = (retP x, 0) ∨ finP rg n (startS (textR b)) = (⟨[], []⟩, 51) := by
 obtain ⟨s1, init, hx, h1, hk, hat, hi, hw⟩ := h.words
 have hst := start_at (textR_words hw hi) (by decide)
 have hsh : (startS b).h = false := by unfold startS; split <;> rfl
 have hp := ret_ok hat hsh hi (by have := mu_start b; omega) hx h1 hk hst
 unfold finP
 rcases hp with h51 | ⟨hx2, hat2⟩
 ·have he : endP (progP true n (startS (textR b))).2 (rg (progP true n (startS (textR b))).1) = 51 := by
   unfold endP
   rw [if_neg (by omega), h51]
  rw [he]
  exact .inr rfl
 ·have he : endP (progP true n (startS (textR b))).2 (rg (progP true n (startS (textR b))).1) = if rg (retP x) = true then 0 else 51 := by
   unfold endP
   rw [if_pos hat2.e, hx2]
   by_cases hr : rg (retP x) = true
   ·rw [if_pos ⟨hat2.kind.1, hr⟩, if_pos hr]
   ·rw [if_neg (fun h => hr h.2), if_neg hr]
  rw [he, hx2]
  by_cases hr : rg (retP x) = true
  ·rw [if_pos hr]
   exact .inl rfl
  ·rw [if_neg hr]
   exact .inr rfl
end Go.Proofs.YtnnnhlkmdnacaaaGreatDoor
namespace Go.Proofs
open Go.Shelf
def Tryz.lays105_ren : Go.Shelf.Ren := ⟨fun | 105 => 12 | 212 => 41 | 99 => 42 | 165 => 43 | 166 => 44 | 170 => 45 | 169 => 46 | 263 => 72 | 264 => 73 | 206 => 74 | 240 => 75 | 241 => 76 | 276 => 98 | 277 => 99 | n => n, fun | 9 => 9 | 3 => 3 | 4 => 4 | 20 => 20 | 0 => 0 | 46 => 88 | 109 => 89 | 5 => 5 | 72 => 94 | 76 => 98 | 51 => 121 | 146 => 122 | 53 => 36 | 148 => 124 | 70 => 92 | 37 => 22 | 75 => 97 | 127 => 126 | 164 => 144 | 80 => 60 | n => n, fun | n => n⟩
theorem Tryz.lays105 : Go.Proofs.Lays.n105 Tryz.prog Tryz.lays105_ren := {
 mixed := by kernel_rfl
 f99 := Tryz.func42.trans (congrArg some (by kernel_rfl))
 f105 := Tryz.func12.trans (congrArg some (by kernel_rfl))
 f165 := Tryz.func43.trans (congrArg some (by kernel_rfl))
 f166 := Tryz.func44.trans (congrArg some (by kernel_rfl))
 f169 := Tryz.func46.trans (congrArg some (by kernel_rfl))
 f170 := Tryz.func45.trans (congrArg some (by kernel_rfl))
 f206 := Tryz.func74.trans (congrArg some (by kernel_rfl))
 f212 := Tryz.func41.trans (congrArg some (by kernel_rfl))
 f240 := Tryz.func75.trans (congrArg some (by kernel_rfl))
 f241 := Tryz.func76.trans (congrArg some (by kernel_rfl))
 f263 := Tryz.func72.trans (congrArg some (by kernel_rfl))
 f264 := Tryz.func73.trans (congrArg some (by kernel_rfl))
 f276 := Tryz.func98.trans (congrArg some (by kernel_rfl))
 f277 := Tryz.func99.trans (congrArg some (by kernel_rfl))
 t0 := Tryz.underlying0
 a0 := Tryz.isAgg0
 z0 := Tryz.sizeOf0
 v0 := Tryz.zeroValue0
 t3 := Tryz.underlying3
 a3 := Tryz.isAgg3
 z3 := Tryz.sizeOf3
 v3 := Tryz.zeroValue3
 t4 := Tryz.underlying4
 a4 := Tryz.isAgg4
 z4 := Tryz.sizeOf4
 v4 := Tryz.zeroValue4
 t5 := Tryz.underlying5
 a5 := Tryz.isAgg5
 z5 := Tryz.sizeOf5
 v5 := Tryz.zeroValue5
 t9 := Tryz.underlying9
 a9 := Tryz.isAgg9
 z9 := Tryz.sizeOf9
 v9 := Tryz.zeroValue9
 t20 := Tryz.underlying20
 a20 := Tryz.isAgg20
 z20 := Tryz.sizeOf20
 v20 := Tryz.zeroValue20
 t37 := Tryz.underlying22
 a37 := Tryz.isAgg22
 z37 := Tryz.sizeOf22
 v37 := Tryz.zeroValue22
 t46 := Tryz.underlying88
 a46 := Tryz.isAgg88
 z46 := Tryz.sizeOf88
 v46 := Tryz.zeroValue88
 t51 := Tryz.underlying121
 a51 := Tryz.isAgg121
 z51 := Tryz.sizeOf121
 v51 := Tryz.zeroValue121
 t53 := Tryz.underlying36
 a53 := Tryz.isAgg36
 z53 := Tryz.sizeOf36
 v53 := Tryz.zeroValue36
 t70 := Tryz.underlying92
 a70 := Tryz.isAgg92
 z70 := Tryz.sizeOf92
 v70 := Tryz.zeroValue92
 t72 := Tryz.underlying94
 a72 := Tryz.isAgg94
 z72 := Tryz.sizeOf94
 v72 := Tryz.zeroValue94
 t75 := Tryz.underlying97
 a75 := Tryz.isAgg97
 z75 := Tryz.sizeOf97
 v75 := Tryz.zeroValue97
 t76 := Tryz.underlying98
 a76 := Tryz.isAgg98
 z76 := Tryz.sizeOf98
 v76 := Tryz.zeroValue98
 t109 := Tryz.underlying89
 a109 := Tryz.isAgg89
 z109 := Tryz.sizeOf89
 v109 := Tryz.zeroValue89
 t127 := Tryz.underlying126
 a127 := Tryz.isAgg126
 z127 := Tryz.sizeOf126
 v127 := Tryz.zeroValue126
 t146 := Tryz.underlying122
 a146 := Tryz.isAgg122
 z146 := Tryz.sizeOf122
 v146 := Tryz.zeroValue122
 t148 := Tryz.underlying124
 a148 := Tryz.isAgg124
 z148 := Tryz.sizeOf124
 v148 := Tryz.zeroValue124
 t164 := Tryz.underlying144
 a164 := Tryz.isAgg144
 z164 := Tryz.sizeOf144
 v164 := Tryz.zeroValue144 }
theorem Tryz.Builder_Extra_105 : Builder.Extra Tryz.prog Tryz.lays105_ren := {
 sizeBuilder := by kernel_rfl
 liesBuilder := by kernel_rfl
 t5 := Tryz.underlying5
 a5 := Tryz.isAgg5
 z5 := Tryz.sizeOf5
 v5 := Tryz.zeroValue5
 infoByte := by kernel_rfl
 cellsByte := by kernel_rfl
 sizeByte := by kernel_rfl
 neB5 := by decide }
end Go.Proofs
namespace Go.Proofs.YtnnnhlkmdnacaaaGreatDoor
open Go.RowKit Go.Av Go.Ab
theorem rep_list (x : UInt8) (c : Nat) : Lib.repeatL [x] c = List.replicate c x := by
 have := Lib.repeatL_replicate x 1 c
 rw [Nat.mul_one] at this
 exact this
theorem repeat_ab (x : UInt8) (c : Nat) (hc : c ≤ 1000) (S : Mem) : AFn Tryz.prog TabI 12 [.d (.str [x]), .d (.int .i64 (c : Int))] S (Same (.d (.str (List.replicate c x))) S) := by
 refine AFn.of_calls Tryz.func12 rfl (by kernel_rfl) fun cx w xs h1 h2 h3 hI => ?_
 have hv := h2 0 (by simp)
 have hv1 := h2 1 (by simp)
 obtain ⟨y, z, rfl⟩ : ∃ y z, xs = #[y, z] := ⟨xs[0]'(by simp at h1; omega), xs[1]'(by simp at h1; omega), by
  apply Array.ext
  ·simpa using h1
  ·intro j hj hj'
   have : j = 0 ∨ j = 1 := by simp at hj'; omega
   rcases this with rfl | rfl <;> rfl⟩
 simp at hv hv1
 cases hv with
 | d _ _ hv => cases hv with
  | str _ hl =>
   cases hv1 with
   | d _ _ hv1 => cases hv1 with
    | int _ _ =>
     refine (Any.strings_Repeat Tryz.lays105 Tryz.Builder_Extra_105 ⟨[x].toArray⟩ c w (by omega) (by show 1 * c ≤ _; omega)).mono ?_
     rintro e w' ⟨rfl, hb⟩
     refine ⟨_, _, rfl, ⟨rfl, rfl⟩, hb, .d _ _ ?_⟩
     have := DR.str (M := cx.M) (w := w') (List.replicate c x) (by simp; omega)
     rw [← rep_list x c] at this ⊢
     exact this
end Go.Proofs.YtnnnhlkmdnacaaaGreatDoor
namespace Go.Proofs.YtnnnhlkmdnacaaaGreatDoor
open Go.RowKit Go.Av Go.Ab
set_option linter.unusedSimpArgs false
set_option maxRecDepth 100000
set_option linter.defProp false
def c71 := by
 have c := KK_of Tryz.f71 (by conv => lhs; cbv)
 dsimp only [KK, KxP, doO, opO, List.map_cons, List.map_nil, List.toList_toArray] at c
 exact c
theorem b71 : FnIs Tryz.prog 71 Tryz.f71 32 := ⟨Tryz.func71, by kernel_rfl⟩
set_option maxHeartbeats 1000000 in
theorem equalFunc_Type (g : FuncId) (first caps : List V) (e : TyT → TyT → Bool) (a b : List TyT) (B : List (List V)) (T : List (Nat × Nat)) (hg : ∀ x ∈ a, ∀ y ∈ b, ∀ J, AFn Tryz.prog TabI g (first ++ [tyV x, tyV y] ++ caps) ⟨B ++ J, T⟩ (Same (.d (.bool (e x y))) ⟨B ++ J, T⟩)) :
 AFn Tryz.prog TabI 71 [.d (.sl (a.map tyD)), .d (.sl (b.map tyD)), .func g first caps] ⟨B, T⟩ (Same (.d (.bool (eqF e a b))) ⟨B, T⟩) := by
 obtain ⟨N, hn⟩ : ∃ N, B.length = N := ⟨_, rfl⟩
 refine b71.go 8 rfl fun hsm => ?_
 simp only [smw] at hsm
 simp only [W, seval, c71, hn]
 refine ARun.fitE fun hfe => ?_
 have hfe2 := hfe 2
 simp only [envS_get, lk_cons, lk_nil, Nat.reduceBEq, Nat.reduceAdd, Nat.reduceSub, cond_true, cond_false, hn] at hfe2
 clear hfe
 by_cases hl : a.length = b.length
 case neg =>
  have hl' : decide ((a.length : Int) = (b.length : Int)) = false := decide_eq_false (by omega)
  refine ARun.go 200 ?_
  simp only [W, seval, c71, hl', hn]
  refine ARun.ret Tryz.func71 rfl (Left.none ?_)
  rw [eqF_len e a b hl]
  exact ⟨rfl, rfl⟩
 have hl' : decide ((a.length : Int) = (b.length : Int)) = true := decide_eq_true (by omega)
 refine ARun.go 30 ?_
 simp only [W, seval, c71, hl', hn]
 refine ARun.fits fun hf => ?_
 refine ARun.loopB (fun i : Nat => (envS 32 [(1, .d (.sl (b.map tyD))), (2, .func g first caps), (15, .d (.sl (a.map tyD))), (16, .d (.int .i64 a.length)), (17, .d (.int .i64 i))], ⟨B, T⟩)) (fun i => i ≤ a.length ∧ eqF e a b = eqF e (a.drop i) (b.drop i)) (fun i => a.length - i) 0 ⟨by omega, rfl⟩ ?_ rfl ?_
 ·skip
  refine Agree.env _ ?_
  simp only [agw, seval, hn]
 rintro i ⟨h1, h2⟩ ih
 dsimp only at h1 h2 ih ⊢
 by_cases hlt : i < a.length
 ·have hw := wrap_in ((i : Int) + 1) (by omega)
  have hltb : i < b.length := by omega
  have hga := List.getElem?_eq_getElem hlt
  have hgb := List.getElem?_eq_getElem hltb
  have hlt' : decide ((i : Int) < (a.length : Int)) = true := decide_eq_true (by omega)
  rw [eqF_step e a b i hlt hltb] at h2
  have hgx := hg a[i] (List.getElem_mem hlt) b[i] (List.getElem_mem hltb)
  obtain ⟨x, hx⟩ : ∃ x, a[i] = x := ⟨_, rfl⟩
  obtain ⟨y, hy⟩ : ∃ y, b[i] = y := ⟨_, rfl⟩
  rw [hx] at hga h2 hgx
  rw [hy] at hgb h2 hgx
  refine ARun.go 200 ?_
  simp only [W, seval, c71, hn, List.getElem?_map, hga, hgb, hlt', tyD_eq]
  refine callS_of (hgx _) ?_
  rintro _ _ ⟨rfl, rfl⟩
  refine ARun.go 200 ?_
  simp only [W, seval, c71, hn]
  cases he : e x y
  ·simp only [W, seval, c71, hn, he]
   refine ARun.ret Tryz.func71 rfl (Left.box ?_)
   rw [h2, he]
   exact ⟨rfl, rfl⟩
  ·simp only [W, seval, c71, hn, he, hw]
   rw [he, Bool.true_and] at h2
   refine ih (i + 1) ⟨hlt, h2⟩ (by omega) _ _ _ _ rfl ⟨by omega, Nat.le_refl _⟩ hf ?_
   refine AgreeF.env _ ?_
   simp only [agf, seval, hn]
   exact hfe2
 ·have hlt' : decide ((i : Int) < (a.length : Int)) = false := decide_eq_false (by omega)
  refine ARun.go 200 ?_
  simp only [W, seval, c71, hn, hlt']
  refine ARun.ret Tryz.func71 rfl (Left.none ?_)
  rw [h2, eqF_end e a b i (by omega) (by omega)]
  exact ⟨rfl, rfl⟩
def c40 := by
 have c := KK_of Tryz.f40 (by conv => lhs; cbv)
 dsimp only [KK, KxP, doO, opO, List.map_cons, List.map_nil, List.toList_toArray] at c
 exact c
theorem b40 : FnIs Tryz.prog 40 Tryz.f40 32 := ⟨Tryz.func40, by kernel_rfl⟩
set_option maxHeartbeats 1000000 in
theorem equalFunc_Expr (g : FuncId) (first caps : List V) (e : ExT → ExT → Bool) (a b : List ExT) (B : List (List V)) (T : List (Nat × Nat)) (hg : ∀ x ∈ a, ∀ y ∈ b, ∀ J, AFn Tryz.prog TabI g (first ++ [exV x, exV y] ++ caps) ⟨B ++ J, T⟩ (Same (.d (.bool (e x y))) ⟨B ++ J, T⟩)) :
 AFn Tryz.prog TabI 40 [.d (.sl (a.map exD)), .d (.sl (b.map exD)), .func g first caps] ⟨B, T⟩ (Same (.d (.bool (eqF e a b))) ⟨B, T⟩) := by
 obtain ⟨N, hn⟩ : ∃ N, B.length = N := ⟨_, rfl⟩
 refine b40.go 8 rfl fun hsm => ?_
 simp only [smw] at hsm
 simp only [W, seval, c40, hn]
 refine ARun.fitE fun hfe => ?_
 have hfe2 := hfe 2
 simp only [envS_get, lk_cons, lk_nil, Nat.reduceBEq, Nat.reduceAdd, Nat.reduceSub, cond_true, cond_false, hn] at hfe2
 clear hfe
 by_cases hl : a.length = b.length
 case neg =>
  have hl' : decide ((a.length : Int) = (b.length : Int)) = false := decide_eq_false (by omega)
  refine ARun.go 200 ?_
  simp only [W, seval, c40, hl', hn]
  refine ARun.ret Tryz.func40 rfl (Left.none ?_)
  rw [eqF_len e a b hl]
  exact ⟨rfl, rfl⟩
 have hl' : decide ((a.length : Int) = (b.length : Int)) = true := decide_eq_true (by omega)
 refine ARun.go 30 ?_
 simp only [W, seval, c40, hl', hn]
 refine ARun.fits fun hf => ?_
 refine ARun.loopB (fun i : Nat => (envS 32 [(1, .d (.sl (b.map exD))), (2, .func g first caps), (15, .d (.sl (a.map exD))), (16, .d (.int .i64 a.length)), (17, .d (.int .i64 i))], ⟨B, T⟩)) (fun i => i ≤ a.length ∧ eqF e a b = eqF e (a.drop i) (b.drop i)) (fun i => a.length - i) 0 ⟨by omega, rfl⟩ ?_ rfl ?_
 ·skip
  refine Agree.env _ ?_
  simp only [agw, seval, hn]
 rintro i ⟨h1, h2⟩ ih
 dsimp only at h1 h2 ih ⊢
 by_cases hlt : i < a.length
 ·have hw := wrap_in ((i : Int) + 1) (by omega)
  have hltb : i < b.length := by omega
  have hga := List.getElem?_eq_getElem hlt
  have hgb := List.getElem?_eq_getElem hltb
  have hlt' : decide ((i : Int) < (a.length : Int)) = true := decide_eq_true (by omega)
  rw [eqF_step e a b i hlt hltb] at h2
  have hgx := hg a[i] (List.getElem_mem hlt) b[i] (List.getElem_mem hltb)
  obtain ⟨x, hx⟩ : ∃ x, a[i] = x := ⟨_, rfl⟩
  obtain ⟨y, hy⟩ : ∃ y, b[i] = y := ⟨_, rfl⟩
  rw [hx] at hga h2 hgx
  rw [hy] at hgb h2 hgx
  refine ARun.go 200 ?_
  simp only [W, seval, c40, hn, List.getElem?_map, hga, hgb, hlt', exD_eq]
  refine callS_of (hgx _) ?_
  rintro _ _ ⟨rfl, rfl⟩
  refine ARun.go 200 ?_
  simp only [W, seval, c40, hn]
  cases he : e x y
  ·simp only [W, seval, c40, hn, he]
   refine ARun.ret Tryz.func40 rfl (Left.box ?_)
   rw [h2, he]
   exact ⟨rfl, rfl⟩
  ·simp only [W, seval, c40, hn, he, hw]
   rw [he, Bool.true_and] at h2
   refine ih (i + 1) ⟨hlt, h2⟩ (by omega) _ _ _ _ rfl ⟨by omega, Nat.le_refl _⟩ hf ?_
   refine AgreeF.env _ ?_
   simp only [agf, seval, hn]
   exact hfe2
 ·have hlt' : decide ((i : Int) < (a.length : Int)) = false := decide_eq_false (by omega)
  refine ARun.go 200 ?_
  simp only [W, seval, c40, hn, hlt']
  refine ARun.ret Tryz.func40 rfl (Left.none ?_)
  rw [h2, eqF_end e a b i (by omega) (by omega)]
  exact ⟨rfl, rfl⟩
mutual
def eqT : TyT → TyT → Bool
 | .mk k n es, .mk k' n' es' => decide (k = k') && (decide (n = n') && eqTs es es')
def eqTs : List TyT → List TyT → Bool
 | [], [] => true
 | t :: a, u :: b => eqT t u && eqTs a b
 | [], _ :: _ => false
 | _ :: _, [] => false
end
mutual
def eqE : ExT → ExT → Bool
 | .mk k t i ty ns ks, .mk k' t' i' ty' ns' ks' => decide (k = k') && (decide (t = t') && (decide (i = i') && (eqT ty ty' && (decide (ns = ns') && eqEs ks ks'))))
def eqEs : List ExT → List ExT → Bool
 | [], [] => true
 | t :: a, u :: b => eqE t u && eqEs a b
 | [], _ :: _ => false
 | _ :: _, [] => false
end
theorem eqTs_F : ∀ a b : List TyT, eqTs a b = eqF eqT a b
 | [], [] => by rw [eqTs, eqF]
 | t :: a, u :: b => by rw [eqTs, eqF, eqTs_F a b]
 | [], _ :: _ => by rw [eqTs, eqF] <;> simp
 | _ :: _, [] => by rw [eqTs, eqF] <;> simp
theorem eqEs_F : ∀ a b : List ExT, eqEs a b = eqF eqE a b
 | [], [] => by rw [eqEs, eqF]
 | t :: a, u :: b => by rw [eqEs, eqF, eqEs_F a b]
 | [], _ :: _ => by rw [eqEs, eqF] <;> simp
 | _ :: _, [] => by rw [eqEs, eqF] <;> simp
theorem eqT_mk (t u : TyT) : eqT t u = (decide (t.kind = u.kind) && (decide (t.name = u.name) && eqF eqT t.elem u.elem)) := by
 cases t; cases u
 rw [eqT, eqTs_F]
 rfl
theorem eqE_mk (t u : ExT) : eqE t u = (decide (t.kind = u.kind) && (decide (t.text = u.text) && (decide (t.int = u.int) && (eqT t.type u.type && (decide (t.names = u.names) && eqF eqE t.kids u.kids))))) := by
 cases t; cases u
 rw [eqE, eqEs_F]
 rfl
def c39 := by
 have c := KK_of Tryz.f39 (by conv => lhs; cbv)
 dsimp only [KK, KxP, doO, opO, List.map_cons, List.map_nil, List.toList_toArray] at c
 exact c
theorem b39 : FnIs Tryz.prog 39 Tryz.f39 26 := ⟨Tryz.func39, by kernel_rfl⟩
def c38 := by
 have c := KK_of Tryz.f38 (by conv => lhs; cbv)
 dsimp only [KK, KxP, doO, opO, List.map_cons, List.map_nil, List.toList_toArray] at c
 exact c
theorem b38 : FnIs Tryz.prog 38 Tryz.f38 24 := ⟨Tryz.func38, by kernel_rfl⟩
def c11 := by
 have c := KK_of Tryz.f11 (by conv => lhs; cbv)
 dsimp only [KK, KxP, doO, opO, List.map_cons, List.map_nil, List.toList_toArray] at c
 exact c
theorem b11 : FnIs Tryz.prog 11 Tryz.f11 45 := ⟨Tryz.func11, by kernel_rfl⟩
theorem ssD_drop_eq (a b : List (List UInt8)) (i : Nat) (h : i < a.length) (h' : i < b.length) : decide (a.drop i = b.drop i) = (decide (a[i] = b[i]) && decide (a.drop (i + 1) = b.drop (i + 1))) := by
 rw [List.drop_eq_getElem_cons h, List.drop_eq_getElem_cons h']
 generalize a[i] = x
 generalize b[i] = y
 generalize a.drop (i + 1) = p
 generalize b.drop (i + 1) = q
 by_cases h1 : x = y <;> by_cases h2 : p = q <;> simp [h1, h2]
set_option maxHeartbeats 1000000 in
theorem equalSs_ab0 (a b : List (List UInt8)) :
 AFn Tryz.prog TabI 39 [.d (.sl (ssD a)), .d (.sl (ssD b))] ⟨[], []⟩ (Same (.d (.bool (decide (a = b)))) ⟨[], []⟩) := by
 refine b39.go 8 rfl fun hsm => ?_
 simp only [smw] at hsm
 simp only [W, seval, c39]
 by_cases hl : a.length = b.length
 case neg =>
  have hl' : decide ((a.length : Int) = (b.length : Int)) = false := decide_eq_false (by omega)
  have hne : decide (a = b) = false := decide_eq_false (fun e => hl (by rw [e]))
  refine ARun.go 200 ?_
  simp only [W, seval, c39, hl']
  refine ARun.ret Tryz.func39 rfl (Left.empty ?_)
  rw [hne]
  exact ⟨rfl, rfl⟩
 have hl' : decide ((a.length : Int) = (b.length : Int)) = true := decide_eq_true (by omega)
 refine ARun.go 30 ?_
 simp only [W, seval, c39, hl']
 refine ARun.loopW (fun i : Nat => (envS 26 [(0, .d (.sl (ssD a))), (1, .d (.sl (ssD b))), (12, .d (.int .i64 a.length)), (13, .d (.int .i64 i))], ⟨[], []⟩)) (fun i => i ≤ a.length ∧ decide (a = b) = decide (a.drop i = b.drop i)) (fun i => a.length - i) 0 ⟨by omega, rfl⟩ ?_ rfl ?_
 ·skip
  refine Agree.env _ ?_
  simp only [agw, seval]
 rintro i ⟨h1, h2⟩ ih
 dsimp only at h1 h2 ih ⊢
 by_cases hlt : i < a.length
 ·have hw := wrap_in ((i : Int) + 1) (by omega)
  have hltb : i < b.length := by omega
  have hga := List.getElem?_eq_getElem hlt
  have hgb := List.getElem?_eq_getElem hltb
  have hlt' : decide ((i : Int) < (a.length : Int)) = true := decide_eq_true (by omega)
  have hltb' : decide ((i : Int) < (b.length : Int)) = true := decide_eq_true (by omega)
  rw [ssD_drop_eq a b i hlt hltb] at h2
  refine ARun.go 20 ?_
  simp only [W, seval, c39, hlt']
  refine ARun.draw (by kernel_rfl) (by kernel_rfl) (lexQ_ok 60 _ _ ?_)
  simp only [W, seval, c39, hga, hgb, hltb]
  cases he : decide (a[i] = b[i])
  ·refine ARun.go 200 ?_
   simp only [W, seval, c39, he]
   refine ARun.ret Tryz.func39 rfl (Left.empty ?_)
   rw [h2, he]
   exact ⟨rfl, rfl⟩
  ·refine ARun.go 200 ?_
   simp only [W, seval, c39, he, hw]
   rw [he, Bool.true_and] at h2
   refine ih (i + 1) ⟨hlt, h2⟩ (by omega) _ _ ?_ rfl
   refine Agree.env _ ?_
   simp only [agw, seval]
 ·have hlt' : decide ((i : Int) < (a.length : Int)) = false := decide_eq_false (by omega)
  refine ARun.go 200 ?_
  simp only [W, seval, c39, hlt']
  refine ARun.ret Tryz.func39 rfl (Left.empty ?_)
  rw [h2, List.drop_eq_nil_of_le (by omega), List.drop_eq_nil_of_le (by omega)]
  exact ⟨rfl, rfl⟩
theorem equalSs_ab (a b : List (List UInt8)) (S : Mem) : AFn Tryz.prog TabI 39 [.d (.sl (ssD a)), .d (.sl (ssD b))] S (Same (.d (.bool (decide (a = b)))) S) := (equalSs_ab0 a b).same rfl rfl S
def TOkG (t : TyT) : Prop := ∀ (u : TyT) (S : Mem), AFn Tryz.prog TabI 38 [tyV t, tyV u] S (Same (.d (.bool (eqT t u))) S)
set_option maxHeartbeats 1000000 in
theorem sameType_step (t : TyT) (h : ∀ x ∈ t.elem, TOkG x) : TOkG t := by
 intro u S
 refine AFn.same (v := .d (.bool (eqT t u))) ?_ rfl rfl S
 rw [eqT_mk]
 have he := fun B T => equalFunc_Type 38 [] [] eqT t.elem u.elem B T (fun x hx y _ J => h x hx y _)
 unfold tyV
 cases h1 : decide (t.kind = u.kind)
 ·refine b38.go 200 rfl fun _ => ?_
  simp only [W, seval, c38, h1]
  refine ARun.ret Tryz.func38 rfl (Left.empty ?_)
  exact ⟨rfl, rfl⟩
 cases h2 : decide (t.name = u.name)
 ·refine b38.go 200 rfl fun _ => ?_
  simp only [W, seval, c38, h1, h2]
  refine ARun.ret Tryz.func38 rfl (Left.empty ?_)
  exact ⟨rfl, rfl⟩
 refine b38.go 200 rfl fun _ => ?_
 simp only [W, seval, c38, h1, h2]
 refine callS_fn (he _ _) ?_
 rintro _ _ ⟨rfl, rfl⟩
 refine ARun.go 200 ?_
 simp only [W, seval, c38]
 refine ARun.ret Tryz.func38 rfl (Left.empty ?_)
 exact ⟨rfl, rfl⟩
mutual
theorem sameType_ab : ∀ t : TyT, TOkG t
 | .mk k n es => sameType_step (.mk k n es) (sameType_all es)
theorem sameType_all : ∀ (ts : List TyT), ∀ x ∈ ts, TOkG x
 | [], _, h => absurd h List.not_mem_nil
 | y :: l, x, h => by
  rcases List.mem_cons.1 h with e | e
  ·rw [e]; exact sameType_ab y
  ·exact sameType_all l x e
end
def EOkG (t : ExT) : Prop := ∀ (u : ExT) (S : Mem), AFn Tryz.prog TabI 11 [exV t, exV u] S (Same (.d (.bool (eqE t u))) S)
set_option maxHeartbeats 2000000 in
theorem sameExpr_step (t : ExT) (h : ∀ x ∈ t.kids, EOkG x) : EOkG t := by
 intro u S
 refine AFn.same (v := .d (.bool (eqE t u))) ?_ rfl rfl S
 rw [eqE_mk]
 have he := fun B T => equalFunc_Expr 11 [] [] eqE t.kids u.kids B T (fun x hx y _ J => h x hx y _)
 have hty := sameType_ab t.type u.type
 have hns := equalSs_ab t.names u.names
 unfold tyV at hty
 unfold exV
 cases h1 : decide (t.kind = u.kind)
 ·refine b11.go 200 rfl fun _ => ?_
  simp only [W, seval, c11, h1]
  refine ARun.ret Tryz.func11 rfl (Left.empty ?_)
  exact ⟨rfl, rfl⟩
 cases h2 : decide (t.text = u.text)
 ·refine b11.go 200 rfl fun _ => ?_
  simp only [W, seval, c11, h1, h2]
  refine ARun.ret Tryz.func11 rfl (Left.empty ?_)
  exact ⟨rfl, rfl⟩
 cases h3 : decide (t.int = u.int)
 ·refine b11.go 200 rfl fun _ => ?_
  simp only [W, seval, c11, h1, h2, h3]
  refine ARun.ret Tryz.func11 rfl (Left.empty ?_)
  exact ⟨rfl, rfl⟩
 refine b11.go 200 rfl fun _ => ?_
 simp only [W, seval, c11, h1, h2, h3]
 refine callS_fn (hty _) ?_
 rintro _ _ ⟨rfl, rfl⟩
 cases h4 : eqT t.type u.type
 ·refine ARun.go 200 ?_
  simp only [W, seval, c11, h4]
  refine ARun.ret Tryz.func11 rfl (Left.empty ?_)
  exact ⟨rfl, rfl⟩
 refine ARun.go 200 ?_
 simp only [W, seval, c11, h4]
 refine callS_fn (hns _) ?_
 rintro _ _ ⟨rfl, rfl⟩
 cases h5 : decide (t.names = u.names)
 ·refine ARun.go 200 ?_
  simp only [W, seval, c11, h5]
  refine ARun.ret Tryz.func11 rfl (Left.empty ?_)
  exact ⟨rfl, rfl⟩
 refine ARun.go 200 ?_
 simp only [W, seval, c11, h5]
 refine callS_fn (he _ _) ?_
 rintro _ _ ⟨rfl, rfl⟩
 refine ARun.go 200 ?_
 simp only [W, seval, c11]
 refine ARun.ret Tryz.func11 rfl (Left.empty ?_)
 exact ⟨rfl, rfl⟩
mutual
theorem sameExpr_ab : ∀ t : ExT, EOkG t
 | .mk k t i ty ns ks => sameExpr_step (.mk k t i ty ns ks) (sameExpr_all ks)
theorem sameExpr_all : ∀ (ts : List ExT), ∀ x ∈ ts, EOkG x
 | [], _, h => absurd h List.not_mem_nil
 | y :: l, x, h => by
  rcases List.mem_cons.1 h with e | e
  ·rw [e]; exact sameExpr_ab y
  ·exact sameExpr_all l x e
end
def c4 := by
 have c := KK_of Tryz.f4 (by conv => lhs; cbv)
 dsimp only [KK, KxP, doO, opO, List.map_cons, List.map_nil, List.toList_toArray] at c
 exact c
theorem b4 : FnIs Tryz.prog 4 Tryz.f4 132 := ⟨Tryz.func4, by kernel_rfl⟩
theorem from_all (bs : List UInt8) : fromBytes (byD bs) = some bs := fromBytes_map bs
mutual
theorem eqT_self : ∀ t : TyT, eqT t t = true
 | .mk k n es => by unfold eqT; simp [eqTs_self es]
theorem eqTs_self : ∀ l : List TyT, eqTs l l = true
 | [] => by unfold eqTs; rfl
 | t :: l => by unfold eqTs; rw [eqT_self t, eqTs_self l]; rfl
end
mutual
theorem eqE_self : ∀ t : ExT, eqE t t = true
 | .mk k s i ty ns ks => by unfold eqE; simp [eqEs_self ks, eqT_self ty]
theorem eqEs_self : ∀ l : List ExT, eqEs l l = true
 | [] => by unfold eqEs; rfl
 | t :: l => by unfold eqEs; rw [eqE_self t, eqEs_self l]; rfl
end
theorem few (a : Int) : ∃ K : Nat, K < 20 ∧ (IntKind.u64.wrap a).tmod 20 = (K : Int) ∧ IntKind.i64.wrap (K : Int) = (K : Int) := by
 have h3 : 0 ≤ IntKind.u64.wrap a := by
  unfold IntKind.wrap
  simp [IntKind.signed, IntKind.bits]
  omega
 rw [Int.tmod_eq_emod_of_nonneg h3]
 have h4 := Int.emod_nonneg (IntKind.u64.wrap a) (show (20 : Int) ≠ 0 by omega)
 have h5 := Int.emod_lt_of_pos (IntKind.u64.wrap a) (show (0 : Int) < 20 by omega)
 refine ⟨(IntKind.u64.wrap a % 20).toNat, by omega, by omega, wrap_in _ (by omega)⟩
theorem fin_right {rg : PrT → Bool} {n : Nat} {s : Ps} (h : (finP rg n s).2 = 0) : rg (finP rg n s).1 = true := by
 unfold finP at h ⊢
 by_cases he : endP (progP true n s).2 (rg (progP true n s).1) = 0
 ·rw [if_pos he]
  unfold endP at he
  by_cases h1 : (progP true n s).2.e = 0
  ·rw [if_pos h1] at he
   by_cases h2 : (progP true n s).2.w.kind = 0 ∧ rg (progP true n s).1 = true
   ·exact h2.2
   ·rw [if_neg h2] at he
    exact absurd he (by decide)
  ·rw [if_neg h1] at he
   exact absurd he h1
 ·rw [if_neg he] at h
  exact absurd h he
theorem fin_bad {n : Nat} {s : Ps} (h : ¬ (finE n s).2 = 0) : (finE n s).1 = zeroE := by
 unfold finE at h ⊢
 split
 ·rename_i he
  rw [if_pos he] at h
  exact absurd rfl h
 ·rfl
set_option maxHeartbeats 8000000 in
theorem right_last (bs : List UInt8) (hl : bs.length ≤ 2000) (x : ExT) (hE : ExprT bs (bs.length + 60) x) (pb yb : List V) :
 ARun Tryz.prog TabI (0, 0) 4 [.code (kF Tryz.f4 50)] (envS 132 [(0, .d (.sl (byD bs))), (7, .ptr 1 0)]) ⟨[pb, xB x, yb], []⟩ (Ab.Left ⟨[], []⟩ fun v _ => v = .d (.bool true)) := by
 have hs : ∀ S : Mem, AFn Tryz.prog TabI 11 [exV x, exV x] S (Same (.d (.bool true)) S) := fun S => by
  have := sameExpr_ab x x S
  rw [eqE_self] at this
  exact this
 unfold exV at hs
 obtain ⟨⟨p, q⟩, hP⟩ : ∃ r, finP rgP (bs.length + 60) (startS (textR bs)) = r := ⟨_, rfl⟩
 have htl : (textR bs).length = bs.length + 37 := by unfold textR preB; simp
 have hp : ∀ S : Mem, AFn Tryz.prog TabI 6 [.d (.sl (byD (textR bs)))] S (Same (.tup [prV p, .d (.int .i64 q)]) S) := fun S => by
  have := parseP_ab (textR bs) trivial (by omega) (bs.length + 60) (by omega) S.boxes S.toks
  rw [hP] at this
  exact this
 have hr := ret_fin hE (by omega) rgP
 rw [hP] at hr
 unfold prV at hp
 have h1 : 35 + bs.length ≤ 9223372036854775807 := by omega
 have h2 : bs.length ≤ 9223372036854775770 := by omega
 refine ARun.go 30 ?_
 simp only [W, seval, c4, from_all, h1, h2]
 refine callS_fn (hp _) ?_
 rintro _ _ ⟨rfl, rfl⟩
 rcases hr with h | h
 ·obtain ⟨rfl, rfl⟩ := Prod.mk.inj h
  refine ARun.go 60 ?_
  simp only [W, seval, c4, Int.reduceEq, retP]
  refine ARun.weak (env' := envS 132 [(7, .ptr 1 0), (12, .ptr 3 0)]) ?_ ?_
  ·skip
   refine Agree.env _ ?_
   simp only [agw, seval]
  have hst : stD (.mk 6 [] noT [] [x] [] [] []) = [.int .i64 6, .sl (ssD []), .int .i64 0, .str [], .sl [], .sl [], .sl [exD x], .sl [], .sl [], .sl []] := by rw [stD_eq]; rfl
  refine ARun.draw (by kernel_rfl) (by kernel_rfl) (lexQ_ok 60 _ _ ?_)
  simp only [W, seval, c4, fuD_eq, hst, exD_eq, xB]
  refine ⟨_, hs _, ?_⟩
  simp only [W, seval, c4]
  refine ARun.go 20 ?_
  simp only [W, seval, c4]
  refine ARun.ret Tryz.func4 rfl (Left.empty ?_)
  exact rfl
 ·obtain ⟨rfl, rfl⟩ := Prod.mk.inj h
  refine ARun.go 60 ?_
  simp only [W, seval, c4, Int.reduceEq]
  refine ARun.ret Tryz.func4 rfl (Left.empty ?_)
  exact rfl
set_option maxHeartbeats 8000000 in
theorem right_end (bs : List UInt8) (hl : bs.length ≤ 2000) (x : ExT) (hE : ExprT bs (bs.length + 60) x) (pb : List V) (y : ExT) (q : Int) (hy : (y = x ∧ q = 0) ∨ (y = zeroE ∧ q = 51)) :
 ARun Tryz.prog TabI (0, 0) 4 [.code (kF Tryz.f4 42)] (envS 132 [(0, .d (.sl (byD bs))), (7, .ptr 1 0), (10, .ptr 2 0), (11, .d (.int .i64 q))]) ⟨[pb, xB x, xB y], []⟩ (Ab.Left ⟨[], []⟩ fun v _ => v = .d (.bool true)) := by
 have hx : ∀ S : Mem, AFn Tryz.prog TabI 13 [exV x] S (Same (.d (.bool true)) S) := fun S => by
  have := exprG_ab x S.boxes S.toks
  rw [hE.ok] at this
  exact this
 have hs : ∀ S : Mem, AFn Tryz.prog TabI 11 [exV x, exV x] S (Same (.d (.bool true)) S) := fun S => by
  have := sameExpr_ab x x S
  rw [eqE_self] at this
  exact this
 unfold exV at hx hs
 refine ARun.go 20 ?_
 simp only [W, seval, c4, xB]
 refine callS_fn (hx _) ?_
 rintro _ _ ⟨rfl, rfl⟩
 rcases hy with ⟨rfl, rfl⟩ | ⟨rfl, rfl⟩
 ·refine ARun.go 40 ?_
  simp only [W, seval, c4, Int.reduceEq]
  refine callS_fn (hs _) ?_
  rintro _ _ ⟨rfl, rfl⟩
  refine ARun.go 14 ?_
  simp only [W, seval, c4, Int.reduceEq]
  refine ARun.weak (env' := envS 132 [(0, .d (.sl (byD bs))), (7, .ptr 1 0)]) ?_ (right_last bs hl _ hE pb _)
  refine Agree.env _ ?_
  simp only [agw, seval]
 ·refine ARun.go 22 ?_
  simp only [W, seval, c4, Int.reduceEq]
  refine ARun.weak (env' := envS 132 [(0, .d (.sl (byD bs))), (7, .ptr 1 0)]) ?_ (right_last bs hl _ hE pb _)
  refine Agree.env _ ?_
  simp only [agw, seval]
set_option maxHeartbeats 8000000 in
theorem right_rest (bs : List UInt8) (hl : bs.length ≤ 2000) (a : Int) (pb : List V) : ARun Tryz.prog TabI (0, 0) 4 [.code (kF Tryz.f4 28)] (envS 132 [(0, .d (.sl (byD bs))), (1, .d (.int .i64 a))]) ⟨[pb], []⟩ (Ab.Left ⟨[], []⟩ fun v _ => v = .d (.bool true)) := by
 obtain ⟨⟨x, q⟩, hP⟩ : ∃ r, finE (bs.length + 60) (startS bs) = r := ⟨_, rfl⟩
 have hx := parseE_ab bs trivial (by omega) (bs.length + 60) (by omega) [pb] []
 rw [hP] at hx
 dsimp only at hx
 refine ARun.go 10 ?_
 simp only [W, seval, c4]
 refine callS_fn hx ?_
 rintro _ _ ⟨rfl, rfl⟩
 unfold exV
 by_cases hq : q = 0
 case neg =>
  have e1 := decide_eq_false hq
  have hz : x = zeroE := by
   have := fin_bad (n := bs.length + 60) (s := startS bs) (by rw [hP]; exact hq)
   rw [hP] at this
   exact this
  subst hz
  have hs := (sameExpr_ab zeroE zeroE ⟨[], []⟩).only
  rw [eqE_self] at hs
  refine ARun.go 40 ?_
  simp only [W, seval, c4, e1]
  refine callS_fn (AFn.sameW hs rfl rfl _) ?_
  rintro _ _ ⟨rfl, rfl⟩
  refine ARun.go 20 ?_
  simp only [W, seval, c4]
  refine ARun.ret Tryz.func4 rfl (Left.empty ?_)
  exact rfl
 subst hq
 obtain ⟨x', hE⟩ := expr_words (b := bs) (n := bs.length + 60) (by rw [hP])
 obtain rfl : x' = x := by have := hE.fin; rw [hP] at this; exact (Prod.mk.inj this).1.symm
 obtain ⟨K, hK, hk1, hk2⟩ := few a
 refine ARun.go 60 ?_
 simp only [W, seval, c4, hk1, hk2, Int.reduceEq]
 obtain ⟨⟨y, q2⟩, hP2⟩ : ∃ r, finE (bs.length + 60 + K) (startS (textP K bs)) = r := ⟨_, rfl⟩
 have hl1 : ((List.replicate K (40 : UInt8)).length : Nat) + bs.length ≤ 9223372036854775807 := by rw [List.length_replicate]; omega
 refine ARun.drawW [14, 15] (mems [⟨[pb, xB x'], []⟩, ⟨[pb, xB x', zB], []⟩, ⟨[pb, xB x', xB y], []⟩]) rfl (by kernel_rfl) (by kernel_rfl) (by kernel_rfl) ?_
 simp only [W, seval, c4]
 refine lexW_q (env' := ?_) (by rfl) (fun b => ?_) ?_
 rotate_left
 ·simp only [W, seval, c4]
  exact rfl
 refine lexW_q (env' := ?_) (by rfl) (fun b => ?_) ?_
 rotate_left
 ·simp only [W, seval, c4]
  refine ⟨_, repeat_ab 40 K (by omega) _, ?_⟩
  exact rfl
 refine lexW_q (env' := ?_) (by rfl) (fun b => ?_) ?_
 rotate_left
 ·simp only [W, seval, c4]
  exact rfl
 refine lexW_q (env' := ?_) (by rfl) (fun b => ?_) ?_
 rotate_left
 ·simp only [W, seval, c4, from_all]
  exact rfl
 refine lexW_q (env' := ?_) (by rfl) (fun b => ?_) ?_
 rotate_left
 ·simp only [W, seval, c4, hl1]
  exact rfl
 have hl2 : K + bs.length + 1 ≤ 9223372036854775807 := by omega
 have hl3 : K + (bs.length + 1) ≤ 9223372036854775807 := by omega
 have hl4 : K + (bs.length + 1) + K ≤ 9223372036854775807 := by omega
 have hl5 : K + bs.length + 1 + K ≤ 9223372036854775807 := by omega
 refine lexW_q (env' := ?_) (by rfl) (fun b => ?_) ?_
 rotate_left
 ·simp only [W, seval, c4, List.length_replicate, hl2, hl3]
  exact rfl
 refine lexW_q (env' := ?_) (by rfl) (fun b => ?_) ?_
 rotate_left
 ·simp only [W, seval, c4]
  exact rfl
 refine lexW_q (env' := ?_) (by rfl) (fun b => ?_) ?_
 rotate_left
 ·simp only [W, seval, c4]
  refine ⟨_, repeat_ab 41 K (by omega) _, ?_⟩
  exact rfl
 refine lexW_q (env' := ?_) (by rfl) (fun b => ?_) ?_
 rotate_left
 ·simp only [W, seval, c4, List.length_replicate, hl4, hl5]
  exact rfl
 refine lexW_q (env' := ?_) (by rfl) (fun b => ?_) ?_
 rotate_left
 ·simp only [W, seval, c4]
  exact rfl
 have htl : (textP K bs).length = bs.length + 2 * K + 1 := by unfold textP; simp; omega
 have hx2 : ∀ S : Mem, AFn Tryz.prog TabI 10 [.d (.sl (List.map byteRow (List.replicate K 40 ++ (bs ++ 10 :: List.replicate K 41))))] S (Same (.tup [exV y, .d (.int .i64 q2)]) S) := fun S => by
  have := parseE_ab (textP K bs) trivial (by omega) (bs.length + 60 + K) (by omega) S.boxes S.toks
  rw [hP2] at this
  exact this
 unfold exV at hx2
 refine lexW_q (env' := ?_) (by rfl) (fun b => ?_) ?_
 rotate_left
 ·simp only [W, seval, c4]
  refine ⟨_, hx2 _, ?_⟩
  exact rfl
 refine lexW_q (env' := ?_) (by rfl) (fun b => ?_) ?_
 rotate_left
 ·simp only [W, seval, c4]
  exact rfl
 refine lexW_q (env' := ?_) (by rfl) (fun b => ?_) ?_
 rotate_left
 ·simp only [W, seval, c4]
  exact rfl
 refine lexW_q (env' := ?_) (by rfl) (fun b => ?_) ?_
 rotate_left
 ·simp only [W, seval, c4]
  exact rfl
 refine lexW_w (v := ?_) (by rfl) (by kernel_rfl) ?_ ?_
 rotate_left
 ·simp only [W, seval, c4, mems_0, mems_1, mems_2, mems_3]
  exact rfl
 refine lexW_w (v := ?_) (by rfl) (by kernel_rfl) ?_ ?_
 rotate_left
 ·simp only [W, seval, c4, mems_0, mems_1, mems_2, mems_3, xB, zB]
  exact rfl
 refine lexW_q (env' := ?_) (by rfl) (fun b => ?_) ?_
 rotate_left
 ·simp only [W, seval, c4]
  exact rfl
 refine lexW_end ?_
 change ARun _ _ _ _ _ _ ⟨[pb, xB x', xB y], []⟩ _
 refine ARun.weak (env' := envS 132 [(0, .d (.sl (byD bs))), (7, .ptr 1 0), (10, .ptr 2 0), (11, .d (.int .i64 q2))]) ?_ (right_end bs hl x' hE pb y q2 ?_)
 ·skip
  refine Agree.env _ ?_
  simp only [agw, seval]
 ·rcases paren_fin hE (by omega) K with h | h
  ·rw [hP2] at h
   exact .inl (Prod.mk.inj h)
  ·rw [hP2] at h
   exact .inr (Prod.mk.inj h)
set_option maxHeartbeats 8000000 in
theorem right25_ab (bs : List UInt8) (a : Int) : AFn Tryz.prog TabI 4 [.d (.sl (byD bs)), .d (.int .i64 a)] ⟨[], []⟩ (fun v _ => v = .d (.bool true)) := by
 have hlen : (byD bs).length = bs.length := by simp [byD]
 refine b4.go 20 rfl fun hsm => ?_
 simp only [smw] at hsm
 simp only [W, seval, c4]
 refine callS_fn (works25_ab _) ?_
 rintro _ _ ⟨rfl, rfl⟩
 by_cases hl : bs.length ≤ 2000
 case neg =>
  have e := decide_eq_true (show (2000 : Int) < (bs.length : Int) by omega)
  refine ARun.go 60 ?_
  simp only [W, seval, c4, hlen, e]
  refine ARun.ret Tryz.func4 rfl (Left.empty ?_)
  exact rfl
 have e := decide_eq_false (show ¬ (2000 : Int) < (bs.length : Int) by omega)
 refine ARun.go 30 ?_
 simp only [W, seval, c4, hlen, e]
 obtain ⟨⟨p, q⟩, hP⟩ : ∃ r, finP rgP (bs.length + 60) (startS bs) = r := ⟨_, rfl⟩
 have hrg : q = 0 → rgP p = true := fun hq => by
  have := fin_right (rg := rgP) (n := bs.length + 60) (s := startS bs) (by rw [hP]; exact hq)
  rw [hP] at this
  exact this
 have hp := parseP_ab bs trivial (by omega) (bs.length + 60) (by omega) [] []
 rw [hP] at hp
 refine callS_fn hp ?_
 rintro _ _ ⟨rfl, rfl⟩
 have hR := rgP_ab p [[.d (.sl (p.structs.map suD)), .d (.sl (p.funcs.map fuD))]] []
 unfold prV at hR
 by_cases hq : q = 0
 ·have e1 := decide_eq_true hq
  rw [hrg hq] at hR
  refine ARun.go 40 ?_
  simp only [W, seval, c4, prV, e1]
  refine callS_fn hR ?_
  rintro _ _ ⟨rfl, rfl⟩
  refine ARun.go 5 ?_
  simp only [W, seval, c4]
  refine ARun.weak (env' := envS 132 [(0, .d (.sl (byD bs))), (1, .d (.int .i64 a))]) ?_ (right_rest bs hl a _)
  refine Agree.env _ ?_
  simp only [agw, seval]
 ·have e1 := decide_eq_false hq
  refine ARun.go 19 ?_
  simp only [W, seval, c4, prV, e1]
  refine ARun.weak (env' := envS 132 [(0, .d (.sl (byD bs))), (1, .d (.int .i64 a))]) ?_ (right_rest bs hl a _)
  refine Agree.env _ ?_
  simp only [agw, seval]
end Go.Proofs.YtnnnhlkmdnacaaaGreatDoor
