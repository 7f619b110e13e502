/- GoparsePrograms: the parser of the small language answers as the document's, for any bytes; no condition. Part 4 of 6 of the proof. -/
import Derived.Test.YtnnnhlkmdnacaaaGreatDoorGoparseProgramsc
namespace Go.Proofs.YtnnnhlkmdnacaaaGreatDoor
open Go.RowKit Go.Av Go.Ab
set_option linter.unusedSimpArgs false
set_option maxRecDepth 100000
set_option linter.defProp false
def c14 := by
 have c := KK_of Tryz.f14 (by conv => lhs; cbv)
 dsimp only [KK, KxP, doO, opO, List.map_cons, List.map_nil, List.toList_toArray] at c
 exact c
def c21 := by
 have c := KK_of Tryz.f21 (by conv => lhs; cbv)
 dsimp only [KK, KxP, doO, opO, List.map_cons, List.map_nil, List.toList_toArray] at c
 exact c
theorem b21 : FnIs Tryz.prog 21 Tryz.f21 36 := ⟨Tryz.func21, by kernel_rfl⟩
theorem expr_ok (bs : List UInt8) (h0 : True) (hl : bs.length ≤ 100000) (hF : ∀ {E : EP} {n : Nat}, EOk bs E n → DnE E → FOk bs E n) : ∀ n : Nat, EOk bs (exprF true n) n
 | 0 => fun s h => absurd h (Nat.not_lt_zero _)
 | n + 1 => by
  have ih := expr_ok bs h0 hl hF n
  have hd := dn_expr true n
  have hO : OOk bs (operP true (exprF true n) (n + 1)) (n + 1) := fun s hs =>
   oper_pp bs h0 hl (P := primP true (exprF true n) (n + 1)) (fun s hs => prim_pp bs h0 hl ih hd (hF ih hd) (n + 1) (by omega) s hs) (DnE.of fun h => dn_prim hd h) ih hd (n + 1) (by omega) s (by omega)
  intro s hs
  exact climb_pp bs h0 hl hO (DnE.of fun h => dn_oper hd h) (n + 1) (Nat.le_refl _) 5 (by omega) 1 rfl s hs
theorem stmt_ok (bs : List UInt8) (h0 : True) (hl : bs.length ≤ 100000) (hE : ∀ n : Nat, EOk bs (exprF true n) n) : ∀ n : Nat, SOk bs (stmtF true n) n
 | 0 => ⟨fun s h => absurd h (Nat.not_lt_zero _), fun s h => absurd h (Nat.not_lt_zero _)⟩
 | n + 1 => by
  have ih := stmt_ok bs h0 hl hE n
  refine ⟨fun s hs => stmt_pp bs h0 hl (hE (n + 1)) (dn_expr true (n + 1)) ih (dn_stmtF true n) (n + 1) (by omega) s hs, fun s hs hp => ?_⟩
  exact stmt_lt (dn_expr true (n + 1)) (dn_stmtF true n) (m := n + 1) (by omega) (x := (stmtF true (n + 1) s).1) rfl hp
theorem AFn.bodyN {P : Program} {I : Inv} {fn : FuncId} {f : Func} {body : Code} {args : List V} {S : Mem} {R : V → Mem → Prop} (n : Nat) (hf : P.funcs[fn]? = some f) (hb : f.body = some body) (hname : (f.name == "runtime.NumGoroutine") = false) (hn : f.ntmps = n) (hl : args.length ≤ n)
 (h : ARun P I (S.boxes.length, S.toks.length) fn [.code body] (envS n (numbered 0 args)) S R) : AFn P I fn args S R :=
 AFn.enter hf hb hname (by rw [hn, envS_args n args hl]; exact h)
def startS (bs : List UInt8) : Ps := if (takeS bs 0).2 = 0 then ⟨wordsAt bs 0, 0, 0, false⟩ else ⟨[WordS.zero], (takeS bs 0).2, 0, false⟩
theorem words0 (bs : List UInt8) : wordsAt bs 0 = if (takeS bs 0).2 = 0 then (if (takeS bs 0).1.kind = 0 then [(takeS bs 0).1] else (takeS bs 0).1 :: wordsAt bs (takeS bs 0).1.next) else [w9] := wordsAt_eq bs 0 (Nat.zero_le _)
theorem start_w {bs : List UInt8} (h : (takeS bs 0).2 = 0) : (startS bs).w = (takeS bs 0).1 := by
 unfold startS
 rw [if_pos h, words0, if_pos h]
 unfold Ps.w
 split <;> rfl
theorem start_ok (bs : List UInt8) : OkP bs (startS bs) := by
 by_cases h : (takeS bs 0).2 = 0
 ·intro _
  rw [start_w h]
  refine ⟨take_kind bs 0, take_next_le bs 0 (Nat.zero_le _) h, ?_⟩
  unfold startS
  rw [if_pos h]
  dsimp only
  rw [words0, if_pos h]
  split <;> rfl
 ·refine ok_dead ?_
  unfold startS
  rw [if_neg h]
  have := take_err bs 0 (Nat.zero_le _)
  show ¬ (((takeS bs 0).2 : Nat) : Int) = 0
  have h' : ¬ (takeS bs ((0 : Nat) : Int)).2 = 0 := h
  omega
theorem bxP_zero (bs : List UInt8) : bxP bs ⟨[WordS.zero], 0, 0, false⟩ = [.d (.sl (byD bs)), .d (.int .i64 0), .d (.str []), .d (.int .u64 0), .d (.int .i64 0), .d (.int .i64 0), .d (.int .i64 0), .d (.int .i64 0), .d (.bool false)] := rfl
set_option maxHeartbeats 4000000 in
theorem open_ab (bs : List UInt8) (h0 : True) (hl : bs.length ≤ 100000) (B : List (List V)) (T : List (Nat × Nat)) : AFn Tryz.prog TabI 14 [.d (.sl (byD bs))] ⟨B, T⟩ (Same (.ptr B.length 0) ⟨B ++ [bxP bs (startS bs)], T⟩) := by
 obtain ⟨N, hn⟩ : ∃ N, B.length = N := ⟨_, rfl⟩
 have hnx := next_raw bs h0 hl ⟨[WordS.zero], 0, 0, false⟩ (startS bs) rfl (fun h => ⟨start_w h, by unfold startS; rw [if_pos (show (takeS bs 0).2 = 0 from h)]⟩) (fun h => by
  have h' : ¬ (takeS bs 0).2 = 0 := h
  unfold startS
  rw [if_neg h']
  exact ⟨rfl, rfl⟩) (by unfold startS; split <;> rfl) (by unfold startS; split <;> rfl) N (B ++ [[]]) T (by simp; omega)
 have hset : ∀ X : List V, (B ++ [[]]).set N X = B ++ [X] := fun X => by
  rw [List.set_append_right _ _ (by omega), hn, Nat.sub_self]
  rfl
 rw [hset, hset, bxP_zero] at hnx
 have hlen : (byD bs).length = bs.length := by simp [byD]
 have hbig : decide (400000 < (bs.length : Int)) = false := decide_eq_false (by omega)
 have hb0 : [D.sl (byD bs)] = [D.sl (byD bs)] := rfl
 rw [hn]
 refine AFn.bodyN (body := (kF Tryz.f14 0)) 15 Tryz.func14 (by kernel_rfl) (by kernel_rfl) (by kernel_rfl) (Nat.le_of_ble_eq_true rfl) ?_
 refine ARun.go 60 ?_
 simp only [W, seval, c14, hn, hlen, hbig]
 refine callS_fn hnx ?_
 rintro _ _ ⟨rfl, rfl⟩
 refine ARun.go 20 ?_
 simp only [W, seval, c14, hn]
 refine ARun.ret Tryz.func14 rfl (id ?_)
 exact ⟨rfl, rfl⟩
def endP (s : Ps) (r : Bool) : Int := if s.e = 0 then (if s.w.kind = 0 ∧ r = true then 0 else 51) else s.e
set_option maxHeartbeats 4000000 in
theorem end_ab (bs : List UInt8) (s : Ps) (r : Bool) (g : FuncId) (caps : List V) (c : Nat) (B : List (List V)) (T : List (Nat × Nat)) (hc : c < B.length) (hg : AFn Tryz.prog TabI g caps ⟨B.set c (bxP bs s), T⟩ (Same (.d (.bool r)) ⟨B.set c (bxP bs s), T⟩)) :
 AFn Tryz.prog TabI 21 [.ptr c 0, .func g [] caps] ⟨B.set c (bxP bs s), T⟩ fun v m => v = .d (.int .i64 (endP s r)) ∧ ∃ s', m = ⟨B.set c (bxP bs s'), T⟩ := by
 obtain ⟨N, hn⟩ : ∃ N, B.length = N := ⟨_, rfl⟩
 have hi : c < N := by omega
 have hfl := fail_raw bs s 51 c B T hc
 have hk0 := dec_nat s.w.kind 0
 simp only [Int.natCast_zero] at hk0
 by_cases he : s.e = 0
 case neg =>
  have e1 := decide_eq_false he
  have hr : endP s r = s.e := if_neg he
  rw [hr]
  refine b21.go 60 rfl fun hsm => ?_
  simp only [smw] at hsm
  simp only [W, seval, c21, hn, hi, bxP, e1]
  refine ARun.ret Tryz.func21 rfl (PF.ret0 (fun _ _ => rfl) ?_)
  exact ⟨rfl, s, rfl⟩
 have e1 := decide_eq_true he
 have hfs : failP s 51 = ⟨s.ws, 51, s.o, s.h⟩ := if_pos he
 by_cases hk : s.w.kind = 0
 case neg =>
  have hr : endP s r = 51 := by unfold endP; rw [if_pos he, if_neg (fun h => hk h.1)]
  rw [decide_eq_false hk] at hk0
  rw [hr]
  refine b21.go 60 rfl fun hsm => ?_
  simp only [smw] at hsm
  simp only [W, seval, c21, hn, hi, bxP, e1, hk0]
  refine callS_fn hfl ?_
  rintro _ _ ⟨rfl, rfl⟩
  rw [hfs]
  refine ARun.go 60 ?_
  simp only [W, seval, c21, hn, hi, bxP]
  refine ARun.ret Tryz.func21 rfl (PF.ret0 (fun _ _ => rfl) ?_)
  exact ⟨rfl, ⟨s.ws, 51, s.o, s.h⟩, rfl⟩
 rw [decide_eq_true hk] at hk0
 refine b21.go 60 rfl fun hsm => ?_
 simp only [smw] at hsm
 simp only [W, seval, c21, hn, hi, bxP, e1, hk0]
 refine callS_of (Q := Same (.d (.bool r)) ⟨B.set c (bxP bs s), T⟩) (by rw [List.nil_append, List.nil_append]; exact hg) ?_
 rintro _ _ ⟨rfl, rfl⟩
 cases r
 ·have hr : endP s false = 51 := by unfold endP; rw [if_pos he, if_neg (fun h => absurd h.2 (by decide))]
  rw [hr]
  refine ARun.go 60 ?_
  simp only [W, seval, c21, hn, hi]
  refine callS_fn hfl ?_
  rintro _ _ ⟨rfl, rfl⟩
  rw [hfs]
  refine ARun.go 60 ?_
  simp only [W, seval, c21, hn, hi, bxP]
  refine ARun.ret Tryz.func21 rfl (PF.ret0 (fun _ _ => rfl) ?_)
  exact ⟨rfl, ⟨s.ws, 51, s.o, s.h⟩, rfl⟩
 ·have hr : endP s true = 0 := by unfold endP; rw [if_pos he, if_pos ⟨hk, rfl⟩]
  rw [hr]
  refine ARun.go 60 ?_
  simp only [W, seval, c21, hn, hi, bxP]
  refine ARun.ret Tryz.func21 rfl (PF.ret0 (fun _ _ => rfl) ?_)
  refine ⟨?_, s, rfl⟩
  rw [← he]
  rfl
def c6 := by
 have c := KK_of Tryz.f6 (by conv => lhs; cbv)
 dsimp only [KK, KxP, doO, opO, List.map_cons, List.map_nil, List.toList_toArray] at c
 exact c
theorem b6 : FnIs Tryz.prog 6 Tryz.f6 56 := ⟨Tryz.func6, by kernel_rfl⟩
def c22 := by
 have c := KK_of Tryz.f22 (by conv => lhs; cbv)
 dsimp only [KK, KxP, doO, opO, List.map_cons, List.map_nil, List.toList_toArray] at c
 exact c
theorem b22 : FnIs Tryz.prog 22 Tryz.f22 4 := ⟨Tryz.func22, by kernel_rfl⟩
section
variable {bs : List UInt8} {f : FuncId} {ar : List V} {s s' : Ps} {v : V} {N : Nat} {B : List (List V)} {T : List (Nat × Nat)} {Z O : List V} {env : List V}
theorem setP3 (hn : B.length = N) (X Y : List V) : (B ++ [Z, O, Y]).set (N + 2) X = B ++ [Z, O, X] := by
 rw [List.set_append_right _ _ (by omega), hn, Nat.add_sub_cancel_left]
 rfl
theorem PP.fnP (h : PP bs f ar s v s') (hn : B.length = N) (hok : OkP bs s) : AFn Tryz.prog TabI f (.ptr (N + 2) 0 :: ar) ⟨B ++ [Z, O, bxP bs s], T⟩ fun v' m => v' = v ∧ OkP bs s' ∧ m = ⟨B ++ [Z, O, bxP bs s'], T⟩ := by
 have := h (N + 2) (B ++ [Z, O, []]) T 0 (by simp; omega) hok
 simp only [setP3 hn] at this
 refine this.mono ?_
 rintro v' m ⟨h1, _, h2, h3⟩
 exact ⟨h1, h2, h3⟩
theorem PP.callP {stop : Cont} {k : List Item} {d : Option Tmp} (h : PP bs f ar s v s') (hn : B.length = N) (hok : OkP bs s) (hk : OkP bs s' → stop k (setV env d v) ⟨B ++ [Z, O, bxP bs s'], T⟩) : callS Tryz.prog TabI stop (.func f [] []) (.ptr (N + 2) 0 :: ar) k d env ⟨B ++ [Z, O, bxP bs s], T⟩ :=
 callS_fn (PP.fnP h hn hok) fun _ _ ⟨e1, h2, e3⟩ => by rw [e1, e3]; exact hk h2
theorem PP.witP {z : Nat × Nat} {fn : FuncId} {k : List Item} {R : V → Mem → Prop} (h : PP bs f ar s v s') (hn : B.length = N) (hok : OkP bs s) (ha : ∀ x ∈ V.ptr (N + 2) 0 :: ar, ∃ y : Operand, evalV TabI env y = x) (hk : OkP bs s' → ARun Tryz.prog TabI z fn k env ⟨B ++ [Z, O, bxP bs s], T⟩ R) : ARun Tryz.prog TabI z fn k env ⟨B ++ [Z, O, bxP bs s], T⟩ R :=
 ARun.witness (PP.fnP h hn hok) ha fun ⟨_, _, _, hok', _⟩ => hk hok'
theorem PP.lexcP {W : List Nat} {MM : Mem → Prop} {K : List V → Mem → Prop} {o : Oper} {l : List Oper} {k : Nat} (h : PP bs f ar s v s') (hn : B.length = N) (hok : OkP bs s) (hok' : OkP bs s') (hS : MM ⟨B ++ [Z, O, bxP bs s], T⟩) (hk : W.contains k = true) (hg : o.guard = none)
 (h1 : ∃ q f0, o.op = .call q ∧ q.callee = .value f0 ∧ evalV TabI env f0 = .func f [] [] ∧ q.args.toList.map (evalV TabI env) = .ptr (N + 2) 0 :: ar) (h5 : lexC Tryz.prog TabI W MM K l (k + 1) (setV env o.dst v) ⟨B ++ [Z, O, bxP bs s'], T⟩) : lexC Tryz.prog TabI W MM K (o :: l) k env ⟨B ++ [Z, O, bxP bs s], T⟩ := by
 obtain ⟨q, f0, e1, e2, e3, e4⟩ := h1
 refine lexC_c (Q := fun v' m => v' = v ∧ OkP bs s' ∧ m = ⟨B ++ [Z, O, bxP bs s'], T⟩) hS hk hg e1 e2 e3 ⟨_, _, rfl, hok', rfl⟩ ?_ ?_
 ·rw [e4, List.nil_append, List.append_nil]
  exact PP.fnP h hn hok
 ·rintro v' S' ⟨rfl, _, rfl⟩
  exact h5
end
theorem haP {c : Nat} {env : List V} (q : Tmp) (h : evalV TabI env (.tmp q) = .ptr c 0) : ∀ x ∈ [V.ptr c 0], ∃ y : Operand, evalV TabI env y = x := by
 intro x hx
 obtain rfl := List.mem_singleton.1 hx
 exact ⟨_, h⟩
theorem retc2 {I : Inv} {z : Nat × Nat} {fn : FuncId} {R : V → Mem → Prop} {k : List Item} {env : List V} {S : Mem} {P : Program} {f : Func} {v : V} {a b : Nat} {t : TypeId} (hf : P.funcs[fn]? = some f) (hr : f.results.toList = [.cell a t, .tmp b]) (hv : opLoad P S t (env.getD a .undef) = some v) (hR : R (.tup [v, env.getD b .undef]) S) : ARun P I z fn (.code .ret :: k) env S R :=
 ARun.ret hf (by
  have h1 : resV1 P S env (.cell a t) = some v := hv
  rw [hr]
  simp only [resV, h1]
  rfl) hR
def finP (rg : PrT → Bool) (n : Nat) (s : Ps) : PrT × Int := if endP (progP true n s).2 (rg (progP true n s).1) = 0 then ((progP true n s).1, 0) else (⟨[], []⟩, endP (progP true n s).2 (rg (progP true n s).1))
theorem su1 (x : SuT) : rowsSz 2 [suD x] = true := rowsSz_su [x]
theorem fu1 (x : FuT) : rowsSz 4 [fuD x] = true := rowsSz_fu [x]
def prT (p : PrT) (t : Nat) : List V := [.sl (p.structs.map suD) (.own t), .sl (p.funcs.map fuD) (.own (t + 1))]
set_option maxHeartbeats 8000000 in
theorem parse_ab (bs : List UInt8) (h0 : True) (hl : bs.length ≤ 100000) (n : Nat) (hn1 : bs.length + 5 ≤ n) (hS : SOk bs (stmtF true n) n) (rg : PrT → Bool) (hR : ∀ p B T, AFn Tryz.prog TabI 9 [prV p] ⟨B, T⟩ (Same (.d (.bool (rg p))) ⟨B, T⟩)) (B : List (List V)) (T : List (Nat × Nat)) :
 AFn Tryz.prog TabI 6 [.d (.sl (byD bs))] ⟨B, T⟩ (Same (.tup [prV (finP rg n (startS bs)).1, .d (.int .i64 (finP rg n (startS bs)).2)]) ⟨B, T⟩) := by
 obtain ⟨N, hn⟩ : ∃ N, B.length = N := ⟨_, rfl⟩
 obtain ⟨t, ht⟩ : ∃ t, T.length = t := ⟨_, rfl⟩
 have hmu := (start_ok bs).mu_le
 obtain ⟨⟨p0, s0⟩, hP⟩ : ∃ r, progP true n (startS bs) = r := ⟨_, rfl⟩
 have hfin : finP rg n (startS bs) = if endP s0 (rg p0) = 0 then (p0, 0) else (⟨[], []⟩, endP s0 (rg p0)) := by unfold finP; rw [hP]
 rw [hfin]
 unfold progP at hP
 refine b6.go 20 rfl fun hsm => ?_
 simp only [smw] at hsm
 simp only [W, seval, c6, hn]
 have hop := open_ab bs h0 hl (B ++ [[.sl [] .full, .sl [] .full], [.sl [] .full, .sl [] .full]]) T
 rw [List.length_append, hn, List.append_assoc] at hop
 refine callS_fn hop ?_
 rintro _ _ ⟨rfl, rfl⟩
 have hd1 := (dn_want (startS bs) [112, 97, 99, 107, 97, 103, 101]).le
 obtain ⟨⟨tx, s2⟩, h2⟩ : ∃ r, nameP (wantP (startS bs) [112, 97, 99, 107, 97, 103, 101]) = r := ⟨_, rfl⟩
 have hd2 := (dn_name h2).le
 have hnp := name_pp bs h0 hl (wantP (startS bs) [112, 97, 99, 107, 97, 103, 101])
 rw [h2] at hP hnp
 dsimp only at hP hnp
 refine ARun.go 10 ?_
 simp only [W, seval, c6, hn]
 refine PP.callP (want_pp bs h0 hl (startS bs) [112, 97, 99, 107, 97, 103, 101]) hn (start_ok bs) fun hok1 => ?_
 refine ARun.go 10 ?_
 simp only [W, seval, c6, hn]
 refine PP.callP hnp hn hok1 fun hok2 => ?_
 refine ARun.go 2 ?_
 simp only [W, seval, c6]
 refine ARun.tokenB (N + 1) 0 _ [] (by rw [bx_loc hn]; rfl) (by rfl) 2 (by omega) rfl ?_
 rw [bx_set_loc hn]
 refine ARun.tokenB (N + 1) 1 [.sl [] (.own T.length), .sl [] .full] [] (by rw [bx_loc hn]; rfl) (by rfl) 4 (by omega) rfl ?_
 rw [bx_set_loc hn, List.append_assoc, List.length_append, ht]
 change ARun _ _ _ _ _ _ ⟨B ++ [[.sl [] .full, .sl [] .full], prT ⟨[], []⟩ t, bxP bs s2], T ++ [(0, 2), (0, 4)]⟩ _
 refine ARun.go 5 ?_
 simp only [W, seval, c6]
 refine ARun.after [_, _] _ (fun _ : Unit => (envS 56 [(2, .ptr N 0), (4, .ptr (N + 1) 0), (5, .ptr (N + 2) 0)], ⟨B ++ [[.sl [] .full, .sl [] .full], prT p0 t, bxP bs s0], T ++ [(p0.structs.length, 2), (p0.funcs.length, 4)]⟩)) (fun _ => OkP bs s0) ?_ ?_
 case refine_2 =>
  intro K' hend
  refine ARun.loopW (fun a : PrT × Ps => (envS 56 [(2, .ptr N 0), (4, .ptr (N + 1) 0), (5, .ptr (N + 2) 0)], ⟨B ++ [[.sl [] .full, .sl [] .full], prT a.1 t, bxP bs a.2], T ++ [(a.1.structs.length, 2), (a.1.funcs.length, 4)]⟩)) (fun a => OkP bs a.2 ∧ a.1.structs.length + a.1.funcs.length + mu a.2 ≤ mu s2 ∧ ∃ q, mu a.2 < q ∧ declL (stmtF true n) n q a.2 a.1 = (p0, s0)) (fun a => mu a.2) (⟨[], []⟩, s2) ⟨hok2, by simp, n, by dsimp only; omega, hP⟩ ?_ rfl ?_
  ·skip
   refine Agree.env _ ?_
   simp only [agw, seval, hn]
  rintro ⟨p, s5⟩ ⟨hok5, hle, q, hq, hr⟩ ih
  dsimp only at hok5 hle hq hr ih ⊢
  cases q with
  | zero => omega
  | succ q =>
  rw [declL] at hr
  have hk0 := dec_nat s5.w.kind 0
  simp only [Int.natCast_zero] at hk0
  by_cases he : s5.e = 0
  case neg =>
   have e1 := decide_eq_false he
   rw [if_neg (fun h => he h.1)] at hr
   obtain ⟨rfl, rfl⟩ := Prod.mk.inj hr
   refine ARun.goK (k := [_, _, _]) 80 ?_
   simp only [W, seval, c6, hn, bxP, e1]
   refine hend () hok5 _ _ ?_ rfl
   refine Agree.env _ ?_
   simp only [agw, seval, hn]
  have e1 := decide_eq_true he
  by_cases hk : s5.w.kind = 0
  case pos =>
   rw [decide_eq_true hk] at hk0
   rw [if_neg (fun h => h.2 hk)] at hr
   obtain ⟨rfl, rfl⟩ := Prod.mk.inj hr
   refine ARun.goK (k := [_, _, _]) 80 ?_
   simp only [W, seval, c6, hn, bxP, e1, hk0]
   refine hend () hok5 _ _ ?_ rfl
   refine Agree.env _ ?_
   simp only [agw, seval, hn]
  rw [decide_eq_false hk] at hk0
  rw [if_pos ⟨he, hk⟩] at hr
  have hmp : 0 < mu s5 := by rw [mu_live he, (hok5 he).2.2]; simp
  obtain ⟨⟨b, s6⟩, h6⟩ : ∃ r, gotP s5 [116, 121, 112, 101] = r := ⟨_, rfl⟩
  have hp6 := got_pp bs h0 hl s5 [116, 121, 112, 101]
  rw [h6] at hp6 hr
  dsimp only at hp6
  refine ARun.goK (k := [_, _, _]) 80 ?_
  simp only [W, seval, c6, hn, bxP, e1, hk0]
  refine PP.callP hp6 hn hok5 fun hok6 => ?_
  cases b
  case' true =>
   have hlt := got_lt h6
   dsimp only at hr
   obtain ⟨⟨x, s7⟩, hx⟩ : ∃ r, structP n s6 = r := ⟨_, rfl⟩
   have hpx := struct_pp bs h0 hl n s6 (by omega)
   have hd7 := (dn_struct hx).le
   rw [hx] at hpx hr
   dsimp only at hpx hr
   unfold suV at hpx
   have hcap : (p.structs.length + 1) * 40 ≤ 140737488355328 := by omega
   have hmap : p.structs.map suD ++ [suD x] = (p.structs ++ [x]).map suD := by simp
   have hlen : (p.structs ++ [x]).length = p.structs.length + 1 := by simp
   refine ARun.goK 7 ?_
   simp only [W, seval, c6, hn]
   refine PP.witP hpx hn hok6 (haP 5 (by rfl)) fun hok7 => ?_
   refine ARun.drawE 6 [3, 5, 7] (fun S => S.boxes[N + 1]? = some (prT p t)) (by kernel_rfl) (by kernel_rfl) (by kernel_rfl) (by kernel_rfl) (by kernel_rfl) ?_
   simp only [W, seval, c6]
   refine lexC_q (v := ?_) (by rfl) (by kernel_rfl) (fun S hS => ?_) ?_
   rotate_left
   ·simp only [W, seval, c6]
    exact rfl
   simp only [W, seval, c6]
   refine lexC_q (v := ?_) (by rfl) (by kernel_rfl) (fun S hS => ?_) ?_
   rotate_left
   ·try dsimp only at hS
    simp only [W, seval, c6, hS, prT]
    exact rfl
   simp only [W, seval, c6]
   refine lexC_q (v := ?_) (by rfl) (by kernel_rfl) (fun S hS => ?_) ?_
   rotate_left
   ·simp only [W, seval, c6]
    exact rfl
   simp only [W, seval, c6]
   refine PP.lexcP hpx hn hok6 hok7 (by simp [bx_loc, hn]) (by rfl) (by kernel_rfl) ?_ ?_
   ·simp only [W, seval, c6]
    exact ⟨_, _, rfl, rfl, by rfl, by rfl⟩
   simp only [W, seval, c6]
   refine lexC_q (v := ?_) (by rfl) (by kernel_rfl) (fun S hS => ?_) ?_
   rotate_left
   ·simp only [W, seval, c6, mapD_nil, mapD_cons, Nat.reduceMul, ← suD_eq]
    exact rfl
   simp only [W, seval, c6]
   refine lexC_w (v := ?_) (S' := ?_) ?_ (by rfl) (by kernel_rfl) ?_ ?_
   rotate_left 2
   ·first | trivial | simp [bx_loc, bx_loc0, hn, ht, hcap, hmap, su1, Nat.reduceMul]
   ·simp only [W, seval, c6, hn, ht, hcap, hmap, su1, Nat.reduceMul]
    exact rfl
   simp only [W, seval, c6]
   refine lexC_end (by simp [bx_loc, hn]) ?_
   refine lexC_q (v := ?_) (by rfl) (by kernel_rfl) (fun S hS => ?_) ?_
   rotate_left
   ·simp only [W, seval, c6]
    exact rfl
   simp only [W, seval, c6]
   refine lexC_w (v := ?_) (S' := ?_) ?_ (by rfl) (by kernel_rfl) ?_ ?_
   rotate_left 2
   ·first | trivial | simp [bx_loc, bx_loc0, hn, prT]
   ·simp only [W, seval, c6, hn, prT]
    exact rfl
   simp only [W, seval, c6]
   refine lexC_end trivial ?_
   refine ARun.goK (k := [_, _, _, _]) 5 ?_
   simp only [W, seval, c6]
   refine ih (⟨p.structs ++ [x], p.funcs⟩, s7) ⟨hok7, by dsimp only; omega, q, by dsimp only; omega, hr⟩ (by dsimp only; omega) _ _ ?_ (by dsimp only; rw [hlen]; rfl)
   refine Agree.env _ ?_
   simp only [agw, seval, hn]
  have e6 := got_no h6
  subst e6
  dsimp only at hr
  obtain ⟨⟨b, s7⟩, h7⟩ : ∃ r, gotP s6 [102, 117, 110, 99] = r := ⟨_, rfl⟩
  have hp7 := got_pp bs h0 hl s6 [102, 117, 110, 99]
  rw [h7] at hp7 hr
  dsimp only at hp7
  refine ARun.goK 20 ?_
  simp only [W, seval, c6, hn]
  refine PP.callP hp7 hn hok6 fun hok7 => ?_
  cases b
  case' true =>
   have hlt := got_lt h7
   dsimp only at hr
   obtain ⟨⟨x, s8⟩, hx⟩ : ∃ r, funcP (stmtF true n) n s7 = r := ⟨_, rfl⟩
   have hpx := func_pp bs h0 hl hS n (Nat.le_refl _) s7 (by omega)
   have hd7 := (dn_func (dn_stmtF true n) hx).le
   rw [hx] at hpx hr
   dsimp only at hpx hr
   unfold fuV at hpx
   have hcap : (p.funcs.length + 1) * 88 ≤ 140737488355328 := by omega
   have hmap : p.funcs.map fuD ++ [fuD x] = (p.funcs ++ [x]).map fuD := by simp
   have hlen : (p.funcs ++ [x]).length = p.funcs.length + 1 := by simp
   refine ARun.goK 7 ?_
   simp only [W, seval, c6, hn]
   refine PP.witP hpx hn hok7 (haP 5 (by rfl)) fun hok8 => ?_
   refine ARun.drawE 6 [3, 5, 7] (fun S => S.boxes[N + 1]? = some (prT p t)) (by kernel_rfl) (by kernel_rfl) (by kernel_rfl) (by kernel_rfl) (by kernel_rfl) ?_
   simp only [W, seval, c6]
   refine lexC_q (v := ?_) (by rfl) (by kernel_rfl) (fun S hS => ?_) ?_
   rotate_left
   ·simp only [W, seval, c6]
    exact rfl
   simp only [W, seval, c6]
   refine lexC_q (v := ?_) (by rfl) (by kernel_rfl) (fun S hS => ?_) ?_
   rotate_left
   ·try dsimp only at hS
    simp only [W, seval, c6, hS, prT]
    exact rfl
   simp only [W, seval, c6]
   refine lexC_q (v := ?_) (by rfl) (by kernel_rfl) (fun S hS => ?_) ?_
   rotate_left
   ·simp only [W, seval, c6]
    exact rfl
   simp only [W, seval, c6]
   refine PP.lexcP hpx hn hok7 hok8 (by simp [bx_loc, hn]) (by rfl) (by kernel_rfl) ?_ ?_
   ·simp only [W, seval, c6]
    exact ⟨_, _, rfl, rfl, by rfl, by rfl⟩
   simp only [W, seval, c6]
   refine lexC_q (v := ?_) (by rfl) (by kernel_rfl) (fun S hS => ?_) ?_
   rotate_left
   ·simp only [W, seval, c6, mapD_nil, mapD_cons, Nat.reduceMul, ← fuD_eq]
    exact rfl
   simp only [W, seval, c6]
   refine lexC_w (v := ?_) (S' := ?_) ?_ (by rfl) (by kernel_rfl) ?_ ?_
   rotate_left 2
   ·first | trivial | simp [bx_loc, bx_loc0, hn, ht, hcap, hmap, fu1, Nat.reduceMul]
   ·simp only [W, seval, c6, hn, ht, hcap, hmap, fu1, Nat.reduceMul]
    exact rfl
   simp only [W, seval, c6]
   refine lexC_end (by simp [bx_loc, hn]) ?_
   refine lexC_q (v := ?_) (by rfl) (by kernel_rfl) (fun S hS => ?_) ?_
   rotate_left
   ·simp only [W, seval, c6]
    exact rfl
   simp only [W, seval, c6]
   refine lexC_w (v := ?_) (S' := ?_) ?_ (by rfl) (by kernel_rfl) ?_ ?_
   rotate_left 2
   ·first | trivial | simp [bx_loc, bx_loc0, hn, prT]
   ·simp only [W, seval, c6, hn, prT]
    exact rfl
   simp only [W, seval, c6]
   refine lexC_end trivial ?_
   refine ARun.goK (k := [_, _, _, _]) 5 ?_
   simp only [W, seval, c6]
   refine ih (⟨p.structs, p.funcs ++ [x]⟩, s8) ⟨hok8, by dsimp only; omega, q, by dsimp only; omega, hr⟩ (by dsimp only; omega) _ _ ?_ (by dsimp only; rw [hlen]; rfl)
   refine Agree.env _ ?_
   simp only [agw, seval, hn]
  have e7 := got_no h7
  subst e7
  dsimp only at hr
  have hlt := fail_lt hmp
  refine ARun.goK 20 ?_
  simp only [W, seval, c6, hn]
  refine PP.callP (fail_pp bs s7 51 (by decide)) hn hok7 fun hok8 => ?_
  refine ARun.goK 20 ?_
  simp only [W, seval, c6, hn]
  refine ih (p, failP s7 51) ⟨hok8, by dsimp only; omega, q, by dsimp only; omega, hr⟩ (by dsimp only; omega) _ _ ?_ rfl
  refine Agree.env _ ?_
  simp only [agw, seval, hn]
 rintro ⟨⟩ hok0
 refine ARun.plainJ 1 _ [.d (.sl (p0.structs.map suD)), .d (.sl (p0.funcs.map fuD))] (by rfl) (.sl (.sl .nil)) ?_
 change ARun _ _ _ _ _ _ ⟨B ++ [[.sl [] .full, .sl [] .full], [.d (.sl (p0.structs.map suD)), .d (.sl (p0.funcs.map fuD))], bxP bs s0], _⟩ _
 have hcl : AFn Tryz.prog TabI 22 [.ptr (N + 1) 0] ⟨B ++ [[.sl [] .full, .sl [] .full], [.d (.sl (p0.structs.map suD)), .d (.sl (p0.funcs.map fuD))], bxP bs s0], T ++ [(p0.structs.length, 2), (p0.funcs.length, 4)]⟩ (Same (.d (.bool (rg p0))) ⟨B ++ [[.sl [] .full, .sl [] .full], [.d (.sl (p0.structs.map suD)), .d (.sl (p0.funcs.map fuD))], bxP bs s0], T ++ [(p0.structs.length, 2), (p0.funcs.length, 4)]⟩) := by
  refine b22.go 20 rfl fun hsm => ?_
  simp only [smw] at hsm
  simp only [W, seval, c22, hn]
  refine callS_fn (hR p0 _ _) ?_
  rintro _ _ ⟨rfl, rfl⟩
  refine ARun.go 20 ?_
  simp only [W, seval, c22]
  refine ARun.ret Tryz.func22 rfl (Left.none ?_)
  exact ⟨rfl, rfl⟩
 have hen := end_ab bs s0 (rg p0) 22 [.ptr (N + 1) 0] (N + 2) (B ++ [[.sl [] .full, .sl [] .full], [.d (.sl (p0.structs.map suD)), .d (.sl (p0.funcs.map fuD))], []]) (T ++ [(p0.structs.length, 2), (p0.funcs.length, 4)]) (by simp; omega) (by rw [setP3 hn]; exact hcl)
 rw [setP3 hn] at hen
 simp only [setP3 hn] at hen
 refine ARun.go 20 ?_
 simp only [W, seval, c6, hn]
 refine callS_fn hen ?_
 rintro _ _ ⟨rfl, s9, rfl⟩
 generalize endP s0 (rg p0) = e at *
 by_cases he : e = 0
 ·have e1 := decide_eq_true he
  rw [if_pos he]
  refine ARun.go 60 ?_
  simp only [W, seval, c6, hn, e1]
  refine retc2 (v := ?_) Tryz.func6 (by rfl) ?_ ?_
  rotate_left
  ·simp only [W, seval, c6, hn]
   exact rfl
  refine Left.all ?_
  simp only [W, seval, c6, wk, wkL, prV]
  exact ⟨rfl, rfl⟩
 ·have e1 := decide_eq_false he
  rw [if_neg he]
  refine ARun.go 60 ?_
  simp only [W, seval, c6, hn, e1]
  refine retc2 (v := ?_) Tryz.func6 (by rfl) ?_ ?_
  rotate_left
  ·simp only [W, seval, c6, hn]
   exact rfl
  refine Left.all ?_
  simp only [W, seval, c6, wk, wkL, prV]
  exact ⟨rfl, rfl⟩
end Go.Proofs.YtnnnhlkmdnacaaaGreatDoor
namespace Go.Ab
open Go.RowKit Go.Av
def CellsL (c : Cx) (w : World) (vs : List V) (l : List Value) : Prop := l.length = vs.length ∧ ∀ (j : Nat) (v : V), vs[j]? = some v → ∃ x, l[j]? = some x ∧ VR c w v x ∧ x.oneCell' = true
section
variable {P : Program} {c : Cx} {w : World} {S : Mem}
theorem CellsL.nil : CellsL c w [] [] := ⟨rfl, fun j v h => by simp at h⟩
theorem CellsL.append {a b : List V} {A B : List Value} (h : CellsL c w a A) (k : CellsL c w b B) : CellsL c w (a ++ b) (A ++ B) := by
 refine ⟨by simp [h.1, k.1], fun j v hv => ?_⟩
 rcases Nat.lt_or_ge j a.length with h' | h'
 ·rw [List.getElem?_append_left h'] at hv
  rw [List.getElem?_append_left (by rw [h.1]; exact h')]
  exact h.2 j v hv
 ·rw [List.getElem?_append_right h'] at hv
  rw [List.getElem?_append_right (by rw [h.1]; exact h'), h.1]
  exact k.2 _ v hv
theorem CellsL.take {a : List V} {A : List Value} (h : CellsL c w a A) (n : Nat) : CellsL c w (a.take n) (A.take n) := by
 refine ⟨by simp [h.1], fun j v hv => ?_⟩
 rw [List.getElem?_take] at hv ⊢
 split at hv
 ·rename_i hlt
  rw [if_pos hlt]
  exact h.2 j v hv
 ·cases hv
theorem CellsL.drop {a : List V} {A : List Value} (h : CellsL c w a A) (n : Nat) : CellsL c w (a.drop n) (A.drop n) := by
 refine ⟨by simp [h.1], fun j v hv => ?_⟩
 rw [List.getElem?_drop] at hv ⊢
 exact h.2 _ v hv
theorem CellsL.keep {c' : Cx} {w' : World} (hk : Keeps c w c' w') {a : List V} {A : List Value} (h : CellsL c w a A) : CellsL c' w' a A := ⟨h.1, fun j v hv => by
 obtain ⟨x, h1, h2, h3⟩ := h.2 j v hv
 exact ⟨x, h1, h2.keep hk, h3⟩⟩
theorem CellsL.at {a : List V} {A : List Value} (h : CellsL c w a A) (j : Nat) (hj : j < a.length) : VR c w a[j] (A.toArray.getD j undef) ∧ (A.toArray.getD j undef).oneCell' = true := by
 obtain ⟨x, h1, h2⟩ := h.2 j a[j] (List.getElem?_eq_getElem hj)
 obtain ⟨hl, rfl⟩ := List.getElem?_eq_some_iff.1 h1
 rw [getD_list_arr hl]
 exact h2
theorem Rep.cellsL (h : Rep c w S) {i b : Nat} (hi : c.ρ[i]? = some b) {vs : List V} (hv : S.boxes[i]? = some vs) : ∃ (cs : Array Value) (T : TypeId), w.heap[b]? = some (.cells cs T (0, 0)) ∧ CellsL c w vs cs.toList := by
 obtain ⟨cs, T, hh, hsz, hc⟩ := h.boxCells hi hv
 refine ⟨cs, T, hh, by simpa using hsz, fun j v hj => ?_⟩
 obtain ⟨hlt, rfl⟩ := List.getElem?_eq_some_iff.1 hj
 have hl : j < cs.size := by omega
 have := hc j hlt
 rw [getD_arr hl] at this
 exact ⟨cs[j], by simp [hl], this.2⟩
def BxIs (n sz : Nat) (G : List (List V)) (rows : List (List D)) (v : V) : Prop :=
 (G = [] ∧ rows = [] ∧ v = .sl [] .full) ∨ ∃ G0 cap, G = G0 ++ [rows.flatten.map .d ++ List.replicate ((cap - rows.length) * sz) .undef] ∧ v = .bx (n + G0.length) rows.length cap ∧ rowsSz sz rows = true ∧ (∀ vs ∈ G0, vs.all (fit 0 0) = true) ∧ rows.length ≤ cap
theorem fit_flat (rows : List (List D)) (k : Nat) : (rows.flatten.map V.d ++ List.replicate k V.undef).all (fit 0 0) = true := by
 rw [List.all_eq_true]
 intro v hv
 rcases List.mem_append.1 hv with h | h
 ·obtain ⟨d, _, rfl⟩ := List.mem_map.1 h
  rfl
 ·obtain rfl := List.eq_of_mem_replicate h
  rfl
theorem BxIs.fits {n sz : Nat} {G : List (List V)} {rows : List (List D)} {v : V} (h : BxIs n sz G rows v) : ∀ vs ∈ G, vs.all (fit 0 0) = true := by
 rcases h with ⟨rfl, _, _⟩ | ⟨G0, cap, rfl, _, _, h, _⟩
 ·intro vs h; cases h
 ·intro vs hv
  rcases List.mem_append.1 hv with h' | h'
  ·exact h vs h'
  ·obtain rfl := List.mem_singleton.1 h'
   exact fit_flat _ _
theorem flat_len {sz : Nat} : ∀ {rows : List (List D)}, (∀ r ∈ rows, r.length = sz) → rows.flatten.length = rows.length * sz
 | [], _ => by simp
 | r :: rows, h => by
  rw [List.flatten_cons, List.length_append, h r (by simp), flat_len fun q hq => h q (List.mem_cons_of_mem _ hq), List.length_cons, Nat.add_mul]
  omega
theorem flat_get {sz : Nat} : ∀ {rows : List (List D)}, (∀ r ∈ rows, r.length = sz) → ∀ (j q : Nat) (r : List D) (d : D), rows[j]? = some r → r[q]? = some d → rows.flatten[j * sz + q]? = some d
 | [], _, j, q, r, d, h, _ => by simp at h
 | r0 :: rows, hs, j, q, r, d, h, hq => by
  have h0 := hs r0 (by simp)
  cases j with
  | zero =>
   obtain rfl : r0 = r := by simpa using h
   have := (List.getElem?_eq_some_iff.1 hq).1
   rw [List.flatten_cons, Nat.zero_mul, Nat.zero_add, List.getElem?_append_left this]
   exact hq
  | succ j =>
   have := flat_get (fun x hx => hs x (List.mem_cons_of_mem _ hx)) j q r d (by simpa using h) hq
   rw [List.flatten_cons, List.getElem?_append_right (by rw [h0, Nat.add_mul]; omega), h0, ← this]
   congr 1
   rw [Nat.add_mul]
   omega
theorem flat_mlen {sz : Nat} {rows : List (List D)} (h : ∀ r ∈ rows, r.length = sz) : (rows.flatten.map V.d).length = rows.length * sz := by rw [List.length_map]; exact flat_len h
theorem flat_snoc (rows : List (List D)) (r : List D) : (rows ++ [r]).flatten.map V.d = rows.flatten.map V.d ++ r.map V.d := by simp
theorem one_row {x : V} {X : Value} {r : List D} {sz : Nat} (hx : VR c w x X) (hd : toD x = some (.sl [r])) (hr : r.length = sz) : ∃ (a : Option Addr) (cap : Nat) (F : Nat → Value), X = .slice a 1 cap ∧ CellsL c w (r.map .d) ((List.range (1 * sz)).map F) ∧
 ∀ W : World, W.heap = w.heap → (Builtin.firstCells sz 1 X).run P W = .ok ((List.range (1 * sz)).map F).toArray W := by
 have hD := VR_toD hx hd
 have hsl : ∃ a n cap, X = .slice a n cap := by cases hD; exact ⟨_, _, _, rfl⟩
 obtain ⟨a, n, cap, rfl⟩ := hsl
 obtain ⟨hn, _, _, F, hF, hFd⟩ := hD.flat sz (fun q hq => by rw [List.mem_singleton.1 hq]; exact hr)
 have hn : n = 1 := hn
 subst hn
 refine ⟨a, cap, F, rfl, ⟨by simp [hr], fun j v hv => ?_⟩, fun W hW => run_first (rows := [r]) rfl hF W hW⟩
 rw [List.getElem?_map] at hv
 obtain ⟨d, hd, rfl⟩ := Option.map_eq_some_iff.1 hv
 obtain ⟨hj, rfl⟩ := List.getElem?_eq_some_iff.1 hd
 have := hFd 0 (by simp) j (by simpa using hj)
 simp only [List.getElem_cons_zero, Nat.zero_mul, Nat.zero_add] at this
 exact ⟨F j, by simp [← hr, hj], .d _ _ this, this.one⟩
theorem zeros_ok {z : Value} (h1 : ∀ u ∈ z.cells.toList, u.oneCell' = true) (sz : Nat) (h2 : z.cells.size = sz) (n : Nat) : CellsL c w (List.replicate (n * sz) .undef) (Builtin.zeroCells z.cells n).toList := by
 have hsz : (Builtin.zeroCells z.cells n).toList.length = n * sz := by simp [size_zeroCells, h2]
 refine ⟨by rw [hsz]; simp, fun j v hv => ?_⟩
 rw [List.getElem?_replicate] at hv
 split at hv
 case isFalse => cases hv
 rename_i hj
 obtain rfl := Option.some.inj hv
 have hj2 : j < n * z.cells.size := by rw [h2]; exact hj
 have hz0 : 0 < z.cells.size := by
  rcases Nat.eq_zero_or_pos z.cells.size with h | h
  ·rw [h] at hj2; omega
  ·exact h
 have hm := Nat.mod_lt j hz0
 refine ⟨z.cells[j % z.cells.size], ?_, .undef _, h1 _ (by simp)⟩
 simp only [Builtin.zeroCells, Array.getElem?_toList, Array.getElem?_map]
 rw [Array.getElem?_range, if_pos hj2]
 simp only [Option.map_some]
 rw [getElem!_pos z.cells (j % z.cells.size) hm]
theorem Rep.grow {L : List (List V)} {T : List (Nat × Nat)} (h : Rep c w ⟨L, T⟩) {ts us ty e : TypeId} {ti te ui : TyI} (hti : tyOf P ts = some ti) (he : ti.d = .slice e) (hte : tyOf P e = some te) (hui : tyOf P us = some ui) (hue : ∃ k, ui.d = .slice k) (a : Option Addr) (n cap : Nat) (old : List V) (xs : List Value)
 (hxs : CellsL c w old xs) (hold : ∀ W : World, W.heap = w.heap → (Builtin.firstCells te.size n (.slice a n cap)).run P W = .ok xs.toArray W) (hcap : ¬ n + 1 ≤ cap) (hc63 : n + 1 ≤ 9223372036854775807) {x : V} {X : Value} {r : List D} (hx : VR c w x X) (hd : toD x = some (.sl [r])) (hr : r.length = te.size) (hb : (n + 1) * te.bytes ≤ 140737488355328) :
 ∃ w' c' cap', (Builtin.append_ #[ts, us] ty #[.slice a n cap, X]).run P w = .ok (.slice (some ⟨w.heap.size, 0, none⟩) (n + 1) cap') w' ∧ n + 1 ≤ cap' ∧ Rep c' w' ⟨L ++ [old ++ r.map .d ++ List.replicate ((cap' - (n + 1)) * te.size) .undef], T⟩ ∧ Ext c w c' w' ∧ VR c' w' (.bx L.length (n + 1) cap') (.slice (some ⟨w.heap.size, 0, none⟩) (n + 1) cap') := by
 obtain ⟨fi, d, z, h1, h2, h3, h4, h5, h6, _⟩ := tyOf_info hti
 obtain ⟨gi, d2, z2, g1, g2, g3, g4, g5, g6, g7, g8, g9, g10⟩ := tyOf_info hte
 obtain ⟨ui1, d3, z3, u1, u2, u3, u4, u5, u6, _⟩ := tyOf_info hui
 rw [he] at h6
 obtain rfl := tdOf_slice h6
 obtain ⟨ke, hke⟩ := hue
 rw [hke] at u6
 obtain rfl := tdOf_slice u6
 have Ty : SlTy P ts e te.size te.bytes := ⟨h2, gi, z2, g1, g3, g4, g5, g8⟩
 obtain ⟨ax, capx, F, rfl, hF, hfirst⟩ := one_row (P := P) hx hd hr
 obtain ⟨i, zz, k1, k2, k3, hrun⟩ := run_app_grow (P := P) (w := w) (ty := ty) Ty ⟨_, u2, by simp⟩ a n cap 1 hcap (.slice ax 1 capx) xs ((List.range (1 * te.size)).map F) (fun W => by simp [Builtin.lenOf]) hfirst hold hc63 hb
 rw [g1] at k1
 obtain rfl := Option.some.inj k1
 rw [g3] at k2
 obtain rfl := Option.some.inj k2
 have hge := grownCap_ge w (n + 1) cap e
 have hcm : grownCap w (n + 1) cap e ≤ 9223372036854775807 := grownCap_le_maxLen w (n + 1) cap e (by unfold maxLen; omega)
 unfold grownWorld at hrun
 generalize grownCap w (n + 1) cap e = cap' at hrun hge hcm
 have hdr : Below w.heap.size w w.drew := (Below.refl _ _).drew
 obtain ⟨r1, r2⟩ := h.under hdr
 have hcells := ((hxs.append hF).append (zeros_ok (c := c) (w := w) g10 te.size k3 (cap' - (n + 1)))).keep r2.keeps
 have harr : xs.toArray ++ ((List.range (1 * te.size)).map F).toArray ++ Builtin.zeroCells z2.cells (cap' - (n + 1)) = (xs ++ (List.range (1 * te.size)).map F ++ (Builtin.zeroCells z2.cells (cap' - (n + 1))).toList).toArray := by
  apply Array.ext'
  simp
 rw [harr] at hrun
 obtain ⟨q1, q2⟩ := r1.box_new _ e _ (by simpa using hcells.1) (hcells.at)
 refine ⟨_, _, cap', hrun, hge, q1, r2.trans q2, .bx _ _ _ _ ?_ hge hcm⟩
 show (c.ρ ++ [w.drew.heap.size])[L.length]? = _
 rw [show L.length = c.ρ.length from h.len]
 simp
theorem Rep.appB {L G : List (List V)} {T : List (Nat × Nat)} (h : Rep c w ⟨L ++ G, T⟩) {ts us ty e : TypeId} {ti te ui : TyI} (hti : tyOf P ts = some ti) (he : ti.d = .slice e) (hte : tyOf P e = some te) (hui : tyOf P us = some ui) (hue : ∃ k, ui.d = .slice k) {rows : List (List D)} {s x : V} {A X : Value} {r : List D}
 (hs : BxIs L.length te.size G rows s) (hA : VR c w s A) (hx : VR c w x X) (hd : toD x = some (.sl [r])) (hr : r.length = te.size) (hb : (rows.length + 1) * te.bytes ≤ 140737488355328) (hb1 : 1 ≤ te.bytes) :
 ∃ y w' c' v G', (Builtin.append_ #[ts, us] ty #[A, X]).run P w = .ok y w' ∧ (BxIs L.length te.size G' (rows ++ [r]) v ∧ ∃ i k cap, v = .bx i k cap) ∧ Rep c' w' ⟨L ++ G', T⟩ ∧ Ext c w c' w' ∧ VR c' w' v y := by
 have hmul : rows.length + 1 ≤ (rows.length + 1) * te.bytes := Nat.le_mul_of_pos_right _ (by omega)
 rcases hs with ⟨rfl, rfl, rfl⟩ | ⟨G0, cap, rfl, rfl, hrs, hG0, hcap⟩
 ·cases hA with
  | full _ a hdr ha =>
   obtain ⟨w', c', cap', k1, k2, k3, k4, k5⟩ := h.grow (ty := ty) hti he hte hui hue a 0 0 [] [] .nil (fun W hW => by
    obtain ⟨_, _, _, F, hF, _⟩ := hdr.flat te.size (by simp)
    have := run_first (P := P) (sz := te.size) (cap := 0) (a := a) (rows := []) (n := 0) rfl hF W hW
    simpa using this) (by omega) (by omega) hx hd hr hb
   refine ⟨_, w', c', _, _, k1, ⟨.inr ⟨[], cap', rfl, ?_, ?_, by simp, by simpa using k2⟩, _, _, _, rfl⟩, ?_, k4, k5⟩
   ·simp
   ·simp [rowsSz, hr]
   ·simpa using k3
 ·have hrows := rowsSz_iff hrs
  have hfl := flat_mlen hrows
  obtain ⟨fm, hfm⟩ : ∃ fm, rows.flatten.map V.d = fm := ⟨_, rfl⟩
  rw [hfm] at h hfl
  have hff : fm.all (fit 0 0) = true := by
   have := fit_flat rows 0
   rwa [List.replicate_zero, List.append_nil, hfm] at this
  obtain ⟨J, hJe⟩ : ∃ J, List.replicate ((cap - rows.length) * te.size) V.undef = J := ⟨_, rfl⟩
  have hJ : J.length = (cap - rows.length) * te.size := by rw [← hJe]; simp
  have hJf : J.all (fit 0 0) = true := by
   rw [← hJe, List.all_eq_true]
   intro v hv
   obtain rfl := List.eq_of_mem_replicate hv
   rfl
  rw [hJe] at h
  cases hA with
  | bx _ _ _ b hi hn hm =>
   have hbox : (⟨L ++ (G0 ++ [fm ++ J]), T⟩ : Mem).boxes[L.length + G0.length]? = some (fm ++ J) := by
    show (L ++ (G0 ++ [fm ++ J]))[L.length + G0.length]? = _
    rw [← List.append_assoc, List.getElem?_append_right (by simp)]
    simp
   obtain ⟨cs, Tb, hh, hcs⟩ := h.cellsL hi hbox
   have htk := hcs.take (rows.length * te.size)
   have htl : (fm ++ J).take (rows.length * te.size) = fm := by
    rw [List.take_append_of_le_length (by simp [hfl]), List.take_of_length_le (by simp [hfl])]
   rw [htl] at htk
   have hcsl : cs.size = rows.length * te.size + J.length := by
    have := hcs.1
    simp [hfl] at this
    exact this
   by_cases hroom : rows.length + 1 ≤ cap
   ·obtain ⟨ax, capx, F, rfl, hF, hfirst⟩ := one_row (P := P) hx hd hr
    obtain ⟨fi, d, z, h1, h2, h3, h4, h5, h6, _⟩ := tyOf_info hti
    obtain ⟨gi, d2, z2, g1, g2, g3, g4, g5, g6, g7, g8, g9, g10⟩ := tyOf_info hte
    obtain ⟨ui1, d3, z3, u1, u2, u3, u4, u5, u6, _⟩ := tyOf_info hui
    rw [he] at h6
    obtain rfl := tdOf_slice h6
    obtain ⟨ke, hke⟩ := hue
    rw [hke] at u6
    obtain rfl := tdOf_slice u6
    have Ty : SlTy P ts e te.size te.bytes := ⟨h2, gi, z2, g1, g3, g4, g5, g8⟩
    have hJ1 : te.size ≤ J.length := by
     rw [hJ]
     exact Nat.le_mul_of_pos_left _ (by omega)
    have hst := storeCells_at (P := P) b (rows.length * te.size) Tb (0, 0) ((List.range (1 * te.size)).map F) 0 cs w hh (by simp; omega) (by simp) (fun u hu => by
     obtain ⟨j, hj, rfl⟩ := List.mem_iff_getElem.1 hu
     have hj' : j < te.size := by simpa using hj
     obtain ⟨x, e1, _, e2⟩ := hF.2 j (.d (r[j]'(by omega))) (by simp [hr, hj'])
     rw [List.getElem?_eq_getElem hj] at e1
     rw [Option.some.inj e1]
     exact e2)
    have hrun := run_app_in (P := P) (ty := ty) Ty ⟨_, u2, by simp⟩ b 0 rows.length cap 1 hroom (.slice ax 1 capx) _ (fun W => by simp [Builtin.lenOf]) hfirst (by simpa using hst)
    have hnew := (htk.append hF).append (hcs.drop (rows.length * te.size + te.size))
    have hdl : (fm ++ J).drop (rows.length * te.size + te.size) = J.drop te.size := by
     rw [List.drop_append]
     simp [hfl]
    rw [hdl] at hnew
    obtain ⟨q1, q2⟩ := h.setBox hi (cs.toList.take (rows.length * te.size + 0) ++ (List.range (1 * te.size)).map F ++ cs.toList.drop (rows.length * te.size + 0 + ((List.range (1 * te.size)).map F).length)).toArray (fm ++ r.map .d ++ J.drop te.size) (by
     have := hnew.1
     simpa using this) (fun j hj => by
     have := hnew.at j hj
     simpa using this)
    have hJd : J.drop te.size = List.replicate ((cap - (rows ++ [r]).length) * te.size) .undef := by
     rw [← hJe, List.drop_replicate]
     congr 1
     simp only [List.length_append, List.length_cons, List.length_nil]
     rw [show cap - (rows.length + (0 + 1)) = (cap - rows.length) - 1 by omega, Nat.sub_mul (cap - rows.length) 1 te.size, Nat.one_mul]
    refine ⟨_, _, c, _, G0 ++ [(fm ++ r.map .d) ++ J.drop te.size], by simpa using hrun, ⟨.inr ⟨G0, cap, by rw [flat_snoc, hfm, hJd], ?_, ?_, hG0, by simpa using hroom⟩, _, _, _, rfl⟩, ?_, q2, .bx (L.length + G0.length) (rows ++ [r]).length cap b (q2.keeps.ρ _ _ hi) (by simpa using hroom) hm⟩
    ·rfl
    ·simp only [rowsSz, List.all_append, List.all_cons, List.all_nil, Bool.and_true, Bool.and_eq_true]
     exact ⟨hrs, by simp [hr]⟩
    ·have hset : (L ++ (G0 ++ [fm ++ J])).set (L.length + G0.length) (fm ++ r.map .d ++ J.drop te.size) = L ++ (G0 ++ [(fm ++ r.map .d) ++ J.drop te.size]) := by
      rw [← List.append_assoc, List.set_append_right _ _ (by simp)]
      simp
     rw [← hset]
     exact q1
   ·have hce : cap = rows.length := by omega
    subst hce
    obtain ⟨w', c', cap', k1, k2, k3, k4, k5⟩ := h.grow (ty := ty) hti he hte hui hue (some ⟨b, 0, none⟩) rows.length rows.length (fm) (cs.toList.take (rows.length * te.size)) htk (fun W hW => by
     refine run_firstCells_some (P := P) W te.size rows.length ⟨b, 0, none⟩ rows.length rows.length (cs.toList.take (rows.length * te.size)) (by simp; omega) (fun j v hv => ?_)
     rw [Addr.add_plain, Nat.zero_add]
     rw [List.getElem?_take] at hv
     split at hv
     case isFalse => cases hv
     simp only [World.cell?, hW, hh]
     simpa using hv) (by omega) (by omega) hx hd hr hb
    refine ⟨_, w', c', _, (G0 ++ [fm ++ J]) ++ [(fm ++ r.map .d) ++ List.replicate ((cap' - (rows.length + 1)) * te.size) .undef], k1, ⟨.inr ⟨G0 ++ [fm ++ J], cap', by rw [flat_snoc, hfm]; simp, ?_, ?_, ?_, by simpa using k2⟩, _, _, _, rfl⟩, ?_, k4, k5⟩
    ·simp
    ·simp only [rowsSz, List.all_append, List.all_cons, List.all_nil, Bool.and_true, Bool.and_eq_true]
     exact ⟨hrs, by simp [hr]⟩
    ·intro vs hv
     rcases List.mem_append.1 hv with h' | h'
     ·exact hG0 vs h'
     ·obtain rfl := List.mem_singleton.1 h'
      rw [List.all_append, hff, hJf]
      rfl
    ·simpa using k3
theorem OpR.appB {I : Inv} {env : List V} {o : Oper} {L G : List (List V)} {T : List (Nat × Nat)} {so xo : Operand} {ts us e : TypeId} {ti te ui : TyI} {rows : List (List D)} {s x : V} {r : List D} (ho : o.op = .call ⟨.builtin .append, #[so, xo], #[ts, us]⟩)
 (hti : tyOf P ts = some ti) (he : ti.d = .slice e) (hte : tyOf P e = some te) (hui : tyOf P us = some ui) (hue : ∃ k, ui.d = .slice k) (hes : evalV I env so = s) (hex : evalV I env xo = x) (hs : BxIs L.length te.size G rows s) (hd : toD x = some (.sl [r])) (hr : r.length = te.size) (hb : (rows.length + 1) * te.bytes ≤ 140737488355328) (hb1 : 1 ≤ te.bytes) :
 OpR P I o env ⟨L ++ G, T⟩ fun v S' => ∃ G', S' = ⟨L ++ G', T⟩ ∧ BxIs L.length te.size G' (rows ++ [r]) v ∧ ∃ i k cap, v = .bx i k cap := by
 intro c w ev h1 h2 h3
 have hop : ∀ y, y = so ∨ y = xo → y ∈ o.op.operands := by
  intro y hy
  rw [ho]
  simp only [Op.operands, Call.operands]
  rcases hy with rfl | rfl <;> simp
 have hA := h3 so (hop so (.inl rfl))
 have hX := h3 xo (hop xo (.inr rfl))
 rw [hes] at hA
 rw [hex] at hX
 obtain ⟨y, w', c', v, G', k1, ⟨k2, k3⟩, k4, k5, k6⟩ := h1.appB (ty := o.type) hti he hte hui hue hs hA hX hd hr hb hb1
 refine ⟨y, w', c', v, _, ?_, ⟨G', rfl, k2, k3⟩, k4, k5, k6⟩
 simp [execOp, ho, resolve, invoke, builtin, k1]
theorem BxIs.exist {n sz : Nat} {rows : List (List D)} (h : ∀ r ∈ rows, r.length = sz) : ∃ G v, BxIs n sz G rows v ∧ ∃ i k cap, v = .bx i k cap :=
 ⟨[rows.flatten.map .d ++ List.replicate ((rows.length - rows.length) * sz) .undef], .bx (n + 0) rows.length rows.length, .inr ⟨[], rows.length, rfl, rfl, by simpa [rowsSz] using h, by simp, Nat.le_refl _⟩, _, _, _, rfl⟩
theorem BxIs.store {L G : List (List V)} {T : List (Nat × Nat)} {t : TypeId} {te : TyI} {rows : List (List D)} {v : V} {i k cap j : Nat} {r : List D} (hte : tyOf P t = some te) (h : BxIs L.length te.size G rows v) (hv : v = .bx i k cap) (hj : j < rows.length) (hr : r.length = te.size) :
 ∃ G', opStore P ⟨L ++ G, T⟩ t (.ptr i (j * te.size)) (.agg (r.map .d)) = some (.undef, ⟨L ++ G', T⟩) ∧ BxIs L.length te.size G' (rows.set j r) v := by
 rcases h with ⟨rfl, rfl, h2⟩ | ⟨G0, cap2, rfl, h2, hrs, hG0, hcap⟩
 ·exact absurd hj (by simp)
 ·rw [h2] at hv
  cases hv
  obtain ⟨J, hJe⟩ : ∃ J, List.replicate ((cap - rows.length) * te.size) V.undef = J := ⟨_, rfl⟩
  rw [hJe]
  have hrows := rowsSz_iff hrs
  have hfl := flat_mlen hrows
  have hlt := row_lt (sz := te.size) hj (q := 0)
  have hle : j * te.size + te.size ≤ rows.length * te.size := by
   have := Nat.mul_le_mul_right te.size (show j + 1 ≤ rows.length by omega)
   rw [Nat.add_mul] at this
   omega
  have hg : (⟨L ++ (G0 ++ [rows.flatten.map V.d ++ J]), T⟩ : Mem).boxes[L.length + G0.length]? = some (rows.flatten.map .d ++ J) := by
   show (L ++ (G0 ++ [rows.flatten.map .d ++ J]))[L.length + G0.length]? = _
   rw [← List.append_assoc, List.getElem?_append_right (by simp)]
   simp
  refine ⟨G0 ++ [(rows.set j r).flatten.map .d ++ J], ?_, .inr ⟨G0, cap, by rw [List.length_set, hJe], by rw [List.length_set]; exact h2, ?_, hG0, by simpa using hcap⟩⟩
  ·unfold opStore
   simp only [hte, cellsV, hg]
   rw [if_pos ⟨by simpa using hr, by rw [List.length_append, hfl]; omega⟩]
   have hset : (rows.flatten.map V.d ++ J).take (j * te.size) ++ r.map .d ++ (rows.flatten.map V.d ++ J).drop (j * te.size + (r.map V.d).length) = (rows.set j r).flatten.map .d ++ J := by
    have e1 : rows = rows.take j ++ rows[j] :: rows.drop (j + 1) := by rw [← List.drop_eq_getElem_cons hj, List.take_append_drop]
    have e2 : rows.set j r = rows.take j ++ r :: rows.drop (j + 1) := List.set_eq_take_append_cons_drop.trans (if_pos hj)
    have f1 : ((rows.take j).flatten.map V.d).length = j * te.size := by
     rw [flat_mlen (fun q hq => hrows q (List.mem_of_mem_take hq))]
     simp only [List.length_take]
     rw [Nat.min_eq_left (by omega)]
    have f2 : (rows[j].map V.d).length = te.size := by simpa using hrows _ (List.getElem_mem hj)
    rw [e2]
    conv => lhs; rw [e1]
    simp only [List.flatten_append, List.flatten_cons, List.map_append, List.append_assoc]
    generalize (rows.take j).flatten.map V.d = A at f1 ⊢
    generalize rows[j].map V.d = X at f2 ⊢
    rw [show (r.map V.d).length = te.size by simpa using hr]
    rw [List.take_append_of_le_length (by omega), List.take_of_length_le (by omega), List.drop_append, List.drop_append]
    rw [List.drop_eq_nil_of_le (by omega), List.nil_append, f1, f2, Nat.add_sub_cancel_left, List.drop_eq_nil_of_le (by omega), List.nil_append, Nat.sub_self, List.drop_zero]
   rw [hset]
   congr 3
   rw [← List.append_assoc, List.set_append_right _ _ (by simp)]
   simp
  ·simp only [rowsSz, List.all_eq_true] at hrs ⊢
   intro q hq
   rcases List.mem_or_eq_of_mem_set hq with h | rfl
   ·exact hrs q h
   ·simpa using hr
theorem BxIs.load {L G : List (List V)} {T : List (Nat × Nat)} {t : TypeId} {te : TyI} {rows : List (List D)} {v : V} {i k cap j : Nat} {r : List D} (hte : tyOf P t = some te) (hag : te.agg = true) (h : BxIs L.length te.size G rows v) (hv : v = .bx i k cap) (hj : rows[j]? = some r) : opLoad P ⟨L ++ G, T⟩ t (.ptr i (j * te.size)) = some (.agg (r.map .d)) := by
 obtain ⟨hjl, hjr⟩ := List.getElem?_eq_some_iff.1 hj
 clear hj
 have hj := hjl
 subst hjr
 rcases h with ⟨rfl, rfl, h2⟩ | ⟨G0, cap2, rfl, h2, hrs, hG0, hcap⟩
 ·exact absurd hj (by simp)
 ·rw [h2] at hv
  cases hv
  obtain ⟨J, hJe⟩ : ∃ J, List.replicate ((cap - rows.length) * te.size) V.undef = J := ⟨_, rfl⟩
  rw [hJe]
  have hrows := rowsSz_iff hrs
  have hfl := flat_mlen hrows
  have hle : j * te.size + te.size ≤ rows.length * te.size := by
   have := Nat.mul_le_mul_right te.size (show j + 1 ≤ rows.length by omega)
   rw [Nat.add_mul] at this
   omega
  have hg : (⟨L ++ (G0 ++ [rows.flatten.map V.d ++ J]), T⟩ : Mem).boxes[L.length + G0.length]? = some (rows.flatten.map .d ++ J) := by
   show (L ++ (G0 ++ [rows.flatten.map .d ++ J]))[L.length + G0.length]? = _
   rw [← List.append_assoc, List.getElem?_append_right (by simp)]
   simp
  unfold opLoad
  simp only [hte, hg, loadV, hag, if_true]
  rw [if_pos (by rw [List.length_append, hfl]; omega)]
  congr 2
  have e1 : rows = rows.take j ++ rows[j] :: rows.drop (j + 1) := by rw [← List.drop_eq_getElem_cons hj, List.take_append_drop]
  have f1 : ((rows.take j).flatten.map V.d).length = j * te.size := by
   rw [flat_mlen (fun q hq => hrows q (List.mem_of_mem_take hq))]
   simp only [List.length_take]
   rw [Nat.min_eq_left (by omega)]
  have f2 : (rows[j].map V.d).length = te.size := by simpa using hrows _ (List.getElem_mem hj)
  conv => lhs; rw [e1]
  simp only [List.flatten_append, List.flatten_cons, List.map_append, List.append_assoc]
  generalize (rows.take j).flatten.map V.d = A at f1 ⊢
  generalize rows[j].map V.d = X at f2 ⊢
  rw [List.drop_append, List.drop_eq_nil_of_le (by omega), List.nil_append, f1, Nat.sub_self, List.drop_zero, List.take_append_of_le_length (by omega), List.take_of_length_le (by omega)]
theorem opStore_app {A A' J : List (List V)} {T T' : List (Nat × Nat)} {t : TypeId} {p x v : V} (h : opStore P ⟨A, T⟩ t p x = some (v, ⟨A', T'⟩)) : opStore P ⟨A ++ J, T⟩ t p x = some (v, ⟨A' ++ J, T'⟩) := by
 unfold opStore at h ⊢
 split at h
 case h_2 => cases h
 rename_i ti i k vs hti hcv
 split at h
 case h_2 => cases h
 rename_i us hus
 have hi : i < A.length := (List.getElem?_eq_some_iff.1 hus).1
 have hus' : (A ++ J)[i]? = some us := by rw [List.getElem?_append_left hi]; exact hus
 simp only [hus']
 split at h
 case isFalse => cases h
 rename_i hc
 rw [if_pos hc]
 obtain ⟨rfl, h2⟩ := Prod.mk.inj (Option.some.inj h)
 obtain ⟨rfl, rfl⟩ := Mem.mk.inj h2
 rw [List.set_append_left _ _ hi]
theorem BxIs.lt {n sz : Nat} {G : List (List V)} {rows : List (List D)} {v : V} {i k cap : Nat} (h : BxIs n sz G rows v) (hv : v = .bx i k cap) : i < n + G.length := by
 rcases h with ⟨_, rfl, h2⟩ | ⟨G0, cap2, rfl, h2, hrs, hG0, hcap⟩
 ·rw [h2] at hv; cases hv
 ·rw [h2] at hv; cases hv; simp
theorem BxIs.idx {t e : TypeId} {ti te : TyI} {i k cap j : Nat} {q : IntKind} (hti : tyOf P t = some ti) (he : ti.d = .slice e) (hte : tyOf P e = some te) (hj : j < k) : opIndexAddr P t (.bx i k cap) (.d (.int q (j : Int))) = some (.ptr i (j * te.size)) := by
 unfold opIndexAddr
 simp only [hti, toD, opIdxB, he, hte]
 rw [if_pos ⟨by omega, by omega⟩]
 simp
theorem BxIs.opLen {n sz : Nat} {G : List (List V)} {rows : List (List D)} {v : V} {t e : TypeId} {ti : TyI} (hti : tyOf P t = some ti) (he : ti.d = .slice e) (h : BxIs n sz G rows v) : Ab.opLen P t v = some (.d (.int .i64 (rows.length : Int))) := by
 rcases h with ⟨rfl, rfl, rfl⟩ | ⟨G0, cap, rfl, rfl, _⟩
 ·simp [Ab.opLen, hti, toD, he]
 ·simp [Ab.opLen, hti, toD, opLenB, he]
theorem BxIs.len {n sz : Nat} {G : List (List V)} {rows : List (List D)} {v : V} {i k cap : Nat} (h : BxIs n sz G rows v) (hv : v = .bx i k cap) : k = rows.length := by
 rcases h with ⟨_, rfl, h2⟩ | ⟨G0, cap2, rfl, h2, hrs, hG0, hcap⟩
 ·rw [h2] at hv; cases hv
 ·rw [h2] at hv; cases hv; rfl
end
mutual
def frz (n i : Nat) (rows : List (List D)) : V → V
 | .ptr j k => if j < n then .ptr j k else .undef
 | .bx j k cap => if j < n then .bx j k cap else if j = i ∧ k = rows.length then .d (.sl rows) else .undef
 | .func f a b => .func f (frzL n i rows a) (frzL n i rows b)
 | .agg vs => .agg (frzL n i rows vs)
 | .tup vs => .tup (frzL n i rows vs)
 | .undef => .undef
 | .d x => .d x
 | .sl r t => .sl r t
 | .eptr r k => .eptr r k
 | .nilp => .nilp
 | .nilf => .nilf
def frzL (n i : Nat) (rows : List (List D)) : List V → List V
 | [] => []
 | v :: vs => frz n i rows v :: frzL n i rows vs
end
theorem frzL_map (n i : Nat) (rows : List (List D)) : ∀ vs : List V, frzL n i rows vs = vs.map (frz n i rows)
 | [] => by simp [frzL]
 | v :: vs => by simp [frzL, frzL_map n i rows vs]
mutual
theorem frz_fit {n m i : Nat} {rows : List (List D)} : ∀ v : V, fit n m v = true → frz n i rows v = v
 | .undef, _ => by simp [frz]
 | .d _, _ => by simp [frz]
 | .sl _ _, _ => by simp [frz]
 | .ptr i _, h => by simp only [fit, decide_eq_true_iff] at h; simp [frz, h]
 | .bx i _ _, h => by simp only [fit, decide_eq_true_iff] at h; simp [frz, h]
 | .eptr _ _, _ => by simp [frz]
 | .nilp, _ => by simp [frz]
 | .nilf, _ => by simp [frz]
 | .func _ a b, h => by
  simp only [fit, Bool.and_eq_true] at h
  simp [frz, frzL_fit a h.1, frzL_fit b h.2]
 | .agg vs, h => by simp only [fit] at h; simp [frz, frzL_fit vs h]
 | .tup vs, h => by simp only [fit] at h; simp [frz, frzL_fit vs h]
theorem frzL_fit {n m i : Nat} {rows : List (List D)} : ∀ vs : List V, fitL n m vs = true → frzL n i rows vs = vs
 | [], _ => by simp [frzL]
 | v :: vs, h => by
  simp only [fitL, Bool.and_eq_true] at h
  simp [frzL, frz_fit v h.1, frzL_fit vs h.2]
end
theorem VR.frz {c : Cx} {w : World} {n i b : Nat} {rows : List (List D)} (hi : c.ρ[i]? = some b) (hD : ∀ cap, rows.length ≤ cap → cap ≤ 9223372036854775807 → DR (c.cut n c.τ.length).M w (.sl rows) (.slice (some ⟨b, 0, none⟩) rows.length cap)) {x : V} {v : Value} (h : VR c w x v) : VR (c.cut n c.τ.length) w (frz n i rows x) v := by
 induction h with
 | undef v => unfold Ab.frz; exact .undef v
 | d x v h => unfold Ab.frz; exact .d x v (h.cut _ _)
 | full r a h ha => unfold Ab.frz; exact .full r a (h.cut _ _) ha
 | own r t a cap j h ht hr hn hl => unfold Ab.frz; exact .own r t a cap j (h.cut _ _) (get_take ht (List.getElem?_eq_some_iff.1 ht).1) hr hn hl
 | ptr j k b h =>
  unfold Ab.frz
  split
  ·rename_i hlt
   exact .ptr j k b (get_take h hlt)
  ·exact .undef _
 | bx j k cap b2 h hn hm =>
  unfold Ab.frz
  split
  ·rename_i hlt
   exact .bx j k cap b2 (get_take h hlt) hn hm
  ·split
   ·rename_i he
    obtain ⟨rfl, rfl⟩ := he
    rw [hi] at h
    obtain rfl := Option.some.inj h
    exact .d _ _ (hD cap hn hm)
   ·exact .undef _
 | eptr row k g o f h =>
  unfold Ab.frz
  refine .eptr row k g o f fun q hq => ?_
  obtain ⟨a, b, d⟩ := h q hq
  exact ⟨fun h => a (cut_M h), b, d.cut _ _⟩
 | nilp => unfold Ab.frz; exact .nilp
 | nilf => unfold Ab.frz; exact .nilf
 | func f first caps cf cc h1 h2 h3 h4 ih1 ih2 =>
  unfold Ab.frz
  rw [frzL_map, frzL_map]
  exact .func f _ _ cf cc (by simpa using h1) (by simpa using h2) (fun j hj => by simpa using ih1 j (by simpa using hj)) (fun j hj => by simpa using ih2 j (by simpa using hj))
 | agg vs cs h1 h2 h3 ih =>
  unfold Ab.frz
  rw [frzL_map]
  exact .agg _ cs (by simpa using h1) (fun j hj => by simpa using ih j (by simpa using hj)) (fun j hj => h3 j (by simpa using hj))
 | tup vs cs h1 h2 ih =>
  unfold Ab.frz
  rw [frzL_map]
  exact .tup _ cs (by simpa using h1) (fun j hj => by simpa using ih j (by simpa using hj))
section
variable {P : Program} {I : Inv} {z : Nat × Nat} {fn : FuncId} {R : V → Mem → Prop} {k : List Item} {env : List V}
theorem ARun.freeze {L G J : List (List V)} {T : List (Nat × Nat)} {sz i len cap : Nat} {rows : List (List D)} (h0 : 0 < sz) (hB : BxIs L.length sz G rows (.bx i len cap)) (hz : z.1 ≤ L.length ∧ z.2 ≤ T.length) (h : ARun P I z fn k (env.map (frz L.length i rows)) ⟨L.map (·.map (frz L.length i rows)), T⟩ R) : ARun P I z fn k env ⟨L ++ (G ++ J), T⟩ R := by
 rcases hB with ⟨_, _, h2⟩ | ⟨G0, cap2, rfl, h2, hrs, _, hcap⟩
 ·cases h2
 cases h2
 generalize List.replicate ((cap - rows.length) * sz) V.undef = X at *
 intro b a c w c0 w0 h1 h2 h3 h4 h5 h6 hI
 have hrows := rowsSz_iff hrs
 have hm : c.τ.length = T.length := by
  have := congrArg List.length h5.toks
  simp at this; omega
 have hbl : (L ++ ((G0 ++ [rows.flatten.map V.d ++ X]) ++ J)).length = c.ρ.length := h5.len
 obtain ⟨b0, hb0⟩ : ∃ b0, c.ρ[L.length + G0.length]? = some b0 := ⟨_, List.getElem?_eq_getElem (by rw [← hbl]; simp)⟩
 have hbox : (⟨L ++ ((G0 ++ [rows.flatten.map .d ++ X]) ++ J), T⟩ : Mem).boxes[L.length + G0.length]? = some (rows.flatten.map .d ++ X) := by
  show (L ++ ((G0 ++ [rows.flatten.map .d ++ X]) ++ J))[L.length + G0.length]? = _
  rw [← List.append_assoc, ← List.append_assoc, List.getElem?_append_left (by simp), List.getElem?_append_right (by simp)]
  simp
 obtain ⟨cs, Ty, hh, hsz, hcs⟩ := h5.boxCells hb0 hbox
 have hnM : ∀ q, ¬ (c.cut L.length c.τ.length).M b0 q := by
  rintro q ((hm | hm) | ⟨t, i, off, ht, ha, e1, e2⟩)
  ·have e1 := (c.hX _ _ hm).2
   have e2 : c.X b0 q := hm
   obtain ⟨e3, _⟩ := h5.box _ _ hb0
   omega
  ·obtain ⟨j, hj⟩ := mem_ρ.1 hm
   have hj' : (c.ρ.take L.length)[j]? = some b0 := hj
   rw [List.getElem?_take] at hj'
   split at hj'
   case isFalse => cases hj'
   have := h5.inj _ _ _ hj' hb0
   omega
  ·have ht' : (c.τ.take c.τ.length)[t]? = some i := ht
   rw [List.take_length] at ht'
   obtain ⟨a1, a2, a3, a4, a5⟩ := h5.tok t i ht'
   have hlt : i.n < i.cap := by
    rcases Nat.lt_or_ge i.n i.cap with h' | h'
    ·exact h'
    ·have := Nat.mul_le_mul_right i.sz h'
     omega
   exact (a5 hlt b0 off ha).2.1 (mem_ρ.2 ⟨_, hb0⟩)
 have hD : ∀ cp, rows.length ≤ cp → cp ≤ 9223372036854775807 → DR (c.cut L.length c.τ.length).M w (.sl rows) (.slice (some ⟨b0, 0, none⟩) rows.length cp) := by
  intro cp hc1 hc2
  have hget : ∀ (j q : Nat) (r : List D) (d : D), rows[j]? = some r → r[q]? = some d → w.cell? ⟨b0, j * sz + q, none⟩ = some (cs.getD (j * sz + q) undef) ∧ DR c.M w d (cs.getD (j * sz + q) undef) := by
   intro j q r d hj hq
   have e1 := flat_get hrows j q r d hj hq
   have e2 := (List.getElem?_eq_some_iff.1 e1).1
   have hlt : j * sz + q < (rows.flatten.map V.d ++ X).length := by rw [List.length_append, List.length_map]; omega
   obtain ⟨q1, q2, _⟩ := hcs _ hlt
   refine ⟨q1, ?_⟩
   have e3 : (rows.flatten.map V.d ++ X)[j * sz + q] = .d d := by
    rw [List.getElem_append_left (by rw [List.length_map]; exact e2), List.getElem_map]
    congr 1
    exact (List.getElem?_eq_some_iff.1 e1).2
   rw [e3] at q2
   cases q2 with
   | d _ _ h => exact h
  refine .sl rows sz _ cp (fun j q => cs.getD (j * sz + q) undef) h0 hrows hc1 hc2 (fun _ => ⟨b0, 0, rfl, fun j hj q hq => ⟨hnM _, ?_⟩⟩) (fun j hj q hq => ?_)
  ·rw [Nat.zero_add]
   exact (hget j q _ _ (List.getElem?_eq_getElem hj) (List.getElem?_eq_getElem hq)).1
  ·exact (hget j q _ _ (List.getElem?_eq_getElem hj) (List.getElem?_eq_getElem hq)).2.cut _ _
 have hrep : Rep (c.cut L.length c.τ.length) w ⟨L.map (·.map (frz L.length (L.length + G0.length) rows)), T⟩ := by
  refine ⟨h5.hB, by simp [Cx.cut]; simp at hbl; omega, fun i b hi => ?_, fun i j b hi hj => ?_, ?_, fun t i ht => ?_, fun t t' i i' g off off' ht ht' => ?_, h5.inv⟩
  ·have hi' : (c.ρ.take L.length)[i]? = some b := hi
   rw [List.getElem?_take] at hi'
   split at hi'
   case isFalse => cases hi'
   rename_i hlt
   obtain ⟨a, cs, Ty, hh, vs, g1, g2, g3⟩ := h5.box i b hi'
   have g1' : L[i]? = some vs := by
    have : (L ++ ((G0 ++ [rows.flatten.map .d ++ X]) ++ J))[i]? = some vs := g1
    rwa [List.getElem?_append_left hlt] at this
   refine ⟨a, cs, Ty, hh, vs.map (frz L.length (L.length + G0.length) rows), ?_, by simpa using g2, fun j hj => ?_⟩
   ·show (L.map _)[i]? = _
    rw [List.getElem?_map, g1']
    rfl
   ·have hj' : j < vs.length := by simpa using hj
    rw [List.getElem_map]
    exact ⟨(g3 j hj').1.frz hb0 hD, (g3 j hj').2⟩
  ·have hi' : (c.ρ.take L.length)[i]? = some b := hi
   have hj' : (c.ρ.take L.length)[j]? = some b := hj
   rw [List.getElem?_take] at hi' hj'
   split at hi'
   case isFalse => cases hi'
   split at hj'
   case isFalse => cases hj'
   exact h5.inj i j b hi' hj'
  ·show T = (c.τ.take c.τ.length).map _
   rw [List.take_length]
   exact h5.toks
  ·have ht' : (c.τ.take c.τ.length)[t]? = some i := ht
   rw [List.take_length] at ht'
   obtain ⟨a1, a2, a3, a4, a5⟩ := h5.tok t i ht'
   refine ⟨a1, a2, a3, a4, fun hlt g off ha => ?_⟩
   obtain ⟨b1, b2, b3⟩ := a5 hlt g off ha
   exact ⟨b1, fun hm => b2 (List.mem_of_mem_take hm), b3⟩
  ·have ht1 : (c.τ.take c.τ.length)[t]? = some i := ht
   have ht2 : (c.τ.take c.τ.length)[t']? = some i' := ht'
   rw [List.take_length] at ht1 ht2
   exact h5.disj t t' i i' g off off' ht1 ht2
 have henv : EnvR (c.cut L.length c.τ.length) w (env.map (frz L.length (L.length + G0.length) rows)) a.tmps := by
  refine ⟨by simpa using h4.1, fun t ht => ?_⟩
  have ht' : t < env.length := by simpa using ht
  rw [List.getElem_map]
  exact (h4.2 t ht').frz hb0 hD
 refine h b a (c.cut L.length c.τ.length) w c0 w0 h1 h2 h3 henv hrep ⟨⟨fun g k v hm hv => ?_, fun i b hi => ?_, fun t i hi => ?_, h6.B⟩, h6.B, h6.I, h6.X, h6.below⟩ ⟨hI.1, hI.2⟩
 ·exact ⟨fun h => (h6.keeps.cell g k v hm hv).1 (cut_M h), (h6.keeps.cell g k v hm hv).2⟩
 ·have := (List.getElem?_eq_some_iff.1 hi).1
  exact get_take (h6.keeps.ρ i b hi) (by omega)
 ·obtain ⟨i', a1, a2⟩ := h6.keeps.τ t i hi
  have := (List.getElem?_eq_some_iff.1 a1).1
  exact ⟨i', get_take a1 this, a2⟩
theorem ARun.plainS {S : Mem} (q : Nat) (rows : List (List D)) (tk : Tok) (hq : env.getD q .undef = .sl rows tk) (h : ARun P I z fn k (env.set q (.d (.sl rows))) S R) : ARun P I z fn k env S R := by
 intro b a c w c0 w0 h1 h2 h3 h4 h5 h6 hI
 refine h b a c w c0 w0 h1 h2 h3 ⟨by simpa using h4.1, fun t ht => ?_⟩ h5 h6 hI
 have ht' : t < env.length := by simpa using ht
 by_cases e : q = t
 ·subst e
  have hv := h4.get q
  rw [hq] at hv
  have hp : VR c w (.d (.sl rows)) (a.tmps.getD q undef) := by
   generalize a.tmps.getD q undef = v at hv
   cases hv with
   | full _ a h ha => exact .d _ _ h
   | own _ t a cap i h ht hr hn hl => exact .d _ _ h
  simpa using hp
 ·have := h4.2 t ht'
  simpa [e] using this
end
theorem envS_map (n : Nat) (f : V → V) (hf : f .undef = .undef) (u : List (Nat × V)) : (envS n u).map f = envS n (u.map fun p => (p.1, f p.2)) := by
 unfold envS
 rw [List.map_map]
 refine List.map_congr_left fun t _ => ?_
 show f (lk u t) = _
 induction u with
 | nil => exact hf
 | cons p u ih =>
  rw [List.map_cons, lk_if, lk_if]
  split
  ·rfl
  ·exact ih
section
variable {P : Program} {I : Inv} {ops : Array Oper} {W : List Nat} {MM : Mem → Prop} {K : List V → Mem → Prop} {env : List V} {S : Mem} {listed : Array Bool}
theorem lexC_r {o : Oper} {l : List Oper} {k : Nat} {Q : V → Mem → Prop} (hS : MM S) (hk : W.contains k = true) (hg : o.guard = none) (hne : ∃ v S', Q v S') (h4 : OpR P I o env S Q) (h5 : ∀ v S', Q v S' → lexC P I W MM K l (k + 1) (setV env o.dst v) S') : lexC P I W MM K (o :: l) k env S :=
 ⟨fun _ => ⟨hS, hg, Q, hne, .inr (.inr h4), h5⟩, fun h => absurd (hk.symm.trans h) (by decide)⟩
def upB (n p : Nat) : Array Bool := (List.replicate p true ++ List.replicate (n - p) false).toArray
theorem anyC_q {n : Nat} (i : Nat) {oi : Oper} {v : V} (hi : ops[i]? = some oi) (hq : W.contains i = false) (hr : (Region.ready .any ops listed).contains i = true) (hf : Region.free .any ops listed i = true) (hg : oi.guard = none) (hy : ∀ S, MM S → op1 P (evalV I env) S oi.op = some (v, S)) (h : anyC P I ops W MM K n (listed.setIfInBounds i true) (setV env oi.dst v) S) : anyC P I ops W MM K (n + 1) listed env S :=
 anyC_quiet hi hq n listed env S (Region.free_spec hi hf) (by simpa using hr) ⟨hg, hy⟩ h
theorem wc_op {o : Oper} {K : V → Mem → Prop} {v : V} {S' : Mem} (hg : o.guard = none) (h1 : op1 P (evalV I env) S o.op = some (v, S')) (h : K v S') : WC P I o env S K :=
 ⟨hg, fun u T => u = v ∧ T = S', ⟨v, S', rfl, rfl⟩, .inl ⟨v, S', h1, rfl, rfl⟩, fun u T ⟨e1, e2⟩ => by subst e1 e2; exact h⟩
theorem anyC_two (i j : Nat) {oi oj : Oper} (hi : ops[i]? = some oi) (hj : ops[j]? = some oj) (hwi : W.contains i = true) (hwj : W.contains j = true) (hr : Region.ready .any ops listed = [i, j]) (hri : Region.ready .any ops (listed.setIfInBounds i true) = [j]) (hrj : Region.ready .any ops (listed.setIfInBounds j true) = [i])
 (hr2 : Region.ready .any ops ((listed.setIfInBounds i true).setIfInBounds j true) = []) (hr3 : Region.ready .any ops ((listed.setIfInBounds j true).setIfInBounds i true) = [])
 (h1 : WC P I oi env S fun v S1 => WC P I oj (setV env oi.dst v) S1 fun u S2 => K (setV (setV env oi.dst v) oj.dst u) S2) (h2 : WC P I oj env S fun v S1 => WC P I oi (setV env oj.dst v) S1 fun u S2 => K (setV (setV env oj.dst v) oi.dst u) S2) : anyC P I ops W (fun _ => True) K 2 listed env S := by
 have hmono : ∀ {o : Oper} {env : List V} {S : Mem} {K K' : V → Mem → Prop}, WC P I o env S K → (∀ v S', K v S' → K' v S') → WC P I o env S K' := fun ⟨a, Q, b, d, e⟩ hk => ⟨a, Q, b, d, fun v S' hQ => hk v S' (e v S' hQ)⟩
 refine ⟨trivial, fun h => (by rw [hr] at h; cases h), fun x hx => ?_⟩
 rw [hr] at hx
 simp only [List.mem_cons, List.not_mem_nil, or_false] at hx
 rcases hx with rfl | rfl
 ·refine ⟨oi, hi, .inl ⟨hwi, hmono h1 fun v S1 hv => ⟨trivial, fun h => (by rw [hri] at h; cases h), fun y hy => ?_⟩⟩⟩
  rw [hri] at hy
  obtain rfl := List.mem_singleton.1 hy
  exact ⟨oj, hj, .inl ⟨hwj, hmono hv fun u S2 hu => ⟨trivial, hr2, hu⟩⟩⟩
 ·refine ⟨oj, hj, .inl ⟨hwj, hmono h2 fun v S1 hv => ⟨trivial, fun h => (by rw [hrj] at h; cases h), fun y hy => ?_⟩⟩⟩
  rw [hrj] at hy
  obtain rfl := List.mem_singleton.1 hy
  exact ⟨oi, hi, .inl ⟨hwi, hmono hv fun u S2 hu => ⟨trivial, hr3, hu⟩⟩⟩
theorem ARun.drawF {z : Nat × Nat} {fn : FuncId} {k : List Item} {R : V → Mem → Prop} {id : Nat} (p : Nat) (W2 : List Nat) (W : List Nat) (MM : Mem → Prop) (n m : Nat) (hn : ops.size = n) (hnm : n - p = m) (hm : P.follows .mixedOrders = true) (hB : Region.lexB .any ops = true) (hW : waitsB ops W = true) (hs : splitB ops p = true) (hp : Nat.ble p ops.size = true)
 (h : lexC P I W MM (fun env S => anyC P I ops W2 (fun _ => True) (fun env S => ARun P I z fn k env S R) m (upB n p) env S) (ops.toList.take p) 0 env S) : ARun P I z fn (.code (.region id ops true) :: k) env S R := by
 subst hnm hn
 intro b a c w c0 w0 h1 h2 h3 h4 h5 h6 hI cs
 have hp := Nat.le_of_ble_eq_true hp
 have hd : Below w.heap.size w { w with drawn := w.drawn + 1 } := ⟨rfl, rfl, rfl, Nat.le_refl _, fun _ _ => rfl⟩
 obtain ⟨r1, r2⟩ := h5.under hd
 simp only [Region.lexB, Bool.and_eq_true] at hB
 simp only [waitsB, Bool.and_eq_true] at hW
 have hlt : (ops.toList.take p).length = p := by simp; omega
 have hB2 : Region.lexFrom .any ops ((ops.toList.take p).length + (ops.size - p)) 0 (Array.replicate ops.size false) = true := by
  rw [hlt, Nat.add_sub_cancel' hp]
  simpa using hB.2
 have hany := anyE_lex (P := P) (I := I) (MM := MM) (W := W) (K := fun listed env S => ∀ t, ARun P I z fn (.inRegion ops (Region.linearise.go .any ops (ops.size - p) t listed []) :: k) env S R) (splitB_ok hs) hW.1 hW.2 (ops.size - p) (fun listed env S hsz hls hB h t => by
  have hl : listed = upB ops.size p := by
   apply Array.ext
   ·simp [upB, hsz]; omega
   ·intro j hj hj'
    have := hls j (by omega)
    rw [show listed.getD j true = listed[j] by simp [hj]] at this
    rw [this]
    simp only [upB, List.getElem_toArray, List.getElem_append, List.length_replicate, List.getElem_replicate]
    split
    ·rename_i h; exact decide_eq_true h
    ·rename_i h; exact decide_eq_false h
  rw [hl]
  exact anyC_run (W := W2) (MM := fun _ => True) _ t _ env S h) (ops.toList.take p) 0 (Array.replicate ops.size false) env S (fun j hj => by rw [hlt] at hj; simp [hj]) (by rw [hlt, Nat.zero_add]) (by simp) (fun j hj => by simp [hj]) hB2 h
 have hrun := anyE_run (fn := fn) (k := k) (R := R) _ (w.tape w.drawn (.order b.fn id)) _ _ _ hany
 rw [hlt, Nat.add_sub_cancel' hp] at hrun
 obtain ⟨e, w', fr, g1, g2, g3⟩ := hrun b a c _ c0 w0 h1 h2 h3 (h4.ext r2) r1 (h6.trans r2) ⟨r2.I.trans hI.1, hI.2⟩ cs
 refine ⟨e, w', fr, g1, .of_steps (.one ?_) g2, g3⟩
 have := step_region_draw (P := P) (b := b) (a := a) (k := k) (cs := cs) (w := w) (ops := ops) (id := id)
 rw [this]
 simp only [Region.schedule, hm, Bool.true_or, if_true, Region.linearise]
end
end Go.Ab
namespace Go.Proofs.YtnnnhlkmdnacaaaGreatDoor
open Go.RowKit Go.Av Go.Ab
set_option linter.unusedSimpArgs false
set_option maxRecDepth 100000
set_option linter.defProp false
def c144 := by
 have c := KK_of Tryz.f144 (by conv => lhs; cbv)
 dsimp only [KK, KxP, doO, opO, List.map_cons, List.map_nil, List.toList_toArray] at c
 exact c
theorem b144 : FnIs Tryz.prog 144 Tryz.f144 44 := ⟨Tryz.func144, by kernel_rfl⟩
def xF (tx : List UInt8) (ts : List (List UInt8)) (t : Nat) (v : V) : List V := [.d (.int .i64 14), .d (.str []), .d (.int .u64 0), .d (.int .i64 7), .d (.str tx), .sl [] .full, .sl (ssD ts) (.own t), v]
theorem ss1 (x : List UInt8) : rowsSz 1 [[D.str x]] = true := rfl
theorem ssD_snoc (l : List (List UInt8)) (x : List UInt8) : ssD l ++ [[D.str x]] = ssD (l ++ [x]) := by simp [ssD]
abbrev KidsIs (N : Nat) (G : List (List V)) (xs : List ExT) (v : V) : Prop := BxIs (N + 2) 8 G (xs.map exD) v
theorem frz_boxes {B J : List (List V)} {T : List (Nat × Nat)} {c n i : Nat} {x y : List V} {rows : List (List D)} (hf : Fits ⟨B.set c x ++ J, T⟩) (hn : B.length + J.length = n) (hy : ∀ n m, y.all (fit n m) = true) : (B.set c y).map (·.map (frz n i rows)) = B.set c y := by
 have hall : ∀ vs : List V, vs.all (fit n T.length) = true → vs.map (frz n i rows) = vs := by
  intro vs hvs
  conv => rhs; rw [← List.map_id vs]
  exact List.map_congr_left fun v hv => frz_fit v (List.all_eq_true.1 hvs v hv)
 conv => rhs; rw [← List.map_id (B.set c y)]
 refine List.map_congr_left fun vs hvs => hall vs ?_
 obtain ⟨j, hj, rfl⟩ := List.mem_iff_getElem.1 hvs
 have hj' : j < B.length := by simpa using hj
 by_cases e : c = j
 ·subst e
  rw [List.getElem_set_self]
  exact hy _ _
 ·rw [List.getElem_set_ne e]
  have := hf B[j] (List.mem_append.2 (.inl (List.mem_iff_getElem.2 ⟨j, by simpa using hj', by rw [List.getElem_set_ne e]⟩)))
  simpa [hn] using this
theorem frz_box {B J : List (List V)} {T : List (Nat × Nat)} {n i : Nat} {Z : List V} {rows : List (List D)} (hf : Fits ⟨B ++ J, T⟩) (hZ : Z ∈ J) (hn : B.length + J.length = n) : Z.map (frz n i rows) = Z := by
 have := hf Z (List.mem_append.2 (.inr hZ))
 conv => rhs; rw [← List.map_id Z]
 exact List.map_congr_left fun v hv => frz_fit (m := T.length) v (by simpa [hn] using List.all_eq_true.1 this v hv)
theorem left_two {B G : List (List V)} {T K : List (Nat × Nat)} {c : Nat} {x y Z e e' : List V} {R : V → Mem → Prop} {v : V} (hc : c < B.length) (hy : ∀ n m, y.all (fit n m) = true) (he : ∀ n m, e'.all (fit n m) = true) (h : R (wk (B.set c x ++ [Z, e]).length T.length v) ⟨B.set c y ++ [Z, e'], T⟩) : Ab.Left ⟨B.set c x ++ [Z, e], T⟩ R v ⟨B.set c y ++ (Z :: e' :: G), T ++ K⟩ := by
 have h1 := Ab.Left.of (B := B.set c x ++ [Z, e]) (L := B.set c y ++ [Z, e']) (J := G) (T := T) (U := T) (K := K) (R := R) (v := v) (by simp) rfl (by
  have := ((FitL.refl (B.set c x ++ [Z, e]).length T.length (B.set c x ++ [Z, e])).set c (hy _ _)).set (B.length + 1) (he _ _)
  rw [List.set_append_left _ _ (by simpa using hc), List.set_set, List.set_append_right _ _ (by simp)] at this
  simpa using this) h
 simpa using h1
set_option maxHeartbeats 8000000 in
theorem fields_pp (bs : List UInt8) (h0 : True) (hl : bs.length ≤ 100000) {E : EP} {n : Nat} (hE : EOk bs E n) (hd : DnE E) : FOk bs E n := by
 intro M s tx Z c B T hs hM hc hok
 obtain ⟨N, hn⟩ : ∃ N, B.length = N := ⟨_, rfl⟩
 obtain ⟨t, ht⟩ : ∃ t, T.length = t := ⟨_, rfl⟩
 have hi : c < N := by omega
 have hmu := hok.mu_le
 obtain ⟨⟨⟨ts0, xs0⟩, s0⟩, hL⟩ : ∃ r, fldL E M s = r := ⟨_, rfl⟩
 rw [hL, hn]
 dsimp only
 refine b144.go 0 rfl fun hsm => ?_
 simp only [smw] at hsm
 simp only [W, seval, c144, hn, hi]
 refine ARun.fits fun hf => ?_
 refine ARun.tokenB (N + 1) 6 _ [] (by rw [bx_loc (by simpa using hn)]; rfl) (by rfl) 1 (by omega) rfl ?_
 rw [bx_set_loc (by simpa using hn)]
 change ARun _ _ _ _ _ _ ⟨B.set c (bxP bs s) ++ [Z, xF tx [] T.length (.sl [] .full)], T ++ [(0, 1)]⟩ _
 rw [ht]
 refine ARun.go 5 ?_
 simp only [W, seval, c144]
 refine ARun.after [_, _] _ (fun a : List (List V) × V => (envS 44 [(0, .ptr c 0), (1, .ptr (N + 1) 0)], ⟨B.set c (bxP bs s0) ++ (Z :: xF tx ts0 t a.2 :: a.1), T ++ [(ts0.length, 1)]⟩)) (fun a => OkP bs s0 ∧ KidsIs N a.1 xs0 a.2) ?_ ?_
 ·rintro ⟨G, v⟩ ⟨hok0, hk⟩
  refine ARun.go 20 ?_
  simp only [W, seval, c144, hn, hi]
  first
   | refine PP.call0 (want_pp bs h0 hl s0 [125]) hc hok0 fun hok1 => ?_
   | refine PP.call (want_pp bs h0 hl s0 [125]) hc hok0 fun hok1 => ?_
  refine ARun.go 20 ?_
  simp only [W, seval, c144, hn, hi]
  rcases hk with ⟨_, hx0, hv⟩ | ⟨G0, cap, hG, hv, hk⟩
  ·obtain rfl : xs0 = [] := by simpa using hx0
   dsimp only at hv ⊢
   subst hv
   refine ARun.plainJ 1 _ (exL (.mk 14 [] 0 (.mk 7 tx []) ts0 [])) (by rfl) (.same (.same (.same (.same (.same (.sl (.sl (.sl .nil)))))))) ?_
   refine ARun.fin Tryz.func144 rfl (left_two hc (fun _ _ => rfl) (fun _ _ => rfl) ?_)
   exact ⟨rfl, hok1, rfl⟩
  ·dsimp only at hG hv ⊢
   have hkb : BxIs (B.set c (bxP bs (wantP s0 [125])) ++ [Z, xF tx ts0 t v]).length 8 G (xs0.map exD) v := by
    rw [List.length_append, List.length_set, hn]
    exact .inr ⟨G0, cap, hG, hv, hk⟩
   have hsp : B.set c (bxP bs (wantP s0 [125])) ++ (Z :: xF tx ts0 t v :: G) = (B.set c (bxP bs (wantP s0 [125])) ++ [Z, xF tx ts0 t v]) ++ (G ++ []) := by simp
   rw [hsp]
   rw [hv] at hkb ⊢
   refine ARun.freeze (by omega) hkb ⟨by simp [hn], by simp [ht]⟩ ?_
   have hln : (B.set c (bxP bs (wantP s0 [125])) ++ [Z, xF tx ts0 t (.bx (N + 2 + G0.length) (xs0.map exD).length cap)]).length = N + 2 := by simp [hn]
   have hlt : ¬ (N + 2 + G0.length < N + 2) := by omega
   rw [hln, envS_map _ _ (by simp [frz]), List.map_append, frz_boxes hf (by simp [hn]) (fun _ _ => rfl)]
   have hxm : (xF tx ts0 t (.bx (N + 2 + G0.length) (xs0.map exD).length cap)).map (frz (N + 2) (N + 2 + G0.length) (xs0.map exD)) = xF tx ts0 t (.d (.sl (xs0.map exD))) := by simp [xF, frz, hlt]
   have hzm := frz_box (n := N + 2) (i := N + 2 + G0.length) (rows := xs0.map exD) (Z := Z) hf (by simp) (by simp [hn])
   simp only [List.map_cons, List.map_nil, hzm, hxm]
   refine ARun.plainJ 1 _ (exL (.mk 14 [] 0 (.mk 7 tx []) ts0 xs0)) (by rfl) (.same (.same (.same (.same (.same (.sl (.sl (.same .nil)))))))) ?_
   refine ARun.fin Tryz.func144 rfl (left_two (G := []) hc (fun _ _ => rfl) (fun _ _ => rfl) ?_)
   exact ⟨rfl, hok1, rfl⟩
 intro K' hend
 refine ARun.loopW (fun a : ((List (List UInt8) × List ExT) × (List (List V) × V)) × Ps => (envS 44 [(0, .ptr c 0), (1, .ptr (N + 1) 0)], ⟨B.set c (bxP bs a.2) ++ (Z :: xF tx a.1.1.1 t a.1.2.2 :: a.1.2.1), T ++ [(a.1.1.1.length, 1)]⟩)) (fun a => OkP bs a.2 ∧ KidsIs N a.1.2.1 a.1.1.2 a.1.2.2 ∧ a.1.1.1.length = a.1.1.2.length ∧ a.1.1.2.length + mu a.2 ≤ mu s ∧ ∃ q, mu a.2 < q ∧ ((a.1.1.1 ++ (fldL E q a.2).1.1, a.1.1.2 ++ (fldL E q a.2).1.2), (fldL E q a.2).2) = ((ts0, xs0), s0)) (fun a => mu a.2) ((([], []), ([], .sl [] .full)), s) ⟨hok, .inl ⟨rfl, rfl, rfl⟩, rfl, by simp, M, hM, by dsimp only; rw [hL]; simp⟩ ?_ rfl ?_
 ·skip
  refine Agree.env _ ?_
  simp only [agw, seval, hn]
 rintro ⟨⟨⟨ts, xs⟩, G, v⟩, s5⟩ ⟨hok5, hk, hll, hle, q, hq, hr⟩ ih
 dsimp only at hok5 hk hll hle hq hr ih ⊢
 cases q with
 | zero => omega
 | succ q =>
 rw [fldL] at hr
 by_cases he : s5.e = 0
 case neg =>
  have e1 := decide_eq_false he
  rw [if_neg (fun h => he h.1)] at hr
  dsimp only at hr
  rw [List.append_nil, List.append_nil] at hr
  obtain ⟨h1, rfl⟩ := Prod.mk.inj hr
  obtain ⟨rfl, rfl⟩ := Prod.mk.inj h1
  refine ARun.goK (k := [_, _, _]) 80 ?_
  simp only [W, seval, c144, hn, hi, bxP, e1]
  refine hend (G, v) ⟨hok5, hk⟩ _ _ ?_ rfl
  refine Agree.env _ ?_
  simp only [agw, seval, hn]
 have e1 := decide_eq_true he
 refine ARun.goK (k := [_, _, _]) 80 ?_
 simp only [W, seval, c144, hn, hi, bxP, e1]
 refine PP.call (is_pp bs s5 [125]) hc hok5 fun _ => ?_
 cases q1 : isP s5 [125]
 case' true =>
  rw [if_neg (fun h => by rw [q1] at h; exact absurd h.2 (by decide))] at hr
  dsimp only at hr
  rw [List.append_nil, List.append_nil] at hr
  obtain ⟨h1, rfl⟩ := Prod.mk.inj hr
  obtain ⟨rfl, rfl⟩ := Prod.mk.inj h1
  refine ARun.goK 80 ?_
  simp only [W, seval, c144, hn, hi]
  refine hend (G, v) ⟨hok5, hk⟩ _ _ ?_ rfl
  refine Agree.env _ ?_
  simp only [agw, seval, hn]
 case' false =>
  rw [if_pos ⟨he, q1⟩] at hr
  obtain ⟨⟨tn, s6⟩, hx⟩ : ∃ r, nameP s5 = r := ⟨_, rfl⟩
  have hpx := name_pp bs h0 hl s5
  have hdx := (dn_name hx).le
  rw [hx] at hpx hr
  dsimp only at hpx hr
  have hcap : (ts.length + 1) * 16 ≤ 140737488355328 := by omega
  have hcap2 : (xs.length + 1) * 128 ≤ 140737488355328 := by omega
  refine ARun.goK 10 ?_
  simp only [W, seval, c144, hn, hi]
  refine PP.wit hpx hc hok5 (ha0 (by rfl)) fun hok6 => ?_
  refine ARun.drawE 9 [6, 8, 11] (fun S => S.boxes[N + 1]? = some (xF tx ts t v)) (by kernel_rfl) (by kernel_rfl) (by kernel_rfl) (by kernel_rfl) (by kernel_rfl) ?_
  simp only [W, seval, c144]
  refine lexC_q (v := ?_) (by rfl) (by kernel_rfl) (fun S hS => ?_) ?_
  rotate_left
  ·simp only [W, seval, c144]
   exact rfl
  simp only [W, seval, c144]
  refine lexC_q (v := ?_) (by rfl) (by kernel_rfl) (fun S hS => ?_) ?_
  rotate_left
  ·simp only [W, seval, c144]
   exact rfl
  simp only [W, seval, c144]
  refine lexC_q (v := ?_) (by rfl) (by kernel_rfl) (fun S hS => ?_) ?_
  rotate_left
  ·simp only [W, seval, c144]
   exact rfl
  simp only [W, seval, c144]
  refine lexC_q (v := ?_) (by rfl) (by kernel_rfl) (fun S hS => ?_) ?_
  rotate_left
  ·simp only [W, seval, c144]
   exact rfl
  simp only [W, seval, c144]
  refine lexC_q (v := ?_) (by rfl) (by kernel_rfl) (fun S hS => ?_) ?_
  rotate_left
  ·try dsimp only at hS
   simp only [W, seval, c144, hS, xF]
   exact rfl
  simp only [W, seval, c144]
  refine lexC_q (v := ?_) (by rfl) (by kernel_rfl) (fun S hS => ?_) ?_
  rotate_left
  ·simp only [W, seval, c144]
   exact rfl
  simp only [W, seval, c144]
  refine PP.lexc (hpx) hc hok5 hok6 ?_ (by rfl) (by kernel_rfl) ?_ ?_
  ·first | trivial | simp [bx_loc, bx_loc0, hn]
  ·simp only [W, seval, c144]
   exact ⟨_, _, rfl, rfl, by rfl, by simp only [W, seval, c144]⟩
  simp only [W, seval, c144]
  refine lexC_q (v := ?_) (by rfl) (by kernel_rfl) (fun S hS => ?_) ?_
  rotate_left
  ·simp only [W, seval, c144, mapD_nil, mapD_cons, Nat.reduceMul]
   exact rfl
  simp only [W, seval, c144]
  refine lexC_w (v := ?_) (S' := ?_) ?_ (by rfl) (by kernel_rfl) ?_ ?_
  rotate_left 2
  ·first | trivial | simp [bx_loc, bx_loc0, hn, ht, hcap, ss1, ssD_snoc, ssD_length, Nat.reduceMul]
  ·simp only [W, seval, c144, hn, ht, hcap, ss1, ssD_snoc, ssD_length, Nat.reduceMul]
   exact rfl
  simp only [W, seval, c144]
  refine lexC_end (by simp [bx_loc, hn]) ?_
  refine lexC_q (v := ?_) (by rfl) (by kernel_rfl) (fun S hS => ?_) ?_
  rotate_left
  ·simp only [W, seval, c144]
   exact rfl
  simp only [W, seval, c144]
  refine lexC_q (v := ?_) (by rfl) (by kernel_rfl) (fun S hS => ?_) ?_
  rotate_left
  ·simp only [W, seval, c144]
   exact rfl
  simp only [W, seval, c144]
  refine lexC_w (v := ?_) (S' := ?_) ?_ (by rfl) (by kernel_rfl) ?_ ?_
  rotate_left 2
  ·first | trivial | simp [bx_loc, bx_loc0, hn, xF]
  ·simp only [W, seval, c144, hn, xF]
   exact rfl
  simp only [W, seval, c144]
  refine lexC_end trivial ?_
  refine ARun.goK (k := [_, _, _, _]) 10 ?_
  simp only [W, seval, c144]
  first
   | refine PP.call0 (want_pp bs h0 hl s6 [58]) hc hok6 fun hok7 => ?_
   | refine PP.call (want_pp bs h0 hl s6 [58]) hc hok6 fun hok7 => ?_
  have hdw := (dn_want s6 [58]).le
  generalize wantP s6 [58] = s7 at *
  obtain ⟨⟨x, s8⟩, hy⟩ : ∃ r, E s7 = r := ⟨_, rfl⟩
  have hpy := hE s7 (by omega)
  have hdy := (hd.at hy).le
  rw [hy] at hpy hr
  dsimp only at hpy hr
  unfold exV at hpy
  refine ARun.goK (k := [_, _, _, _]) 2 ?_
  simp only [W, seval, c144]
  have hlen : (ts ++ [tn]).length = ts.length + 1 := by simp
  change ARun _ _ _ _ _ _ ⟨B.set c (bxP bs s7) ++ (Z :: xF tx (ts ++ [tn]) t v :: G), T ++ [(ts.length + 1, 1)]⟩ _
  refine ARun.after [_] _ (fun a : List (List V) × V => (envS 44 [(0, .ptr c 0), (1, .ptr (N + 1) 0)], ⟨B.set c (bxP bs s8) ++ (Z :: xF tx (ts ++ [tn]) t a.2 :: a.1), T ++ [(ts.length + 1, 1)]⟩)) (fun a => OkP bs s8 ∧ KidsIs N a.1 (xs ++ [x]) a.2) ?_ ?_
  ·rintro ⟨G2, v2⟩ ⟨hok8, hk2⟩
   refine ARun.goK (k := [_, _, _, _]) 20 ?_
   simp only [W, seval, c144]
   obtain ⟨⟨b, s9⟩, hg_s9⟩ : ∃ r, gotP s8 [44] = r := ⟨_, rfl⟩
   have hp_s9 := got_pp bs h0 hl s8 [44]
   rw [hg_s9] at hp_s9
   dsimp only at hp_s9
   first
    | refine PP.call0 hp_s9 hc hok8 fun hok9 => ?_
    | refine PP.call hp_s9 hc hok8 fun hok9 => ?_
   rw [hg_s9] at hr
   cases b
   case' false =>
    dsimp only at hr
    obtain ⟨h1, rfl⟩ := Prod.mk.inj hr
    obtain ⟨rfl, rfl⟩ := Prod.mk.inj h1
    refine ARun.goK 80 ?_
    simp only [W, seval, c144, hn, hi]
    refine hend (G2, v2) ⟨hok9, hk2⟩ _ _ ?_ (by dsimp only; rw [hlen])
    refine Agree.env _ ?_
    simp only [agw, seval, hn]
   case' true =>
    have hlt := got_lt hg_s9
    dsimp only at hr
    obtain ⟨⟨⟨ts3, xs3⟩, s3⟩, h5⟩ : ∃ r, fldL E q s9 = r := ⟨_, rfl⟩
    rw [h5] at hr
    dsimp only at hr
    refine ARun.goK 80 ?_
    simp only [W, seval, c144, hn, hi]
    refine ih (((ts ++ [tn], xs ++ [x]), (G2, v2)), s9) ⟨hok9, hk2, by simp [hll], by simp; omega, q, by dsimp only; omega, by dsimp only; rw [h5, ← hr]; simp⟩ (by dsimp only; omega) _ _ ?_ (by dsimp only; rw [hlen])
    refine Agree.env _ ?_
    simp only [agw, seval, hn]
  intro K2 hend2
  refine ARun.goK (k := [_]) 1 ?_
  simp only [W, seval, c144]
  refine PP.wit hpy hc hok7 (haN 1 (by rfl)) fun hok8 => ?_
  refine ARun.drawF 9 [10, 13] [5, 8] (fun S => S.boxes[N + 1]? = some (xF tx (ts ++ [tn]) t v)) 14 5 (by kernel_rfl) rfl (by kernel_rfl) (by kernel_rfl) (by kernel_rfl) (by kernel_rfl) (by kernel_rfl) ?_
  simp only [W, seval, c144]
  refine lexC_q (v := ?_) (by rfl) (by kernel_rfl) (fun S hS => ?_) ?_
  rotate_left
  ·simp only [W, seval, c144]
   exact rfl
  simp only [W, seval, c144]
  refine lexC_q (v := ?_) (by rfl) (by kernel_rfl) (fun S hS => ?_) ?_
  rotate_left
  ·simp only [W, seval, c144]
   exact rfl
  simp only [W, seval, c144]
  refine lexC_q (v := ?_) (by rfl) (by kernel_rfl) (fun S hS => ?_) ?_
  rotate_left
  ·simp only [W, seval, c144]
   exact rfl
  simp only [W, seval, c144]
  refine lexC_q (v := ?_) (by rfl) (by kernel_rfl) (fun S hS => ?_) ?_
  rotate_left
  ·try dsimp only at hS
   simp only [W, seval, c144, hS, xF]
   exact rfl
  simp only [W, seval, c144]
  refine lexC_q (v := ?_) (by rfl) (by kernel_rfl) (fun S hS => ?_) ?_
  rotate_left
  ·simp only [W, seval, c144]
   exact rfl
  simp only [W, seval, c144]
  refine PP.lexc (hpy) hc hok7 hok8 ?_ (by rfl) (by kernel_rfl) ?_ ?_
  ·first | trivial | simp [bx_loc, bx_loc0, hn]
  ·simp only [W, seval, c144]
   exact ⟨_, _, rfl, rfl, by rfl, by simp only [W, seval, c144]⟩
  simp only [W, seval, c144]
  have hol := BxIs.opLen ty41 rfl hk
  unfold Ab.opLen at hol
  rw [ty41, List.length_map] at hol
  refine lexC_q (v := ?_) (by rfl) (by kernel_rfl) (fun S hS => ?_) ?_
  rotate_left
  ·simp only [W, seval, c144, hol]
   exact rfl
  simp only [W, seval, c144]
  refine lexC_q (v := .sl [exD zeroE] .full) (by rfl) (by kernel_rfl) (fun S hS => by kernel_rfl) ?_
  simp only [W, seval, c144]
  have hmem : B.set c (bxP bs s8) ++ (Z :: xF tx (ts ++ [tn]) t v :: G) = (B.set c (bxP bs s8) ++ [Z, xF tx (ts ++ [tn]) t v]) ++ G := by simp
  have hln : (B.set c (bxP bs s8) ++ [Z, xF tx (ts ++ [tn]) t v]).length = N + 2 := by simp [hn]
  have hz8 : (exD zeroE).length = 8 := rfl
  rw [hmem]
  refine lexC_r (by rw [← hmem]; simp [bx_loc, hn]) (by rfl) (by kernel_rfl) ?_ (OpR.appB (s := v) (x := .sl [exD zeroE] .full) (rows := xs.map exD) (so := .tmp 30) (xo := .tmp 34) (o := opAt (opsOf (kF Tryz.f144 15)) 8) (by kernel_rfl) ty41 rfl ty43 ty41 ⟨_, rfl⟩ (by rfl) (by rfl) (by rw [hln]; exact hk) rfl hz8 (by simpa using hcap2) (by decide)) ?_
  ·obtain ⟨G', v', h1, h2⟩ := BxIs.exist (n := (B.set c (bxP bs s8) ++ [Z, xF tx (ts ++ [tn]) t v]).length) (sz := 8) (rows := xs.map exD ++ [exD zeroE]) (rowsSz_iff (by have := rowsSz_ex (xs ++ [zeroE]); simpa using this))
   exact ⟨v', _, G', rfl, h1, h2⟩
  rintro v' _ ⟨G', rfl, hk', j, k, cap, rfl⟩
  rw [hln] at hk'
  have hkl := hk'.len rfl
  refine lexC_end (by simp [bx_loc, hn]) ?_
  simp only [W, seval, c144]
  have hidx := BxIs.idx (i := j) (cap := cap) (q := .i64) (j := xs.length) ty41 rfl ty43 (show xs.length < k by rw [hkl]; simp)
  have hsp : ∀ (y : List V) (G : List (List V)), B.set c (bxP bs s8) ++ (Z :: y :: G) = (B.set c (bxP bs s8) ++ [Z, y]) ++ G := fun y G => by simp
  have hset : (xs.map exD ++ [exD zeroE]).set xs.length (exD x) = (xs ++ [x]).map exD := by
   rw [List.set_append_right _ _ (by simp)]
   simp
  have hfin : ∀ (y : V) (G2 : List (List V)) (env' : List V), y = .bx j k cap → KidsIs N G2 (xs ++ [x]) y → EnvW (envS 44 [(0, .ptr c 0), (1, .ptr (N + 1) 0)]) env' → ARun Tryz.prog TabI (N + 2, t) 144 K2 env' ⟨B.set c (bxP bs s8) ++ (Z :: xF tx (ts ++ [tn]) t y :: G2), T ++ [(ts.length + 1, 1)]⟩ _ := fun y G2 env' hy hk2 he2 => hend2 (G2, y) ⟨hok8, hk2⟩ env' _ he2 rfl
  refine anyC_q 9 (v := .ptr j (xs.length * 8)) (oi := opAt (opsOf (kF Tryz.f144 15)) 9) (by kernel_rfl) (by rfl) (by kernel_rfl) (by kernel_rfl) (by kernel_rfl) (fun S _ => ?_) ?_
  ·change Option.map (fun v => (v, S)) (opIndexAddr Tryz.prog 41 (.bx j k cap) (.d (.int .i64 (xs.length : Int)))) = _
   rw [hidx]
   rfl
  refine anyC_q 11 (v := .ptr (N + 1) 0) (oi := opAt (opsOf (kF Tryz.f144 15)) 11) (by kernel_rfl) (by rfl) (by kernel_rfl) (by kernel_rfl) (by kernel_rfl) (fun S _ => by kernel_rfl) ?_
  refine anyC_q 12 (v := .ptr (N + 1) 7) (oi := opAt (opsOf (kF Tryz.f144 15)) 12) (by kernel_rfl) (by rfl) (by kernel_rfl) (by kernel_rfl) (by kernel_rfl) (fun S _ => by kernel_rfl) ?_
  simp only [W, seval, c144]
  refine anyC_two 10 13 (oi := opAt (opsOf (kF Tryz.f144 15)) 10) (oj := opAt (opsOf (kF Tryz.f144 15)) 13) (by kernel_rfl) (by kernel_rfl) (by rfl) (by rfl) (by kernel_rfl) (by kernel_rfl) (by kernel_rfl) (by kernel_rfl) (by kernel_rfl) ?_ ?_
  ·obtain ⟨G2, hst, hk2⟩ := BxIs.store (T := T ++ [(ts.length + 1, 1)]) (r := exD x) (j := xs.length) (L := B.set c (bxP bs s8) ++ [Z, xF tx (ts ++ [tn]) t v]) ty43 (by rw [hln]; exact hk') rfl (by simp) (by rw [exD_eq]; rfl)
   rw [hset, hln] at hk2
   rw [← hsp, ← hsp, exD_eq x] at hst
   refine wc_op (by kernel_rfl) (v := .undef) (Eq.trans (by kernel_rfl) hst) ?_
   refine wc_op (v := .undef) (S' := ⟨B.set c (bxP bs s8) ++ (Z :: xF tx (ts ++ [tn]) t (.bx j k cap) :: G2), T ++ [(ts.length + 1, 1)]⟩) (by kernel_rfl) ?_ ?_
   ·simp only [W, seval, c144, hn, xF]
   ·refine hfin _ _ _ rfl hk2 ?_
    simp only [W, seval, c144]
    refine Agree.env _ ?_
    simp only [agw, seval, hn]
  ·have hln2 : (B.set c (bxP bs s8) ++ [Z, xF tx (ts ++ [tn]) t (.bx j k cap)]).length = N + 2 := by simp [hn]
   obtain ⟨G2, hst, hk2⟩ := BxIs.store (T := T ++ [(ts.length + 1, 1)]) (r := exD x) (j := xs.length) (L := B.set c (bxP bs s8) ++ [Z, xF tx (ts ++ [tn]) t (.bx j k cap)]) ty43 (by rw [hln2]; exact hk') rfl (by simp) (by rw [exD_eq]; rfl)
   rw [hset, hln2] at hk2
   rw [← hsp, ← hsp, exD_eq x] at hst
   refine wc_op (v := .undef) (S' := ⟨B.set c (bxP bs s8) ++ (Z :: xF tx (ts ++ [tn]) t (.bx j k cap) :: G'), T ++ [(ts.length + 1, 1)]⟩) (by kernel_rfl) ?_ ?_
   ·simp only [W, seval, c144, hn, xF]
   refine wc_op (by kernel_rfl) (v := .undef) (Eq.trans (by kernel_rfl) hst) ?_
   refine hfin _ _ _ rfl hk2 ?_
   simp only [W, seval, c144]
   refine Agree.env _ ?_
   simp only [agw, seval, hn]
def c66 := by
 have c := KK_of Tryz.f66 (by conv => lhs; cbv)
 dsimp only [KK, KxP, doO, opO, List.map_cons, List.map_nil, List.toList_toArray] at c
 exact c
theorem b66 : FnIs Tryz.prog 66 Tryz.f66 8 := ⟨Tryz.func66, by kernel_rfl⟩
def c35 := by
 have c := KK_of Tryz.f35 (by conv => lhs; cbv)
 dsimp only [KK, KxP, doO, opO, List.map_cons, List.map_nil, List.toList_toArray] at c
 exact c
theorem b35 : FnIs Tryz.prog 35 Tryz.f35 80 := ⟨Tryz.func35, by kernel_rfl⟩
def c9 := by
 have c := KK_of Tryz.f9 (by conv => lhs; cbv)
 dsimp only [KK, KxP, doO, opO, List.map_cons, List.map_nil, List.toList_toArray] at c
 exact c
theorem b9 : FnIs Tryz.prog 9 Tryz.f9 6 := ⟨Tryz.func9, by kernel_rfl⟩
set_option maxHeartbeats 1000000 in
theorem prog1_ab (x : TyT) (a c : Nat) (p : Int) (B : List (List V)) (T : List (Nat × Nat)) (hB : B[c]? = some [.d (.int .i64 p)]) (ha : B[a]? = some [.ptr c 0]) (hp : 0 ≤ p ∧ p ≤ 60000) :
 AFn Tryz.prog TabI 66 [tyV x, .ptr a 0] ⟨B, T⟩ (Same (.d (.bool (!(tyS identS x 0 p).1))) ⟨B.set c [.d (.int .i64 (tyS identS x 0 p).2)], T⟩) := by
 obtain ⟨N, hn⟩ : ∃ N, B.length = N := ⟨_, rfl⟩
 have hc := (List.getElem?_eq_some_iff.1 hB).1
 have hi : c < N := by omega
 have hia : a < N := by have := (List.getElem?_eq_some_iff.1 ha).1; omega
 have h := typ_ab x c 0 p (B ++ [[.d (.int .i64 x.kind), .d (.str x.name), .d (.sl (x.elem.map tyD))]]) T (by rw [bx_old hc]; exact hB) hp (by omega)
 unfold tyV at h ⊢
 refine b66.go 100 rfl fun hsm => ?_
 simp only [smw] at hsm
 simp only [W, seval, c66, hn, hi, hia, ha]
 refine callS_fn (h) ?_
 rintro _ _ ⟨rfl, rfl⟩
 refine ARun.go 100 ?_
 simp only [W, seval, c66, hn, hi, hia, ha]
 refine ARun.ret Tryz.func66 rfl (Left.set (by rfl) ?_)
 (try clear ih)
 (try simp only [dnw] at *)
 simp only [fnw, seval, Same] <;> simp [*]
 skip
theorem ty_good (a c : Nat) (B X : List (List V)) (T : List (Nat × Nat)) (hc : c < B.length) (ha : ∀ q : Int, (B.set c [.d (.int .i64 q)] ++ X)[a]? = some [.ptr c 0]) :
 ∀ (l : List TyT) (q : Int), 0 ≤ q ∧ q ≤ 60000 → Good Tryz.prog TabI 66 [] [.ptr a 0] tyV (fun q : Int => ⟨B.set c [.d (.int .i64 q)] ++ X, T⟩) (fun x q => (!(tyS identS x 0 q).1, (tyS identS x 0 q).2)) l q
 | [], _, _ => trivial
 | x :: l, q, hq => by
  have hcx : c < (B.set c [.d (.int .i64 q)]).length := by simpa using hc
  refine ⟨?_, fun h => ?_⟩
  ·have := prog1_ab x a c q (B.set c [.d (.int .i64 q)] ++ X) T (by rw [bx_old hcx]; exact bx_get hc) (ha q) hq
   rw [bx_set_old hcx, List.set_set] at this
   exact this
  ·have h : (tyS identS x 0 q).1 = true := by simpa using h
   have h1 := tyS_ok identS x 0 q h
   exact ty_good a c B X T hc ha l _ ⟨Int.le_trans hq.1 (by dsimp only; omega), h1.2⟩
theorem app3 {α : Type} (A : List α) (a b c : α) : A ++ [a, b, c] = (A ++ [a, b]) ++ [c] := by simp
set_option maxHeartbeats 4000000 in
theorem prog_ab (n : Nat) (pr : PrT) (hst : ∀ f ∈ pr.funcs, ∀ x ∈ f.body, StmtOk n x) (c : Nat) (p : Int) (B : List (List V)) (T : List (Nat × Nat)) (hB : B[c]? = some [.d (.int .i64 p)]) (hp : 0 ≤ p ∧ p ≤ 60000) :
 AFn Tryz.prog TabI 35 [.ptr c 0, prV pr] ⟨B, T⟩ (Same (.d (.bool (prS n pr p).1)) ⟨B.set c [.d (.int .i64 (prS n pr p).2)], T⟩) := by
 obtain ⟨N, hn⟩ : ∃ N, B.length = N := ⟨_, rfl⟩
 have hc := (List.getElem?_eq_some_iff.1 hB).1
 have hi : c < N := by omega
 have hi1 : c < N + 2 := by omega
 have hN1 : N < N + 2 := by omega
 have hN2 : N + 1 < N + 2 := by omega
 have hbs : B.set c [.d (.int .i64 p)] = B := by
  obtain ⟨_, h⟩ := List.getElem?_eq_some_iff.1 hB
  rw [← h, List.set_getElem_self]
 generalize hres : prS n pr p = res
 change andS (rowS suS pr.structs) (rowS (fuS n) pr.funcs) p = res at hres
 unfold prV
 refine b35.go 7 rfl fun hsm => ?_
 simp only [smw] at hsm
 simp only [W, seval, c35, hn, hi]
 refine ARun.join (fun q : Int => (envS 80 [(2, .ptr N 0), (3, .ptr (N + 1) 0), (4, .d (.bool false))], ⟨B.set c [.d (.int .i64 q)] ++ [[.ptr c 0], [.d (.sl (pr.structs.map suD)), .d (.sl (pr.funcs.map fuD))]], T⟩)) (fun q => (0 ≤ q ∧ q ≤ 60000) ∧ rowS (fuS n) pr.funcs q = res) ?_ ?_
 rotate_left
 ·intro K' hK
  refine ARun.goJ 30 ?_
  simp only [W, seval, c35, hn, hi]
  refine ARun.fits fun hf => ?_
  have hf2 : ∀ q' : Int, Fits ⟨B.set c [.d (.int .i64 q')] ++ [[.ptr c 0], [.d (.sl (pr.structs.map suD)), .d (.sl (pr.funcs.map fuD))]], T⟩ := fun q' => by
   have := hf.set (i := c) (vs := [.d (.int .i64 q')]) rfl
   rwa [bx_set_old (by omega)] at this
  refine ARun.loopB (fun a : Nat × Int => (envS 80 [(2, .ptr N 0), (3, .ptr (N + 1) 0), (4, .d (.bool false)), (10, .d (.sl (pr.structs.map suD))), (11, .d (.int .i64 pr.structs.length)), (12, .d (.int .i64 a.1))], ⟨B.set c [.d (.int .i64 a.2)] ++ [[.ptr c 0], [.d (.sl (pr.structs.map suD)), .d (.sl (pr.funcs.map fuD))]], T⟩)) (fun a => a.1 ≤ pr.structs.length ∧ (0 ≤ a.2 ∧ a.2 ≤ 60000) ∧ andS (rowS suS (pr.structs.drop a.1)) (rowS (fuS n) pr.funcs) a.2 = res) (fun a => pr.structs.length - a.1) (0, p) ⟨by omega, hp, hres⟩ ?_ (by rw [hbs]) ?_
  ·skip
   refine Agree.env _ ?_
   simp only [agw, seval, hn]
  rintro ⟨i, q⟩ ⟨h1, h2, h3⟩ ih
  dsimp only at h1 h2 h3 ih ⊢
  by_cases hlt : i < pr.structs.length
  ·have hw := wrap_in ((i : Int) + 1) (by omega)
   have hg := List.getElem?_eq_getElem hlt
   have hlt' : decide ((i : Int) < (pr.structs.length : Int)) = true := decide_eq_true (by omega)
   rw [drop_get hlt] at h3
   obtain ⟨x, hx⟩ : ∃ x, pr.structs[i] = x := ⟨_, rfl⟩
   rw [hx] at hg h3
   change andS (andS (suS x) (rowS suS (pr.structs.drop (i + 1)))) (rowS (fuS n) pr.funcs) q = res at h3
   rw [andS_assoc] at h3
   change andS (andS (partS 0) (andS (allowS (identS x.name)) (paS 60 x.fields))) _ q = res at h3
   rw [andS_assoc] at h3
   have hpar := params_ab 60 (by omega) x.fields c
   have hcast : ((60 : Nat) : Int) = 60 := rfl
   rw [hcast] at hpar
   refine ARun.goJ 100 ?_
   simp only [W, seval, c35, hn, hi, List.getElem?_map, hg, hlt', suD]
   refine callS_fn (part_ab c 0 q _ _ (by rw [bx_old (by simp; omega)]; exact bx_get hc) h2) ?_
   rintro _ _ ⟨rfl, rfl⟩
   refine ARun.goK 200 ?_
   simp only [W, seval, c35, hn, hi]
   cases hk : partOk 0 q
   ·rw [andS_no (show (partS 0 q).1 = false from hk)] at h3
    simp only [W, seval, c35, hn, hi, hk]
    refine ARun.ret Tryz.func35 rfl (Left.set (by rfl) ?_)
    rw [← h3]
    (try clear ih)
    (try simp only [dnw] at *)
    simp only [fnw, seval, Same] <;> simp [*]
    rfl
   have hpo := partOk_in hk
   rw [andS_yes (show (partS 0 q).1 = true from hk)] at h3
   change andS _ _ (q + 1) = res at h3
   rw [andS_assoc] at h3
   simp only [W, seval, c35, hn, hi, hk]
   refine callS_fn (ident_ab x.name _) ?_
   rintro _ _ ⟨rfl, rfl⟩
   refine ARun.goK 200 ?_
   simp only [W, seval, c35, hn, hi]
   cases hid : identS x.name
   ·rw [andS_no (by rw [hid]; rfl)] at h3
    simp only [W, seval, c35, hn, hi]
    refine ARun.ret Tryz.func35 rfl (Left.set (by rfl) ?_)
    rw [← h3]
    (try clear ih)
    (try simp only [dnw] at *)
    simp only [fnw, seval, Same] <;> simp [*]
    rfl
   rw [andS_yes (by rw [hid]; rfl)] at h3
   change andS _ _ (q + 1) = res at h3
   simp only [W, seval, c35, hn, hi]
   refine callS_fn (hpar (q + 1) _ T (by rw [bx_old (by simp; omega)]; exact bx_get hc) ⟨by omega, hpo.1⟩) ?_
   rintro _ _ ⟨rfl, rfl⟩
   have hup := (Cnts.pa 60 x.fields).up (q + 1)
   have hbn := Bnds.pa 60 x.fields (q + 1) hpo.1
   obtain ⟨⟨b, r⟩, hpa⟩ : ∃ z, paS 60 x.fields (q + 1) = z := ⟨_, rfl⟩
   rw [hpa] at hup hbn
   refine ARun.goK 200 ?_
   simp only [W, seval, c35, hn, hi, hpa]
   cases b
   ·rw [andS_no (by rw [hpa]), hpa] at h3
    simp only [W, seval, c35, hn, hi]
    refine ARun.ret Tryz.func35 rfl (Left.set (by rfl) ?_)
    rw [← h3]
    (try clear ih)
    (try simp only [dnw] at *)
    simp only [fnw, seval, Same] <;> simp [*]
    skip
   ·rw [andS_yes (by rw [hpa]), hpa] at h3
    have hup := hup rfl
    have hbn := hbn rfl
    dsimp only at hup hbn h3
    simp only [W, seval, c35, hn, hi, hw]
    rw [app3]
    refine ih (i + 1, r) ⟨hlt, ⟨by dsimp only; omega, hbn⟩, h3⟩ (by dsimp only; omega) _ _ _ _ rfl ⟨by simp; omega, Nat.le_refl _⟩ (hf2 r) ?_
    refine AgreeF.env _ ?_
    simp only [agf, seval, hn, List.length_append, List.length_cons, List.length_nil, Nat.zero_add, Nat.reduceAdd, hN1, hN2]
  ·have hlt' : decide ((i : Int) < (pr.structs.length : Int)) = false := decide_eq_false (by omega)
   rw [List.drop_eq_nil_of_le (by omega), andS_yes rfl] at h3
   refine ARun.goK 100 (k := [_, _, _]) (K := K') ?_
   simp only [W, seval, c35, hn, hi, hlt']
   refine hK q ⟨h2, h3⟩ _ _ ?_ rfl
   refine Agree.env _ ?_
   simp only [agw, seval, hn]
 ·rintro q0 ⟨hq0, hres2⟩
  clear hres hbs
  dsimp only
  refine ARun.go 20 ?_
  simp only [W, seval, c35, hn, hi]
  refine ARun.fits fun hf => ?_
  have hf2 : ∀ q' : Int, Fits ⟨B.set c [.d (.int .i64 q')] ++ [[.ptr c 0], [.d (.sl (pr.structs.map suD)), .d (.sl (pr.funcs.map fuD))]], T⟩ := fun q' => by
   have := hf.set (i := c) (vs := [.d (.int .i64 q')]) rfl
   rwa [bx_set_old (by simp; omega), List.set_set] at this
  refine ARun.loopB (fun a : Nat × Int => (envS 80 [(2, .ptr N 0), (3, .ptr (N + 1) 0), (4, .d (.bool false)), (34, .d (.sl (pr.funcs.map fuD))), (35, .d (.int .i64 pr.funcs.length)), (36, .d (.int .i64 a.1))], ⟨B.set c [.d (.int .i64 a.2)] ++ [[.ptr c 0], [.d (.sl (pr.structs.map suD)), .d (.sl (pr.funcs.map fuD))]], T⟩)) (fun a => a.1 ≤ pr.funcs.length ∧ (0 ≤ a.2 ∧ a.2 ≤ 60000) ∧ rowS (fuS n) (pr.funcs.drop a.1) a.2 = res) (fun a => pr.funcs.length - a.1) (0, q0) ⟨by omega, hq0, hres2⟩ ?_ rfl ?_
  ·skip
   refine Agree.env _ ?_
   simp only [agw, seval, hn]
  rintro ⟨i, q⟩ ⟨h1, h2, h3⟩ ih
  dsimp only at h1 h2 h3 ih ⊢
  by_cases hlt : i < pr.funcs.length
  ·have hw := wrap_in ((i : Int) + 1) (by omega)
   have hg := List.getElem?_eq_getElem hlt
   have hlt' : decide ((i : Int) < (pr.funcs.length : Int)) = true := decide_eq_true (by omega)
   rw [drop_get hlt] at h3
   obtain ⟨x, hx⟩ : ∃ x, pr.funcs[i] = x := ⟨_, rfl⟩
   have hxm : x ∈ pr.funcs := by rw [← hx]; exact List.getElem_mem hlt
   rw [hx] at hg h3
   change andS (andS (partS 0) (andS (allowS (identS x.name)) (andS (paS 20 x.params) (andS (allowS (decide (1 ≤ x.results.length) && decide (x.results.length ≤ 20))) (andS (rowS (fun t p => tyS identS t 0 p) x.results) (rowS (fun s => stS n s 0) x.body)))))) (rowS (fuS n) (pr.funcs.drop (i + 1))) q = res at h3
   rw [andS_assoc] at h3
   have hpar := params_ab 20 (by omega) x.params c
   have hcast : ((20 : Nat) : Int) = 20 := rfl
   rw [hcast] at hpar
   refine ARun.go 100 ?_
   simp only [W, seval, c35, hn, hi, List.getElem?_map, hg, hlt', fuD]
   refine callS_fn (part_ab c 0 q _ _ (by rw [bx_old (by simp; omega)]; exact bx_get hc) h2) ?_
   rintro _ _ ⟨rfl, rfl⟩
   refine ARun.go 200 ?_
   simp only [W, seval, c35, hn, hi]
   cases hk : partOk 0 q
   ·rw [andS_no (show (partS 0 q).1 = false from hk)] at h3
    simp only [W, seval, c35, hn, hi, hk]
    refine ARun.ret Tryz.func35 rfl (Left.set (by rfl) ?_)
    rw [← h3]
    (try clear ih)
    (try simp only [dnw] at *)
    simp only [fnw, seval, Same] <;> simp [*]
    rfl
   have hpo := partOk_in hk
   rw [andS_yes (show (partS 0 q).1 = true from hk)] at h3
   change andS _ _ (q + 1) = res at h3
   rw [andS_assoc] at h3
   simp only [W, seval, c35, hn, hi, hk]
   refine callS_fn (ident_ab x.name _) ?_
   rintro _ _ ⟨rfl, rfl⟩
   refine ARun.go 200 ?_
   simp only [W, seval, c35, hn, hi]
   cases hid : identS x.name
   ·rw [andS_no (by rw [hid]; rfl)] at h3
    simp only [W, seval, c35, hn, hi]
    refine ARun.ret Tryz.func35 rfl (Left.set (by rfl) ?_)
    rw [← h3]
    (try clear ih)
    (try simp only [dnw] at *)
    simp only [fnw, seval, Same] <;> simp [*]
    rfl
   rw [andS_yes (by rw [hid]; rfl)] at h3
   change andS _ _ (q + 1) = res at h3
   rw [andS_assoc] at h3
   simp only [W, seval, c35, hn, hi]
   refine callS_fn (hpar (q + 1) _ T (by rw [bx_old (by simp; omega)]; exact bx_get hc) ⟨by omega, hpo.1⟩) ?_
   rintro _ _ ⟨rfl, rfl⟩
   have hup := (Cnts.pa 20 x.params).up (q + 1)
   have hbn := Bnds.pa 20 x.params (q + 1) hpo.1
   obtain ⟨⟨b, r⟩, hpa⟩ : ∃ z, paS 20 x.params (q + 1) = z := ⟨_, rfl⟩
   rw [hpa] at hup hbn
   refine ARun.go 200 ?_
   simp only [W, seval, c35, hn, hi, hpa]
   cases b
   ·rw [andS_no (by rw [hpa]), hpa] at h3
    simp only [W, seval, c35, hn, hi]
    refine ARun.ret Tryz.func35 rfl (Left.set (by rfl) ?_)
    rw [← h3]
    (try clear ih)
    (try simp only [dnw] at *)
    simp only [fnw, seval, Same] <;> simp [*]
    skip
   rw [andS_yes (by rw [hpa]), hpa] at h3
   have hup := hup rfl
   have hbn := hbn rfl
   dsimp only at hup hbn h3
   rw [andS_assoc] at h3
   by_cases hlo : 1 ≤ x.results.length
   case neg =>
    have e1 : decide ((x.results.length : Int) < 1) = true := decide_eq_true (by omega)
    rw [andS_no (by rw [decide_eq_false hlo]; rfl)] at h3
    simp only [W, seval, c35, hn, hi, e1]
    refine ARun.ret Tryz.func35 rfl (Left.set (by rfl) ?_)
    rw [← h3]
    (try clear ih)
    (try simp only [dnw] at *)
    simp only [fnw, seval, Same] <;> simp [*]
    rfl
   have e1 : decide ((x.results.length : Int) < 1) = false := decide_eq_false (by omega)
   by_cases hhi : x.results.length ≤ 20
   case neg =>
    have e2 : decide ((20 : Int) < (x.results.length : Int)) = true := decide_eq_true (by omega)
    rw [andS_no (by rw [decide_eq_false hhi, Bool.and_false]; rfl)] at h3
    simp only [W, seval, c35, hn, hi, e1, e2]
    refine ARun.ret Tryz.func35 rfl (Left.set (by rfl) ?_)
    rw [← h3]
    (try clear ih)
    (try simp only [dnw] at *)
    simp only [fnw, seval, Same] <;> simp [*]
    rfl
   have e2 : decide ((20 : Int) < (x.results.length : Int)) = false := decide_eq_false (by omega)
   rw [andS_yes (by rw [decide_eq_true hlo, decide_eq_true hhi]; rfl)] at h3
   change andS _ _ r = res at h3
   rw [andS_assoc] at h3
   simp only [W, seval, c35, hn, hi, e1, e2]
   have hgd := ty_good N c B [[.ptr c 0], [.d (.sl (pr.structs.map suD)), .d (.sl (pr.funcs.map fuD))], [.d (.str x.name), .d (.sl (x.params.map paD)), .d (.sl (x.results.map tyD)), .d (.sl (x.body.map stD))]] T hc (fun q => by rw [bx_loc0 (by simpa using hn)]; rfl) x.results r ⟨by omega, hbn⟩
   have hcf := containsFunc_Type 66 [] [.ptr N 0] (fun q : Int => ⟨B.set c [.d (.int .i64 q)] ++ [[.ptr c 0], [.d (.sl (pr.structs.map suD)), .d (.sl (pr.funcs.map fuD))], [.d (.str x.name), .d (.sl (x.params.map paD)), .d (.sl (x.results.map tyD)), .d (.sl (x.body.map stD))]], T⟩) (fun x q => (!(tyS identS x 0 q).1, (tyS identS x 0 q).2)) (fun _ _ => ⟨by simp, rfl⟩) x.results (by omega) r hgd
   rw [anyF_row (fun x => tyS identS x 0)] at hcf
   refine callS_fn hcf ?_
   rintro _ _ ⟨rfl, rfl⟩
   have hup2 := (Cnts.row (f := fun t p => tyS identS t 0 p) (c := tcS) x.results fun t _ => Cnts.ty t 0).up r
   have hbn2 := Bnds.row (f := fun t p => tyS identS t 0 p) (fun t => Bnds.ty t 0) x.results r hbn
   obtain ⟨⟨b, r2⟩, hty⟩ : ∃ z, rowS (fun t p => tyS identS t 0 p) x.results r = z := ⟨_, rfl⟩
   rw [hty] at hup2 hbn2
   refine ARun.go 200 ?_
   simp only [W, seval, c35, hn, hi, hty]
   cases b
   ·rw [andS_no (by rw [hty]), hty] at h3
    simp only [W, seval, c35, hn, hi]
    refine ARun.ret Tryz.func35 rfl (Left.set (by rfl) ?_)
    rw [← h3]
    (try clear ih)
    (try simp only [dnw] at *)
    simp only [fnw, seval, Same] <;> simp [*]
    skip
   rw [andS_yes (by rw [hty]), hty] at h3
   have hup2 := hup2 rfl
   have hbn2 := hbn2 rfl
   dsimp only at hup2 hbn2 h3
   simp only [W, seval, c35, hn, hi]
   refine callS_fn (stmts_ab n x.body (hst x hxm) c 0 r2 _ T (by rw [bx_old (by simp; omega)]; exact bx_get hc) ⟨by omega, hbn2⟩ ⟨by omega, by omega⟩) ?_
   rintro _ _ ⟨rfl, rfl⟩
   have hup3 := (Cnts.row (f := fun s => stS n s 0) (c := stC n) x.body fun y _ => Cnts.st n y 0).up r2
   have hbn3 := Bnds.row (f := fun s => stS n s 0) (fun y => Bnds.st n y 0) x.body r2 hbn2
   obtain ⟨⟨b, r3⟩, hst3⟩ : ∃ z, rowS (fun s => stS n s 0) x.body r2 = z := ⟨_, rfl⟩
   rw [hst3] at hup3 hbn3
   refine ARun.go 200 ?_
   simp only [W, seval, c35, hn, hi, hst3]
   cases b
   ·rw [andS_no (by rw [hst3]), hst3] at h3
    simp only [W, seval, c35, hn, hi]
    refine ARun.ret Tryz.func35 rfl (Left.set (by rfl) ?_)
    rw [← h3]
    (try clear ih)
    (try simp only [dnw] at *)
    simp only [fnw, seval, Same] <;> simp [*]
    skip
   rw [andS_yes (by rw [hst3]), hst3] at h3
   have hup3 := hup3 rfl
   have hbn3 := hbn3 rfl
   dsimp only at hup3 hbn3 h3
   simp only [W, seval, c35, hn, hi, hw]
   rw [app3]
   refine ih (i + 1, r3) ⟨hlt, ⟨by dsimp only; omega, hbn3⟩, h3⟩ (by dsimp only; omega) _ _ _ _ rfl ⟨by simp; omega, Nat.le_refl _⟩ (hf2 r3) ?_
   refine AgreeF.env _ ?_
   simp only [agf, seval, hn, List.length_append, List.length_cons, List.length_nil, Nat.zero_add, Nat.reduceAdd, hN1, hN2]
  ·have hlt' : decide ((i : Int) < (pr.funcs.length : Int)) = false := decide_eq_false (by omega)
   rw [List.drop_eq_nil_of_le (by omega)] at h3
   refine ARun.go 100 ?_
   simp only [W, seval, c35, hn, hi, hlt']
   refine ARun.ret Tryz.func35 rfl (Left.set (by rfl) ?_)
   rw [← h3]
   (try clear ih)
   (try simp only [dnw] at *)
   simp only [fnw, seval, Same] <;> simp [*]
   rw [← h3]
   exact ⟨rfl, rfl⟩
set_option maxHeartbeats 1000000 in
theorem right_ab (n : Nat) (pr : PrT) (hst : ∀ f ∈ pr.funcs, ∀ x ∈ f.body, StmtOk n x) (B : List (List V)) (T : List (Nat × Nat)) :
 AFn Tryz.prog TabI 9 [prV pr] ⟨B, T⟩ (Same (.d (.bool (prS n pr 0).1)) ⟨B, T⟩) := by
 obtain ⟨N, hn⟩ : ∃ N, B.length = N := ⟨_, rfl⟩
 have h := prog_ab n pr hst (N + 1) 0 (B ++ [[.d (.sl (pr.structs.map suD)), .d (.sl (pr.funcs.map fuD))], [.d (.int .i64 0)]]) T (by rw [bx_loc hn]; rfl) (by omega)
 unfold prV at h ⊢
 refine b9.go 100 rfl fun hsm => ?_
 simp only [smw] at hsm
 simp only [W, seval, c9, hn]
 refine callS_fn h ?_
 rintro _ _ ⟨rfl, rfl⟩
 refine ARun.go 100 ?_
 simp only [W, seval, c9, hn]
 refine ARun.ret Tryz.func9 rfl (Left.box ?_)
 (try clear ih)
 (try simp only [dnw] at *)
 simp only [fnw, seval, Same] <;> simp [*]
 skip
def c13 := by
 have c := KK_of Tryz.f13 (by conv => lhs; cbv)
 dsimp only [KK, KxP, doO, opO, List.map_cons, List.map_nil, List.toList_toArray] at c
 exact c
theorem b13 : FnIs Tryz.prog 13 Tryz.f13 6 := ⟨Tryz.func13, by kernel_rfl⟩
def c10 := by
 have c := KK_of Tryz.f10 (by conv => lhs; cbv)
 dsimp only [KK, KxP, doO, opO, List.map_cons, List.map_nil, List.toList_toArray] at c
 exact c
theorem b10 : FnIs Tryz.prog 10 Tryz.f10 19 := ⟨Tryz.func10, by kernel_rfl⟩
def c37 := by
 have c := KK_of Tryz.f37 (by conv => lhs; cbv)
 dsimp only [KK, KxP, doO, opO, List.map_cons, List.map_nil, List.toList_toArray] at c
 exact c
theorem b37 : FnIs Tryz.prog 37 Tryz.f37 4 := ⟨Tryz.func37, by kernel_rfl⟩
set_option maxHeartbeats 4000000 in
theorem exprG_ab (x : ExT) (B : List (List V)) (T : List (Nat × Nat)) : AFn Tryz.prog TabI 13 [exV x] ⟨B, T⟩ (Same (.d (.bool (exS x 0 0).1)) ⟨B, T⟩) := by
 obtain ⟨N, hn⟩ : ∃ N, B.length = N := ⟨_, rfl⟩
 have h := expr_ab x (N + 1) 0 0 (B ++ [[.d (.int .i64 x.kind), .d (.str x.text), .d (.int .u64 x.int), .d (.int .i64 x.type.kind), .d (.str x.type.name), .d (.sl (x.type.elem.map tyD)), .d (.sl (ssD x.names)), .d (.sl (x.kids.map exD))], [.d (.int .i64 0)]]) T (by rw [bx_loc hn]; rfl) (by omega) (by omega)
 unfold exV at h ⊢
 refine b13.go 100 rfl fun hsm => ?_
 simp only [smw] at hsm
 simp only [W, seval, c13, hn]
 refine callS_fn h ?_
 rintro _ _ ⟨rfl, rfl⟩
 refine ARun.go 100 ?_
 simp only [W, seval, c13, hn]
 refine ARun.ret Tryz.func13 rfl (Left.box ?_)
 (try clear ih)
 (try simp only [dnw] at *)
 simp only [fnw, seval, Same] <;> simp [*]
 skip
def finE (n : Nat) (s : Ps) : ExT × Int := if endP (exprF true n s).2 (exS (exprF true n s).1 0 0).1 = 0 then ((exprF true n s).1, 0) else (zeroE, endP (exprF true n s).2 (exS (exprF true n s).1 0 0).1)
def xB (x : ExT) : List V := [.d (.int .i64 x.kind), .d (.str x.text), .d (.int .u64 x.int), .d (.int .i64 x.type.kind), .d (.str x.type.name), .d (.sl (x.type.elem.map tyD)), .d (.sl (ssD x.names)), .d (.sl (x.kids.map exD))]
def zB : List V := [.d (.int .i64 0), .d (.str []), .d (.int .u64 0), .d (.int .i64 0), .d (.str []), .sl [] .full, .sl [] .full, .sl [] .full]
theorem setP2 {B : List (List V)} {N : Nat} {Z : List V} (hn : B.length = N) (X O : List V) : (B ++ [Z, [], O]).set (N + 1) X = B ++ [Z, X, O] := by
 rw [List.set_append_right _ _ (by omega), hn, Nat.add_sub_cancel_left]
 rfl
set_option maxHeartbeats 8000000 in
theorem parseE_ab (bs : List UInt8) (h0 : True) (hl : bs.length ≤ 100000) (n : Nat) (hn1 : bs.length + 5 ≤ n) (B : List (List V)) (T : List (Nat × Nat)) :
 AFn Tryz.prog TabI 10 [.d (.sl (byD bs))] ⟨B, T⟩ (Same (.tup [exV (finE n (startS bs)).1, .d (.int .i64 (finE n (startS bs)).2)]) ⟨B, T⟩) := by
 obtain ⟨N, hn⟩ : ∃ N, B.length = N := ⟨_, rfl⟩
 have hmu := (start_ok bs).mu_le
 obtain ⟨⟨x, s1⟩, hx⟩ : ∃ r, exprF true n (startS bs) = r := ⟨_, rfl⟩
 have hfin : finE n (startS bs) = if endP s1 (exS x 0 0).1 = 0 then (x, 0) else (zeroE, endP s1 (exS x 0 0).1) := by unfold finE; rw [hx]
 rw [hfin]
 have hpe := expr_ok bs h0 hl (fun h1 h2 => fields_pp bs h0 hl h1 h2) n (startS bs) (by omega) (N + 1) (B ++ [zB, []]) T 0 (by simp; omega) (start_ok bs)
 have hset : ∀ X, (B ++ [zB, []]).set (N + 1) X = B ++ [zB, X] := fun X => by
  rw [List.set_append_right _ _ (by omega), hn, Nat.add_sub_cancel_left]
  rfl
 simp only [hset, hx] at hpe
 have hop := open_ab bs h0 hl (B ++ [zB]) T
 rw [List.length_append, hn, List.append_assoc] at hop
 refine b10.go 20 rfl fun hsm => ?_
 simp only [smw] at hsm
 simp only [W, seval, c10, hn]
 refine callS_fn hop ?_
 rintro _ _ ⟨rfl, rfl⟩
 unfold exV at hpe
 refine ARun.go 20 ?_
 simp only [W, seval, c10, hn]
 refine callS_fn hpe ?_
 rintro _ _ ⟨rfl, _, hok1, rfl⟩
 have hcl : AFn Tryz.prog TabI 37 [.ptr (N + 2) 0] ⟨B ++ [zB, bxP bs s1, xB x], T⟩ (Same (.d (.bool (exS x 0 0).1)) ⟨B ++ [zB, bxP bs s1, xB x], T⟩) := by
  have hg := exprG_ab x (B ++ [zB, bxP bs s1, xB x]) T
  unfold exV xB at hg
  unfold xB
  refine b37.go 20 rfl fun hsm => ?_
  simp only [smw] at hsm
  simp only [W, seval, c37, hn]
  refine callS_fn hg ?_
  rintro _ _ ⟨rfl, rfl⟩
  refine ARun.go 20 ?_
  simp only [W, seval, c37]
  refine ARun.ret Tryz.func37 rfl (Left.none ?_)
  exact ⟨rfl, rfl⟩
 have hen := end_ab bs s1 (exS x 0 0).1 37 [.ptr (N + 2) 0] (N + 1) (B ++ [zB, [], xB x]) T (by simp; omega) (by rw [setP2 hn]; exact hcl)
 rw [setP2 hn] at hen
 simp only [setP2 hn] at hen
 unfold xB at hen
 refine ARun.go 20 ?_
 simp only [W, seval, c10, hn]
 refine callS_fn hen ?_
 rintro _ _ ⟨rfl, s9, rfl⟩
 generalize endP s1 (exS x 0 0).1 = e at *
 by_cases he : e = 0
 ·have e1 := decide_eq_true he
  rw [if_pos he]
  refine ARun.go 60 ?_
  simp only [W, seval, c10, hn, e1, zB]
  refine retc2 (v := ?_) Tryz.func10 (by rfl) ?_ ?_
  rotate_left
  ·simp only [W, seval, c10, hn]
   exact rfl
  refine Left.box ?_
  simp only [W, seval, c10, wk, wkL, exV]
  exact ⟨rfl, rfl⟩
 ·have e1 := decide_eq_false he
  rw [if_neg he]
  refine ARun.go 60 ?_
  simp only [W, seval, c10, hn, e1, zB]
  refine retc2 (v := ?_) Tryz.func10 (by rfl) ?_ ?_
  rotate_left
  ·simp only [W, seval, c10, hn]
   exact rfl
  refine Left.box ?_
  simp only [W, seval, c10, wk, wkL, exV]
  exact ⟨rfl, rfl⟩
def c5 := by
 have c := KK_of Tryz.f5 (by conv => lhs; cbv)
 dsimp only [KK, KxP, doO, opO, List.map_cons, List.map_nil, List.toList_toArray] at c
 exact c
theorem b5 : FnIs Tryz.prog 5 Tryz.f5 62 := ⟨Tryz.func5, by kernel_rfl⟩
def tx1 : List UInt8 := [49, 32, 43, 32, 120, 32, 42, 32, 50]
def tx2 : List UInt8 := [112, 97, 99, 107, 97, 103, 101, 32, 112, 32, 102, 117, 110, 99, 32, 102, 40, 97, 32, 105, 110, 116, 41, 32, 40, 105, 110, 116, 41, 32, 123, 32, 114, 101, 116, 117, 114, 110, 32, 97, 32, 125]
noncomputable def rgP (p : PrT) : Bool := (prS (SizeOf.sizeOf p.funcs) p 0).1
theorem rgP_ab (p : PrT) (B : List (List V)) (T : List (Nat × Nat)) : AFn Tryz.prog TabI 9 [prV p] ⟨B, T⟩ (Same (.d (.bool (rgP p))) ⟨B, T⟩) := by
 refine right_ab (SizeOf.sizeOf p.funcs) p (fun f hf x hx => stmt_ab _ x (Dp.of_size _ x ?_)) B T
 have h1 := List.sizeOf_lt_of_mem hf
 have h2 := List.sizeOf_lt_of_mem hx
 have h3 : SizeOf.sizeOf f.body < SizeOf.sizeOf f := by cases f; simp only [FuT.mk.sizeOf_spec]; omega
 omega
theorem parseP_ab (bs : List UInt8) (h0 : True) (hl : bs.length ≤ 100000) (n : Nat) (hn : bs.length + 5 ≤ n) (B : List (List V)) (T : List (Nat × Nat)) :
 AFn Tryz.prog TabI 6 [.d (.sl (byD bs))] ⟨B, T⟩ (Same (.tup [prV (finP rgP n (startS bs)).1, .d (.int .i64 (finP rgP n (startS bs)).2)]) ⟨B, T⟩) :=
 parse_ab bs h0 hl n hn (stmt_ok bs h0 hl (expr_ok bs h0 hl fun h1 h2 => fields_pp bs h0 hl h1 h2) n) rgP rgP_ab B T
theorem fe1 : (finE 14 (startS tx1)).2 = 0 := by kernel_rfl
theorem fe2 : (finE 14 (startS tx1)).1.kind = 6 := by kernel_rfl
theorem fe3 : (finE 14 (startS tx1)).1.text = [43] := by kernel_rfl
theorem fe4 : (finE 14 (startS tx1)).1.kids.length = 2 := by kernel_rfl
theorem fe5 : (finE 14 (startS tx1)).1.kids[1]?.map ExT.text = some [42] := by kernel_rfl
theorem fp1 : (finP rgP 47 (startS tx2)).2 = 0 := by kernel_rfl
theorem fp2 : (finP rgP 47 (startS tx2)).1.funcs.length = 1 := by kernel_rfl
theorem fp3 : (finP rgP 47 (startS tx2)).1.funcs[0]?.map (fun f => f.body.length) = some 1 := by kernel_rfl
set_option maxHeartbeats 8000000 in
theorem works25_ab (S : Mem) : AFn Tryz.prog TabI 5 [] S (Same (.d (.bool true)) S) := by
 refine AFn.sameW (args' := []) ?_ rfl rfl S
 have hE := AFn.sameW (parseE_ab tx1 trivial (by simp [tx1]) 14 (by simp [tx1]) [] []).only (args := [.sl (byD tx1) .full]) (by simp [wkL, wk]) rfl
 have hP := AFn.sameW (parseP_ab tx2 trivial (by simp [tx2]) 47 (by simp [tx2]) [] []).only (args := [.sl (byD tx2) .full]) (by simp [wkL, wk]) rfl
 have e1 := fe1
 have e2 := fe2
 have e3 := fe3
 have e4 := fe4
 have e5 := fe5
 have p1 := fp1
 have p2 := fp2
 have p3 := fp3
 generalize finE 14 (startS tx1) = r1 at *
 generalize finP rgP 47 (startS tx2) = r2 at *
 obtain ⟨x, e⟩ := r1
 obtain ⟨p, f⟩ := r2
 dsimp only at *
 subst e1 p1
 obtain ⟨y, hy, hyt⟩ := Option.map_eq_some_iff.1 e5
 obtain ⟨fn, hf, hfb⟩ := Option.map_eq_some_iff.1 p3
 have hgy : (x.kids.map exD)[1]? = some (exD y) := by simp [hy]
 have hgf : (p.funcs.map fuD)[0]? = some (fuD fn) := by simp [hf]
 rw [exD_eq, hyt] at hgy
 rw [fuD_eq] at hgf
 have d4 : ((x.kids.length : Nat) : Int) = 2 := by omega
 have d2 : ((p.funcs.length : Nat) : Int) = 1 := by omega
 have d3 : ((fn.body.length : Nat) : Int) = 1 := by omega
 unfold exV at hE
 unfold prV at hP
 refine AFn.bodyN (body := (kF Tryz.f5 0)) 62 Tryz.func5 (by kernel_rfl) (by kernel_rfl) (by kernel_rfl) (Nat.le_of_ble_eq_true rfl) ?_
 refine ARun.go 60 ?_
 simp only [W, seval, c5, mapD_nil, mapD_cons, Nat.reduceMul]
 refine callS_fn (hE _) ?_
 rintro _ _ ⟨rfl, rfl⟩
 refine ARun.go 60 ?_
 simp only [W, seval, c5, mapD_nil, mapD_cons, Nat.reduceMul]
 refine callS_fn (hP _) ?_
 rintro _ _ ⟨rfl, rfl⟩
 refine ARun.go 200 ?_
 simp only [W, seval, c5, e2, e3, d4, hgy, d2, hgf, d3, decide_true]
 refine ARun.ret Tryz.func5 rfl (id ?_)
 exact rfl
end Go.Proofs.YtnnnhlkmdnacaaaGreatDoor
namespace Go.Proofs.YtnnnhlkmdnacaaaGreatDoor
open Go.RowKit Go.Av
theorem eq_pst {n : Nat} {E E' : EP} (h : EqE n E E') (hd : DnE E) : ∀ (m : Nat) (x x' : ExT) (s : Ps), mu s ≤ n → (s.e = 0 → x = x') → Eqv (pstL E m x s) (pstL E' m x' s)
 | 0, x, x', s, _, hx => ⟨rfl, hx⟩
 | m + 1, x, x', s, hn, hx => by
  unfold pstL
  split
  ·rename_i he
   exact ⟨rfl, fun h => absurd h he⟩
  rename_i he
  obtain rfl := hx (Classical.byContradiction he)
  cases hg : gotP s [46] with
  | mk b s1 =>
   cases b
   ·dsimp only
    cases hg2 : gotP s [91] with
    | mk b s1 =>
     cases b
     ·exact .refl _
     ·have hlt := got_lt hg2
      dsimp only
      obtain ⟨y, y', s2, e1, e2, e3⟩ := h.at s1 (by omega)
      have hd1 := hd.at e1
      have h1 := hd1.le
      rw [e1, e2]
      dsimp only
      cases hg3 : gotP s2 [58] with
      | mk b s3 =>
       have hd3 := dn_got hg3
       have h3 := hd3.le
       cases b
       ·dsimp only
        have hw := dn_want s3 [93]
        have := hw.le
        exact eq_pst h hd m _ _ _ (by omega) fun hl => by rw [e3 (hd3.live (hw.live hl))]
       ·dsimp only
        obtain ⟨z, z', s4, f1, f2, f3⟩ := h.at s3 (by omega)
        have hd4 := hd.at f1
        have h4 := hd4.le
        rw [f1, f2]
        dsimp only
        have hw := dn_want s4 [93]
        have := hw.le
        exact eq_pst h hd m _ _ _ (by omega) fun hl => by rw [f3 (hw.live hl), e3 (hd3.live (hd4.live (hw.live hl)))]
   ·have h1 := got_lt hg
    dsimp only
    cases hnm : nameP s1 with
    | mk t s2 =>
     have h2 : mu s2 ≤ mu s1 := (dn_name hnm).le
     exact eq_pst h hd m _ _ _ (show mu s2 ≤ n by omega) fun _ => rfl
theorem eq_oper {n : Nat} {E E' : EP} (h : EqE n E E') (hd : DnE E) (hE : Ends E' n) (m : Nat) (s : Ps) (hn : mu s ≤ n) (hm : mu s ≤ m) : Eqv (operP true E m s) (operP false E' m s) := by
 unfold operP
 cases hs : sgnL m s with
 | mk l s1 =>
  have h1 := (dn_sgn m hs).le
  dsimp only
  obtain ⟨x, x', s2, e1, e2, e3⟩ := (eq_prim h hd hE m s1 (by omega) (by omega)).open
  have h2 := (dn_prim hd e1).le
  rw [e1, e2]
  dsimp only
  obtain ⟨y, y', s3, f1, f2, f3⟩ := (eq_pst h hd m x x' s2 (by omega) e3).open
  rw [f1, f2]
  exact ⟨rfl, fun hl => by dsimp only; rw [f3 hl]⟩
theorem eq_rank {n : Nat} {O O' : EP} (h : EqE n O O') (hd : DnE O) (r : Int) : ∀ (m : Nat) (x x' : ExT) (s : Ps), mu s < n → (s.e = 0 → x = x') → Eqv (rankL O r m x s) (rankL O' r m x' s)
 | 0, x, x', s, _, hx => ⟨rfl, hx⟩
 | m + 1, x, x', s, hn, hx => by
  unfold rankL
  split
  ·rename_i hc
   obtain rfl := hx hc.1
   have hd0 := dn_next s
   have h0 := hd0.le
   obtain ⟨y, y', s1, e1, e2, e3⟩ := h.at (nextP s) (by omega)
   have h1 := (hd.at e1).le
   rw [e1, e2]
   exact eq_rank h hd r m _ _ _ (by omega) fun hl => by rw [e3 hl]
  ·exact ⟨rfl, hx⟩
theorem eq_climb {n : Nat} {O O' : EP} (h : EqE n O O') (hd : DnE O) (m : Nat) : ∀ k : Nat, EqE n (climbP O m k) (climbP O' m k)
 | 0 => h
 | k + 1 => fun s hn => by
  have ih := eq_climb h hd m k
  have ihd := dn_climb hd m k
  unfold climbP
  split
  ·exact h s hn
  ·obtain ⟨x, x', s1, e1, e2, e3⟩ := ih.at s hn
   have h1 := (ihd.at e1).le
   rw [e1, e2]
   exact eq_rank ih ihd _ m x x' s1 (by omega) e3
theorem expr_dead (fl : Bool) : ∀ (n : Nat) (s : Ps), ¬ s.e = 0 → exprF fl n s = (zeroE, s)
 | 0, s, _ => rfl
 | n + 1, s, h => by
  have hp : ∀ E : EP, operP fl E (n + 1) s = (zeroE, s) := fun E => by
   have h1 : sgnL (n + 1) s = ([], s) := by unfold sgnL; rw [is_dead h, is_dead h]; rfl
   have h2 : primP fl E (n + 1) s = (zeroE, s) := by unfold primP; rw [if_pos h]
   have h3 : pstL E (n + 1) zeroE s = (zeroE, s) := by unfold pstL; rw [if_pos h]
   unfold operP
   rw [h1]; dsimp only
   rw [h2]; dsimp only
   rw [h3]; rfl
  show climbP _ (n + 1) 5 s = _
  unfold climbP
  rw [if_pos h]
  exact hp _
theorem expr_stop (fl : Bool) (n : Nat) (s : Ps) (h : isP s [41] = true) : exprF fl (n + 1) s = (zeroE, failP s 51) := by
 obtain ⟨h1, h2, h3⟩ := is_live h
 have hf := fail_e h1
 have hno : ∀ t, t ≠ [41] → isP s t = false := fun t ht => by
  unfold isP
  rw [h3, show decide ([41] = t) = false from decide_eq_false (fun e => ht e.symm), Bool.and_false]
 have hp : ∀ E : EP, operP fl E (n + 1) s = (zeroE, failP s 51) := fun E => by
  have g1 : sgnL (n + 1) s = ([], s) := by
   unfold sgnL
   rw [hno [33] (by decide), hno [45] (by decide)]
   rfl
  have g2 : primP fl E (n + 1) s = (zeroE, failP s 51) := by
   have hk : keyB s = false := by
    unfold keyB
    rw [hno _ (by decide), hno _ (by decide), hno _ (by decide), hno _ (by decide), h3]
    simp only [Bool.or_self, Bool.false_or]
    rw [show decide (1 < kindS [41]) = false from by decide, Bool.and_false]
   unfold primP
   rw [if_neg (fun hh => hh h1), if_neg (by omega), if_neg (by omega), if_neg (by rw [hk]; decide), got_is (hno [40] (by decide))]
   dsimp only
   rw [if_neg (fun hh => absurd (hh.2.symm.trans (hno [91] (by decide))) (by decide))]
  have g3 : pstL E (n + 1) zeroE (failP s 51) = (zeroE, failP s 51) := by unfold pstL; rw [if_pos hf]
  unfold operP
  rw [g1]; dsimp only
  rw [g2]; dsimp only
  rw [g3]; rfl
 have hc : ∀ (O : EP) (k : Nat), O s = (zeroE, failP s 51) → climbP O (n + 1) k s = (zeroE, failP s 51) := by
  intro O k hO
  induction k with
  | zero => exact hO
  | succ k ih =>
   unfold climbP
   rw [if_neg (fun hh => hh h1), ih]
   dsimp only
   unfold rankL
   rw [if_neg (fun hh => hf hh.1)]
 exact hc _ 5 (hp _)
theorem ends_expr (fl : Bool) (n : Nat) : Ends (exprF fl n) n := ⟨expr_dead fl n, fun s hs h => by
 cases n with
 | zero => omega
 | succ n => exact expr_stop fl n s h⟩
theorem eq_expr : ∀ n : Nat, EqE n (exprF true n) (exprF false n)
 | 0 => fun s h => absurd h (Nat.not_lt_zero _)
 | n + 1 => fun s h => by
  have ih := eq_expr n
  exact eq_climb (n := n + 1) (fun s hs => eq_oper ih (dn_expr true n) (ends_expr false n) (n + 1) s (by omega) (by omega)) (.of fun h => dn_oper (dn_expr true n) h) (n + 1) 5 s h
theorem eq_headP {n : Nat} {E E' : EP} (h : EqE n E E') (s : Ps) (hn : mu s < n) : Eqv (headP E s) (headP E' s) := by
 unfold headP
 obtain ⟨x, x', s1, e1, e2, e3⟩ := h.at ⟨s.ws, s.e, s.o, true⟩ hn
 rw [e1, e2]
 exact ⟨rfl, e3⟩
theorem eq_set {n : Nat} {E E' : EP} (h : EqE n E E') (hd : DnE E) (m : Nat) (s : Ps) (hn : mu s < n) : Eqv (setP E m s) (setP E' m s) := by
 unfold setP
 cases hl : leftL m m s with
 | mk l s1 =>
  have h1 := (dn_left m m hl).le
  have h2 := (dn_want s1 [61]).le
  dsimp only
  obtain ⟨x, x', s2, e1, e2, e3⟩ := (eq_vals h hd m (wantP s1 [61]) (by omega)).open
  rw [e1, e2]
  exact ⟨rfl, fun hl => by dsimp only; rw [e3 hl]⟩
theorem eq_stmts {n : Nat} {S S' : SP} (h : EqE n S S') (hd : DnE S) : ∀ (m : Nat) (s : Ps), mu s < n → Eqv (stmtsL S m s) (stmtsL S' m s)
 | 0, s, _ => .refl _
 | m + 1, s, hn => by
  unfold stmtsL
  split
  ·obtain ⟨x, x', s1, e1, e2, e3⟩ := h.at s hn
   have h1 := (hd.at e1).le
   rw [e1, e2]
   dsimp only
   obtain ⟨l, l', s2, f1, f2, f3⟩ := (eq_stmts h hd m s1 (by omega)).open
   rw [f1, f2]
   refine ⟨rfl, fun hl => ?_⟩
   dsimp only
   rw [f3 hl, e3 ((dn_stmts hd m f1).live hl)]
  ·exact .refl _
theorem eq_block {n : Nat} {S S' : SP} (h : EqE n S S') (hd : DnE S) (m : Nat) (s : Ps) (hn : mu s < n) : Eqv (blockP S m s) (blockP S' m s) := by
 unfold blockP
 have h1 := (dn_want s [123]).le
 obtain ⟨l, l', s2, f1, f2, f3⟩ := (eq_stmts h hd m (wantP s [123]) (by omega)).open
 rw [f1, f2]
 exact ⟨rfl, fun hl => f3 ((dn_want _ _).live hl)⟩
theorem eq_cas {n : Nat} {S S' : SP} (h : EqE n S S') (hd : DnE S) (k : Nat) : ∀ (m : Nat) (s : Ps), mu s < n → Eqv (casL S k m s) (casL S' k m s)
 | 0, s, _ => .refl _
 | m + 1, s, hn => by
  unfold casL
  cases hg : gotP s [99, 97, 115, 101] with
  | mk b s1 =>
   cases b
   ·exact .refl _
   ·have h1 := (dn_got hg).le
    dsimp only
    cases hnu : numP s1 with
    | mk i s2 =>
     have h2 := (dn_num hnu).le
     have h3 := (dn_want s2 [58]).le
     dsimp only at h2 ⊢
     obtain ⟨x, x', s3, e1, e2, e3⟩ := (eq_stmts h hd k (wantP s2 [58]) (by omega)).open
     have h4 := (dn_stmts hd k e1).le
     rw [e1, e2]
     dsimp only
     obtain ⟨l, l', s4, f1, f2, f3⟩ := (eq_cas h hd k m s3 (by omega)).open
     rw [f1, f2]
     refine ⟨rfl, fun hl => ?_⟩
     dsimp only
     rw [f3 hl, e3 ((dn_cas hd k m f1).live hl)]
theorem eq_else {n : Nat} {S S' : SP} (h : EqE n S S') (hd : DnE S) (m : Nat) (s : Ps) (hn : mu s < n) : Eqv (elseP S m s) (elseP S' m s) := by
 unfold elseP
 cases hg : gotP s [100, 101, 102, 97, 117, 108, 116] with
 | mk b s1 =>
  cases b
  ·exact .refl _
  ·have h1 := (dn_got hg).le
   have h3 := (dn_want s1 [58]).le
   exact eq_stmts h hd m _ (by omega)
theorem eq_stmt {n : Nat} {E E' : EP} (hE : EqE (n + 1) E E') (hdE : DnE E) {S S' : SP} (h : EqE n S S') (hd : DnE S) (m : Nat) (s : Ps) (hn : mu s < n + 1) : Eqv (stmtP E S m s) (stmtP E' S' m s) := by
 unfold stmtP
 cases hg : gotP s [118, 97, 114] with
 | mk b s1 =>
 cases b
 case true => exact .refl _
 dsimp only
 cases hg : gotP s [105, 102] with
 | mk b s1 =>
 cases b
 case true =>
  have h1 := got_lt hg
  dsimp only
  obtain ⟨x, x', s2, e1, e2, e3⟩ := (eq_headP hE s1 (by omega)).open
  have h2 := (dn_head hdE e1).le
  rw [e1, e2]
  dsimp only
  obtain ⟨b, b', s3, f1, f2, f3⟩ := (eq_block h hd m s2 (by omega)).open
  have d3 := dn_block hd f1
  have h3 := d3.le
  rw [f1, f2]
  dsimp only
  cases hg2 : gotP s3 [101, 108, 115, 101] with
  | mk b s4 =>
  have d4 := dn_got hg2
  have h4 := d4.le
  cases b
  ·refine ⟨rfl, fun hl => ?_⟩
   have l3 := d4.live hl
   dsimp only
   rw [f3 l3, e3 (d3.live l3)]
  ·dsimp only
   obtain ⟨c, c', s5, g1, g2, g3⟩ := (eq_block h hd m s4 (by omega)).open
   rw [g1, g2]
   refine ⟨rfl, fun hl => ?_⟩
   have l3 := d4.live ((dn_block hd g1).live hl)
   dsimp only
   rw [g3 hl, f3 l3, e3 (d3.live l3)]
 dsimp only
 cases hg : gotP s [102, 111, 114] with
 | mk b s1 =>
 cases b
 case true =>
  have h1 := got_lt hg
  dsimp only
  obtain ⟨x, x', s2, e1, e2, e3⟩ := (eq_headP hE s1 (by omega)).open
  have h2 := (dn_head hdE e1).le
  rw [e1, e2]
  dsimp only
  obtain ⟨b, b', s3, f1, f2, f3⟩ := (eq_block h hd m s2 (by omega)).open
  have d3 := dn_block hd f1
  rw [f1, f2]
  refine ⟨rfl, fun hl => ?_⟩
  dsimp only
  rw [f3 hl, e3 (d3.live hl)]
 dsimp only
 cases hg : gotP s [115, 119, 105, 116, 99, 104] with
 | mk b s1 =>
 cases b
 case true =>
  have h1 := got_lt hg
  dsimp only
  obtain ⟨x, x', s2, e1, e2, e3⟩ := (eq_headP hE s1 (by omega)).open
  have h2 := (dn_head hdE e1).le
  have dw := dn_want s2 [123]
  have hw := dw.le
  rw [e1, e2]
  dsimp only
  obtain ⟨b, b', s3, f1, f2, f3⟩ := (eq_cas h hd m m (wantP s2 [123]) (by omega)).open
  have d3 := dn_cas hd m m f1
  have h3 := d3.le
  rw [f1, f2]
  dsimp only
  obtain ⟨c, c', s4, g1, g2, g3⟩ := (eq_else h hd m s3 (by omega)).open
  rw [g1, g2]
  refine ⟨rfl, fun hl => ?_⟩
  have l4 := (dn_want s4 [125]).live hl
  have l3 := (dn_else hd g1).live l4
  dsimp only
  rw [g3 l4, f3 l3, e3 (dw.live (d3.live l3))]
 dsimp only
 cases hg : gotP s [114, 101, 116, 117, 114, 110] with
 | mk b s1 =>
 cases b
 case true =>
  have h1 := got_lt hg
  dsimp only
  obtain ⟨x, x', s2, e1, e2, e3⟩ := (eq_vals hE hdE m s1 (by omega)).open
  rw [e1, e2]
  exact ⟨rfl, fun hl => by dsimp only; rw [e3 hl]⟩
 exact eq_set hE hdE m s hn
theorem eq_stmtF : ∀ n : Nat, EqE n (stmtF true n) (stmtF false n)
 | 0 => fun _ h => absurd h (Nat.not_lt_zero _)
 | n + 1 => fun s h => eq_stmt (eq_expr (n + 1)) (dn_expr true (n + 1)) (eq_stmtF n) (dn_stmtF true n) (n + 1) s h
theorem eq_func {n : Nat} {S S' : SP} (h : EqE n S S') (hd : DnE S) (m : Nat) (s : Ps) (hn : mu s < n) : Eqv (funcP S m s) (funcP S' m s) := by
 unfold funcP
 cases hnm : nameP s with
 | mk t s1 =>
 have h1 := (dn_name hnm).le
 have h2 := (dn_want s1 [40]).le
 dsimp only
 cases hp : (if isP (wantP s1 [40]) [41] = true then ([], wantP s1 [40]) else paramL m m (wantP s1 [40])) with
 | mk ps s2 =>
 have h3 : mu s2 ≤ mu (wantP s1 [40]) := by
  split at hp
  ·cases hp; exact Nat.le_refl _
  ·exact (dn_params m m hp).le
 dsimp only
 have h4 := (dn_want s2 [41]).le
 have h5 := (dn_want (wantP s2 [41]) [40]).le
 cases ht : typeL m m (wantP (wantP s2 [41]) [40]) with
 | mk rs s3 =>
 have h6 := (dn_types m m ht).le
 have h7 := (dn_want s3 [41]).le
 dsimp only
 obtain ⟨b, b', s4, f1, f2, f3⟩ := (eq_block h hd m (wantP s3 [41]) (by omega)).open
 rw [f1, f2]
 exact ⟨rfl, fun hl => by dsimp only; rw [f3 hl]⟩
theorem eq_decl {n : Nat} {S S' : SP} (h : EqE n S S') (hd : DnE S) (k : Nat) : ∀ (m : Nat) (s : Ps) (p p' : PrT), mu s < n → (s.e = 0 → p = p') → Eqv (declL S k m s p) (declL S' k m s p')
 | 0, _, _, _, _, hp => ⟨rfl, hp⟩
 | m + 1, s, p, p', hn, hp => by
  unfold declL
  split
  ·rename_i hc
   obtain rfl := hp hc.1
   cases hg : gotP s [116, 121, 112, 101] with
   | mk b s1 =>
   cases b
   case true =>
    have h1 := got_lt hg
    dsimp only
    cases hs : structP k s1 with
    | mk x s2 =>
    have h2 := (dn_struct hs).le
    exact eq_decl h hd k m s2 _ _ (by omega) fun _ => rfl
   dsimp only
   cases hg : gotP s [102, 117, 110, 99] with
   | mk b s1 =>
   cases b
   case true =>
    have h1 := got_lt hg
    dsimp only
    obtain ⟨x, x', s2, e1, e2, e3⟩ := (eq_func h hd k s1 (by omega)).open
    have h2 := (dn_func hd e1).le
    rw [e1, e2]
    exact eq_decl h hd k m s2 _ _ (by omega) fun hl => by rw [e3 hl]
   exact eq_decl h hd k m _ _ _ (by have := (dn_fail s 51).le; omega) fun _ => rfl
  ·exact ⟨rfl, hp⟩
theorem eq_prog (n : Nat) (s : Ps) (hn : mu s < n) : Eqv (progP true n s) (progP false n s) := by
 unfold progP
 have h1 := (dn_want s [112, 97, 99, 107, 97, 103, 101]).le
 cases hnm : nameP (wantP s [112, 97, 99, 107, 97, 103, 101]) with
 | mk t s1 =>
 have h2 := (dn_name hnm).le
 exact eq_decl (eq_stmtF n) (dn_stmtF true n) n n s1 _ _ (by omega) fun _ => rfl
abbrev SgL := List (List UInt8 × ExT)
def flatL (O : EP) (r : Int) : Nat → Ps → SgL × Ps
 | 0, s => ([], s)
 | m + 1, s => if s.e = 0 ∧ s.w.kind = 3 ∧ r ≤ rankS s.w.text then (match O (nextP s) with
  | (y, s1) => match flatL O r m s1 with
   | (l, s2) => ((s.w.text, y) :: l, s2)) else ([], s)
def passT (r : Int) : ExT → SgL → ExT × SgL
 | x, [] => (x, [])
 | x, (g, y) :: l => if rankS g = r then passT r (.mk 6 g 0 noT [] [x, y]) l else match passT r y l with
  | (z, k) => (x, (g, z) :: k)
def passK : Nat → ExT → SgL → ExT × SgL
 | 0, x, l => (x, l)
 | k + 1, x, l => match passK k x l with
  | (y, t) => passT (5 - (k : Int)) y t
theorem passT_nil (r : Int) (x : ExT) : passT r x [] = (x, []) := by rw [passT]
theorem passT_yes {r : Int} {g : List UInt8} (hg : rankS g = r) (x y : ExT) (l : SgL) : passT r x ((g, y) :: l) = passT r (.mk 6 g 0 noT [] [x, y]) l := by rw [passT, if_pos hg]
theorem passT_no {r : Int} {g : List UInt8} (hg : ¬ rankS g = r) (x y : ExT) (l : SgL) : passT r x ((g, y) :: l) = (x, (g, (passT r y l).1) :: (passT r y l).2) := by rw [passT, if_neg hg]
theorem pass_app (r : Int) (g : List UInt8) (hg : ¬ rankS g = r) (y : ExT) (b : SgL) : ∀ (a : SgL) (x : ExT), passT r x (a ++ (g, y) :: b) = ((passT r x a).1, (passT r x a).2 ++ (g, (passT r y b).1) :: (passT r y b).2)
 | [], x => by
  rw [List.nil_append, passT_no hg, passT_nil]
  rfl
 | (g1, y1) :: a, x => by
  rw [List.cons_append]
  by_cases h : rankS g1 = r
  ·rw [passT_yes h, passT_yes h, pass_app r g hg y b a]
  ·rw [passT_no h, passT_no h, pass_app r g hg y b a y1]
   rfl
theorem passK_app (g : List UInt8) (y : ExT) (b : SgL) : ∀ (k : Nat) (a : SgL) (x : ExT), rankS g ≤ 5 - (k : Int) → passK k x (a ++ (g, y) :: b) = ((passK k x a).1, (passK k x a).2 ++ (g, (passK k y b).1) :: (passK k y b).2)
 | 0, _, _, _ => rfl
 | k + 1, a, x, h => by
  have ih := passK_app g y b k a x (by omega)
  unfold passK
  rw [ih]
  dsimp only
  rw [pass_app _ g (by omega)]
theorem rank_stop {s : Ps} {r : Int} (h : s.e = 0 ∧ s.w.kind = 3 ∧ r ≤ rankS s.w.text) (n : Nat) (hn : mu s < n + 1) : mu (nextP s) < n := by
 have := next_lt s h.1 (by rw [h.2.1]; decide)
 omega
theorem flat_fuel {O : EP} (hO : DnE O) (r : Int) : ∀ (m m' : Nat) (s : Ps), mu s < m → mu s < m' → flatL O r m s = flatL O r m' s
 | 0, _, _, h, _ => absurd h (Nat.not_lt_zero _)
 | _ + 1, 0, _, _, h => absurd h (Nat.not_lt_zero _)
 | m + 1, m' + 1, s, h, h' => by
  unfold flatL
  by_cases hc : s.e = 0 ∧ s.w.kind = 3 ∧ r ≤ rankS s.w.text
  ·rw [if_pos hc, if_pos hc]
   have h1 := rank_stop hc m h
   have h2 := rank_stop hc m' h'
   cases he : O (nextP s) with
   | mk y s1 =>
   have h3 := (hO.at he).le
   dsimp only
   rw [flat_fuel hO r m m' s1 (by omega) (by omega)]
  ·rw [if_neg hc, if_neg hc]
theorem dn_flat {O : EP} (hO : DnE O) (r : Int) : ∀ (m : Nat) {s s1 : Ps} {l : SgL}, flatL O r m s = (l, s1) → Dn s s1
 | 0, s, s1, l, h => by cases h; exact .refl _
 | m + 1, s, s1, l, h => by
  unfold flatL at h
  split at h
  ·split at h
   rename_i he
   split at h
   rename_i hl
   cases h
   exact (dn_next s).trans ((hO.at he).trans (dn_flat hO r m hl))
  ·cases h; exact .refl _
theorem flat_end {O : EP} (hO : DnE O) (r : Int) : ∀ (m : Nat) {s s1 : Ps} {l : SgL}, mu s < m → flatL O r m s = (l, s1) → ¬ (s1.e = 0 ∧ s1.w.kind = 3 ∧ r ≤ rankS s1.w.text)
 | 0, _, _, _, h, _ => absurd h (Nat.not_lt_zero _)
 | m + 1, s, s1, l, hm, h => by
  unfold flatL at h
  split at h
  ·rename_i hc
   have h1 := rank_stop hc m hm
   split at h
   rename_i he
   have h3 := (hO.at he).le
   split at h
   rename_i hl
   cases h
   exact flat_end hO r m (by omega) hl
  ·rename_i hc
   cases h
   exact hc
theorem flat_lower {O : EP} (hO : DnE O) {r q : Int} (hq : q ≤ r) : ∀ (m : Nat) {s s1 : Ps} {l : SgL}, mu s < m → flatL O r m s = (l, s1) → flatL O q m s = (l ++ (flatL O q m s1).1, (flatL O q m s1).2)
 | 0, _, _, _, h, _ => absurd h (Nat.not_lt_zero _)
 | m + 1, s, s1, l, hm, h => by
  have h0 := h
  unfold flatL at h
  split at h
  ·rename_i hc
   have h1 := rank_stop hc m hm
   split at h
   rename_i y s2 he
   have h3 := (hO.at he).le
   split at h
   rename_i l2 s3 hl
   cases h
   have h4 := (dn_flat hO r m hl).le
   have ih := flat_lower hO hq m (by omega) hl
   conv => lhs; unfold flatL
   rw [if_pos ⟨hc.1, hc.2.1, Int.le_trans hq hc.2.2⟩, he]
   dsimp only
   rw [ih, flat_fuel hO q m (m + 1) s1 (by omega) (by omega)]
   rfl
  ·cases h
   rfl
theorem flat_no {O : EP} {r : Int} {s : Ps} (h : ¬ (s.e = 0 ∧ s.w.kind = 3 ∧ r ≤ rankS s.w.text)) (m : Nat) : flatL O r m s = ([], s) := by
 cases m with
 | zero => rfl
 | succ m => unfold flatL; rw [if_neg h]
def seenT (k : Nat) : SgL → SgL
 | [] => []
 | (g, y) :: b => (g, (passK k y b).1) :: (passK k y b).2
def ClimbOk (O : EP) (m k : Nat) : Prop := ∀ s, mu s < m → ∀ x s0 l s1, O s = (x, s0) → flatL O (6 - (k : Int)) m s0 = (l, s1) → climbP O m k s = ((passK k x l).1, s1) ∧ (passK k x l).2 = []
theorem rank_flat {O : EP} (hO : DnE O) {m k : Nat} (ih : ClimbOk O m k) : ∀ (n : Nat) (s : Ps) (X : ExT), mu s < n → mu s < m → ¬ (s.e = 0 ∧ s.w.kind = 3 ∧ 6 - (k : Int) ≤ rankS s.w.text) →
 rankL (climbP O m k) (5 - (k : Int)) n X s = ((passT (5 - (k : Int)) X (seenT k (flatL O (5 - (k : Int)) m s).1)).1, (flatL O (5 - (k : Int)) m s).2) ∧ (passT (5 - (k : Int)) X (seenT k (flatL O (5 - (k : Int)) m s).1)).2 = []
 | 0, _, _, h, _, _ => absurd h (Nat.not_lt_zero _)
 | n + 1, s, X, hn, hm, hno => by
  unfold rankL
  by_cases hc : s.e = 0 ∧ s.w.kind = 3 ∧ rankS s.w.text = 5 - (k : Int)
  ·have hc' : s.e = 0 ∧ s.w.kind = 3 ∧ 5 - (k : Int) ≤ rankS s.w.text := ⟨hc.1, hc.2.1, by omega⟩
   have h1 := rank_stop hc' n hn
   obtain ⟨m0, rfl⟩ : ∃ m0, m = m0 + 1 := ⟨m - 1, by omega⟩
   have h2 := rank_stop hc' m0 hm
   obtain ⟨⟨y, s0⟩, he⟩ : ∃ z, O (nextP s) = z := ⟨_, rfl⟩
   have h3 := (hO.at he).le
   obtain ⟨⟨l1, s1⟩, hl⟩ : ∃ z, flatL O (6 - (k : Int)) (m0 + 1) s0 = z := ⟨_, rfl⟩
   have h4 := (dn_flat hO _ _ hl).le
   have hend := flat_end hO _ (m0 + 1) (by omega) hl
   obtain ⟨i1, i2⟩ := ih (nextP s) (by omega) y s0 l1 s1 he hl
   have hlow := flat_lower hO (show 5 - (k : Int) ≤ 6 - (k : Int) by omega) (m0 + 1) (by omega) hl
   obtain ⟨j1, j2⟩ := rank_flat hO ih n s1 (.mk 6 s.w.text 0 noT [] [X, (passK k y l1).1]) (by omega) (by omega) hend
   obtain ⟨⟨l', s3⟩, hl'⟩ : ∃ z, flatL O (5 - (k : Int)) (m0 + 1) s1 = z := ⟨_, rfl⟩
   have hwhole : flatL O (5 - (k : Int)) (m0 + 1) s = ((s.w.text, y) :: (l1 ++ l'), s3) := by
    conv => lhs; unfold flatL
    rw [if_pos hc', he]
    dsimp only
    rw [flat_fuel hO _ m0 (m0 + 1) s0 (by omega) (by omega), hlow, hl']
   rw [hl'] at j1 j2
   dsimp only at j1 j2
   have hseen : seenT k ((s.w.text, y) :: (l1 ++ l')) = (s.w.text, (passK k y l1).1) :: seenT k l' := by
    show (s.w.text, (passK k y (l1 ++ l')).1) :: (passK k y (l1 ++ l')).2 = _
    cases l' with
    | nil => rw [List.append_nil, i2]; rfl
    | cons z b =>
     obtain ⟨g', y'⟩ := z
     have hg' : rankS g' ≤ 5 - (k : Int) := by
      unfold flatL at hl'
      split at hl'
      ·rename_i hc2
       split at hl'
       split at hl'
       cases hl'
       exact Int.not_lt.1 fun hh => hend ⟨hc2.1, hc2.2.1, by omega⟩
      ·cases hl'
     rw [passK_app g' y' b k l1 y hg', i2]
     rfl
   rw [if_pos hc, i1, hwhole]
   dsimp only
   rw [hseen, passT_yes hc.2.2, j1]
   exact ⟨rfl, j2⟩
  ·rw [if_neg hc, flat_no (fun h => hc ⟨h.1, h.2.1, Int.le_antisymm (Int.not_lt.1 fun hh => hno ⟨h.1, h.2.1, by omega⟩) h.2.2⟩) m]
   exact ⟨rfl, rfl⟩
theorem rank_le (t : List UInt8) : rankS t ≤ 5 := by
 have h : ∀ x ∈ rankT, x.2 ≤ 5 := by decide
 unfold rankS
 cases hf : rankT.find? (fun x => x.1 == t) with
 | none => decide
 | some x => exact h x (List.mem_of_find?_eq_some hf)
theorem climb_flat {O : EP} (hO : DnE O) (m : Nat) : ∀ k : Nat, ClimbOk O m k
 | 0 => fun s _ x s0 l s1 he hl => by
  rw [flat_no (fun h => absurd h.2.2 (by have := rank_le s0.w.text; omega))] at hl
  cases hl
  exact ⟨he, rfl⟩
 | k + 1 => fun s hm x s0 l s1 he hl => by
  have ih := climb_flat hO m k
  have hk : (6 : Int) - ((k + 1 : Nat) : Int) = 5 - (k : Int) := by omega
  rw [hk] at hl
  have h0 := hO.at he
  have h0le := h0.le
  unfold climbP
  by_cases hs : s.e = 0
  ·rw [if_neg (fun h => h hs)]
   obtain ⟨⟨l1, s2⟩, hl1⟩ : ∃ z, flatL O (6 - (k : Int)) m s0 = z := ⟨_, rfl⟩
   have h4 := (dn_flat hO _ _ hl1).le
   obtain ⟨i1, i2⟩ := ih s hm x s0 l1 s2 he hl1
   have hend := flat_end hO _ m (by omega) hl1
   have hlow := flat_lower hO (show 5 - (k : Int) ≤ 6 - (k : Int) by omega) m (by omega) hl1
   obtain ⟨j1, j2⟩ := rank_flat hO ih m s2 (passK k x l1).1 (by omega) (by omega) hend
   obtain ⟨⟨l', s3⟩, hl'⟩ : ∃ z, flatL O (5 - (k : Int)) m s2 = z := ⟨_, rfl⟩
   rw [hl'] at j1 j2 hlow
   rw [hl] at hlow
   cases hlow
   dsimp only at j1 j2
   have hpass : passK k x (l1 ++ l') = ((passK k x l1).1, seenT k l') := by
    cases l' with
    | nil => rw [List.append_nil]; exact Prod.ext rfl i2
    | cons z b =>
     obtain ⟨g', y'⟩ := z
     have hg' : rankS g' ≤ 5 - (k : Int) := by
      cases m with
      | zero => omega
      | succ m =>
      unfold flatL at hl'
      split at hl'
      ·rename_i hc2
       split at hl'
       split at hl'
       cases hl'
       exact Int.not_lt.1 fun hh => hend ⟨hc2.1, hc2.2.1, by omega⟩
      ·cases hl'
     rw [passK_app g' y' b k l1 x hg', i2]
     rfl
   rw [i1]
   dsimp only
   rw [j1, passK, hpass]
   exact ⟨rfl, j2⟩
  ·have hd0 : ¬ s0.e = 0 := by rw [h0.e hs]; exact hs
   rw [flat_no (fun h => hd0 h.1)] at hl
   cases hl
   rw [if_pos hs, he]
   have hnil : ∀ j : Nat, passK j x [] = (x, []) := fun j => by
    induction j with
    | zero => rfl
    | succ j ih => unfold passK; rw [ih]; rfl
   rw [hnil]
   exact ⟨rfl, rfl⟩
end Go.Proofs.YtnnnhlkmdnacaaaGreatDoor
namespace Go.Proofs.YtnnnhlkmdnacaaaGreatDoor
open Go.RowKit Go.Av Go.Ab
set_option linter.unusedSimpArgs false
set_option maxRecDepth 100000
set_option linter.defProp false
def c26 := by
 have c := KK_of Tryz.f26 (by conv => lhs; cbv)
 dsimp only [KK, KxP, doO, opO, List.map_cons, List.map_nil, List.toList_toArray] at c
 exact c
theorem b26 : FnIs Tryz.prog 26 Tryz.f26 13 := ⟨Tryz.func26, by kernel_rfl⟩
def c30 := by
 have c := KK_of Tryz.f30 (by conv => lhs; cbv)
 dsimp only [KK, KxP, doO, opO, List.map_cons, List.map_nil, List.toList_toArray] at c
 exact c
theorem b30 : FnIs Tryz.prog 30 Tryz.f30 17 := ⟨Tryz.func30, by kernel_rfl⟩
def c54 := by
 have c := KK_of Tryz.f54 (by conv => lhs; cbv)
 dsimp only [KK, KxP, doO, opO, List.map_cons, List.map_nil, List.toList_toArray] at c
 exact c
theorem b54 : FnIs Tryz.prog 54 Tryz.f54 21 := ⟨Tryz.func54, by kernel_rfl⟩
def c55 := by
 have c := KK_of Tryz.f55 (by conv => lhs; cbv)
 dsimp only [KK, KxP, doO, opO, List.map_cons, List.map_nil, List.toList_toArray] at c
 exact c
theorem b55 : FnIs Tryz.prog 55 Tryz.f55 29 := ⟨Tryz.func55, by kernel_rfl⟩
def wdD (x : WordS) : List D := [.int .i64 x.kind, .str x.text, .int .u64 x.int, .int .i64 x.at', .int .i64 x.next]
structure GoodL (L : List WordS) : Prop where
 last : ∀ (j : Nat) (h : j < L.length), (L[j].kind = 0 ∨ L[j].kind = 9) ↔ j + 1 = L.length
 sign : ∀ w ∈ L, w.kind = 3 → kindS w.text = 0
 num : ∀ w ∈ L, ¬ w.kind = 2 → w.int = 0
 len : L.length ≤ 200000
def nowW (L : List WordS) (i : Nat) : WordS := L.getD i .zero
def idxR (L : List WordS) (s : Ps) : Nat := if s.e = 50 then L.length - 1 else L.length - s.ws.length
def bxR (L : List WordS) (s : Ps) : List V := [.d (.sl (L.map wdD)), .d (.int .i64 (idxR L s : Int)), .d (.int .i64 s.e), .d (.int .i64 s.o), .d (.bool s.h)]
structure OkR (L : List WordS) (s : Ps) : Prop where
 e : s.e = 0 ∨ s.e = 50 ∨ s.e = 51
 one : 1 ≤ s.ws.length
 le : s.ws.length ≤ L.length
 live : s.e = 0 → s.ws = L.drop (L.length - s.ws.length) ∧ ¬ s.w.kind = 9
abbrev PR (L : List WordS) (f : FuncId) (ar : List V) (s : Ps) (v : V) (s' : Ps) : Prop := PF (fun s _ => bxR L s) (fun s _ => OkR L s) f ar s v s'
theorem OkR.lt {L : List WordS} {s : Ps} (h : OkR L s) : idxR L s < L.length := by
 have := h.one
 have := h.le
 unfold idxR
 split <;> omega
theorem OkR.idx {L : List WordS} {s : Ps} (_ : OkR L s) (he : s.e = 0) : idxR L s = L.length - s.ws.length := if_neg (by omega)
theorem OkR.w {L : List WordS} {s : Ps} (h : OkR L s) (he : s.e = 0) : s.w = nowW L (idxR L s) := by
 rw [h.idx he]
 obtain ⟨h1, _⟩ := h.live he
 generalize L.length - s.ws.length = i at h1
 unfold Ps.w nowW
 rw [h1, List.headD_eq_head?_getD, List.head?_drop, List.getD_eq_getElem?_getD]
theorem OkR.mu_le {L : List WordS} {s : Ps} (h : OkR L s) (hL : GoodL L) : mu s ≤ 200000 := by
 have := h.le
 have := hL.len
 unfold mu
 split <;> omega
theorem OkR.mu_pos {L : List WordS} {s : Ps} (h : OkR L s) (he : s.e = 0) : 0 < mu s := by
 rw [mu_live he]
 exact h.one
theorem okR_same {L : List WordS} {s t : Ps} (h : OkR L s) (hw : t.ws = s.ws) (he : t.e = s.e) : OkR L t := by
 have hw' : t.w = s.w := by unfold Ps.w; rw [hw]
 exact ⟨by rw [he]; exact h.e, by rw [hw]; exact h.one, by rw [hw]; exact h.le, fun h1 => by rw [hw', hw]; exact h.live (by rw [← he]; exact h1)⟩
theorem okR_51 {L : List WordS} {s t : Ps} (h : OkR L s) (hw : t.ws = s.ws) (he : t.e = 51) : OkR L t :=
 ⟨.inr (.inr he), by rw [hw]; exact h.one, by rw [hw]; exact h.le, fun h1 => by rw [he] at h1; exact absurd h1 (by decide)⟩
theorem okR_fail {L : List WordS} {s : Ps} (h : OkR L s) : OkR L (failP s 51) := by
 unfold failP
 split
 ·exact okR_51 h rfl rfl
 ·exact h
theorem okR_bump {L : List WordS} {s : Ps} (h : OkR L s) (t : List UInt8) : OkR L (bumpP s t) := by
 unfold bumpP
 split
 ·split
  ·unfold failP
   split
   ·exact okR_51 h rfl rfl
   ·exact okR_same h rfl rfl
  ·exact okR_same h rfl rfl
 ·split
  ·exact okR_same h rfl rfl
  ·exact h
theorem nowW_get {L : List WordS} {i : Nat} (h : i < L.length) : nowW L i = L[i] := by unfold nowW; rw [List.getD_eq_getElem?_getD, List.getElem?_eq_getElem h]; rfl
theorem nextR {L : List WordS} (hL : GoodL L) {s : Ps} (h : OkR L s) (he : s.e = 0) (hk : ¬ s.w.kind = 0) :
 idxR L s + 1 < L.length ∧ nextP s = (if (nowW L (idxR L s + 1)).kind = 9 then ⟨s.ws, 50, s.o, s.h⟩ else ⟨s.ws.tail, 0, s.o, s.h⟩) ∧ OkR L (nextP s) ∧ idxR L (nextP s) = idxR L s + 1 := by
 have h1 := h.lt
 obtain ⟨h3, h4⟩ := h.live he
 have hx := h.idx he
 have hle := h.le
 have hone := h.one
 have hw := h.w he
 rw [← hx] at h3
 have hn := nowW_get h1
 have hlt : idxR L s + 1 < L.length := by
  have h5 := (hL.last (idxR L s) h1).2
  rcases Nat.lt_or_ge (idxR L s + 1) L.length with h' | h'
  ·exact h'
  ·have h6 := h5 (by omega)
   rw [← hn, ← hw] at h6
   rcases h6 with h | h
   ·exact absurd h hk
   ·exact absurd h h4
 have htl : s.ws.tail = L.drop (idxR L s + 1) := by rw [h3, List.tail_drop]
 have hhd : (s.ws.tail.headD .zero) = nowW L (idxR L s + 1) := by
  rw [htl, List.headD_eq_head?_getD, List.head?_drop]
  unfold nowW
  rw [List.getD_eq_getElem?_getD]
 have hnx : nextP s = (if (nowW L (idxR L s + 1)).kind = 9 then ⟨s.ws, 50, s.o, s.h⟩ else ⟨s.ws.tail, 0, s.o, s.h⟩) := by
  unfold nextP
  rw [if_pos he, hhd]
 refine ⟨hlt, hnx, ?_⟩
 rw [hnx]
 by_cases hk9 : (nowW L (idxR L s + 1)).kind = 9
 ·rw [if_pos hk9]
  refine ⟨⟨.inr (.inl rfl), hone, hle, fun h => absurd h (by simp)⟩, ?_⟩
  rw [nowW_get hlt] at hk9
  have := (hL.last _ hlt).1 (.inr hk9)
  show (if (50 : Int) = 50 then L.length - 1 else _) = _
  rw [if_pos rfl]
  omega
 ·rw [if_neg hk9]
  have htlen : s.ws.tail.length = s.ws.length - 1 := by simp
  have hdl : L.length - s.ws.tail.length = idxR L s + 1 := by rw [htlen]; omega
  refine ⟨⟨.inl rfl, ?_, ?_, fun _ => ⟨?_, ?_⟩⟩, ?_⟩
  ·dsimp only; omega
  ·dsimp only; omega
  ·dsimp only; rw [hdl]; exact htl
  ·unfold Ps.w
   dsimp only
   rw [hhd]
   exact hk9
  ·show (if (0 : Int) = 50 then _ else L.length - s.ws.tail.length) = _
   rw [if_neg (by decide)]
   exact hdl
theorem fty0 : fieldTy Tryz.prog 77 0 = some (3, 0) := by kernel_rfl
set_option maxHeartbeats 2000000 in
theorem now_raw (L : List WordS) (i : Nat) (hi1 : i < L.length) (e o : Int) (hh : Bool) (c : Nat) (B : List (List V)) (T : List (Nat × Nat)) (hc : c < B.length) :
 AFn Tryz.prog TabI 26 [.ptr c 0] ⟨B.set c [.d (.sl (L.map wdD)), .d (.int .i64 (i : Int)), .d (.int .i64 e), .d (.int .i64 o), .d (.bool hh)], T⟩ (Same (.agg (wdL (nowW L i))) ⟨B.set c [.d (.sl (L.map wdD)), .d (.int .i64 (i : Int)), .d (.int .i64 e), .d (.int .i64 o), .d (.bool hh)], T⟩) := by
 obtain ⟨N, hn⟩ : ∃ N, B.length = N := ⟨_, rfl⟩
 have hi : c < N := by omega
 have hg : (L.map wdD)[i]? = some (wdD (nowW L i)) := by
  rw [List.getElem?_map, nowW_get hi1, List.getElem?_eq_getElem hi1]
  rfl
 refine b26.go 5 rfl fun hsm => ?_
 simp only [smw] at hsm
 simp only [W, seval, c26, hn, hi]
 refine ARun.drawE 10 [10] (fun S => S.boxes[c]? = some [.d (.sl (L.map wdD)), .d (.int .i64 (i : Int)), .d (.int .i64 e), .d (.int .i64 o), .d (.bool hh)]) (by kernel_rfl) (by kernel_rfl) (by kernel_rfl) (by kernel_rfl) (by kernel_rfl) ?_
 simp only [W, seval, c26]
 refine lexC_q (v := ?_) (by rfl) (by kernel_rfl) (fun S hS => ?_) ?_
 rotate_left
 ·simp only [W, seval, c26]
  exact rfl
 simp only [W, seval, c26]
 refine lexC_q (v := ?_) (by rfl) (by kernel_rfl) (fun S hS => ?_) ?_
 rotate_left
 ·simp only [W, seval, c26]
  exact rfl
 simp only [W, seval, c26]
 refine lexC_q (v := ?_) (by rfl) (by kernel_rfl) (fun S hS => ?_) ?_
 rotate_left
 ·simp only [W, seval, c26]
  exact rfl
 simp only [W, seval, c26]
 refine lexC_q (v := ?_) (by rfl) (by kernel_rfl) (fun S hS => ?_) ?_
 rotate_left
 ·try dsimp only at hS
  simp only [W, seval, c26, hS]
  exact rfl
 simp only [W, seval, c26]
 refine lexC_q (v := ?_) (by rfl) (by kernel_rfl) (fun S hS => ?_) ?_
 rotate_left
 ·simp only [W, seval, c26]
  exact rfl
 simp only [W, seval, c26]
 refine lexC_q (v := ?_) (by rfl) (by kernel_rfl) (fun S hS => ?_) ?_
 rotate_left
 ·simp only [W, seval, c26]
  exact rfl
 simp only [W, seval, c26]
 refine lexC_q (v := ?_) (by rfl) (by kernel_rfl) (fun S hS => ?_) ?_
 rotate_left
 ·simp only [W, seval, c26]
  exact rfl
 simp only [W, seval, c26]
 refine lexC_q (v := ?_) (by rfl) (by kernel_rfl) (fun S hS => ?_) ?_
 rotate_left
 ·try dsimp only at hS
  simp only [W, seval, c26, hS]
  exact rfl
 simp only [W, seval, c26]
 refine lexC_q (v := ?_) (by rfl) (by kernel_rfl) (fun S hS => ?_) ?_
 rotate_left
 ·simp only [W, seval, c26, hg, wdD]
  exact rfl
 simp only [W, seval, c26]
 refine lexC_q (v := ?_) (by rfl) (by kernel_rfl) (fun S hS => ?_) ?_
 rotate_left
 ·simp only [W, seval, c26]
  exact rfl
 simp only [W, seval, c26]
 refine lexC_end (by rw [bx_old (by simpa using hc)]; exact bx_get hc) ?_
 refine lexC_w (v := ?_) (S' := ?_) ?_ (by rfl) (by kernel_rfl) ?_ ?_
 rotate_left 2
 ·first | trivial | simp [bx_loc, bx_loc0, hn]
 ·simp only [W, seval, c26, hn]
  exact rfl
 simp only [W, seval, c26]
 refine lexC_end trivial ?_
 refine ARun.go 20 ?_
 simp only [W, seval, c26, hn, hi]
 refine retc (v := ?_) Tryz.func26 (by rfl) ?_ ?_
 rotate_left
 ·simp only [W, seval, c26, hn, hi]
  exact rfl
 refine PF.retJ (fun _ _ => rfl) ?_
 exact ⟨rfl, rfl⟩
theorem now_ab (L : List WordS) (s : Ps) (hok : OkR L s) (c : Nat) (B J : List (List V)) (T : List (Nat × Nat)) (hc : c < B.length) :
 AFn Tryz.prog TabI 26 [.ptr c 0] ⟨B.set c (bxR L s) ++ J, T⟩ (Same (.agg (wdL (nowW L (idxR L s)))) ⟨B.set c (bxR L s) ++ J, T⟩) := by
 have := now_raw L (idxR L s) hok.lt s.e s.o s.h c (B ++ J) T (by simp; omega)
 rw [List.set_append_left _ _ hc] at this
 exact this
section
variable {L : List WordS} {f : FuncId} {ar : List V} {s s' : Ps} {v : V} {c : Nat} {B J : List (List V)} {T : List (Nat × Nat)} {stop : Cont} {k : List Item} {d : Option Tmp} {env : List V}
theorem PR.call0 (h : PR L f ar s v s') (hc : c < B.length) (hok : OkR L s) (hk : OkR L s' → stop k (setV env d v) ⟨B.set c (bxR L s'), T⟩) : callS Tryz.prog TabI stop (.func f [] []) (.ptr c 0 :: ar) k d env ⟨B.set c (bxR L s), T⟩ := PF.call0 (i := 0) h hc hok fun _ => hk
theorem PR.call (h : PR L f ar s v s') (hc : c < B.length) (hok : OkR L s) (hk : OkR L s' → stop k (setV env d v) ⟨B.set c (bxR L s') ++ J, T⟩) : callS Tryz.prog TabI stop (.func f [] []) (.ptr c 0 :: ar) k d env ⟨B.set c (bxR L s) ++ J, T⟩ := PF.call (i := 0) h hc hok fun _ => hk
theorem PR.now0 (hc : c < B.length) (hok : OkR L s) (hk : stop k (setV env d (.agg (wdL (nowW L (idxR L s))))) ⟨B.set c (bxR L s), T⟩) : callS Tryz.prog TabI stop (.func 26 [] []) [.ptr c 0] k d env ⟨B.set c (bxR L s), T⟩ := by
 have h1 := now_ab L s hok c B [] T hc
 rw [List.append_nil] at h1
 exact callS_fn h1 fun _ _ ⟨e1, e2⟩ => by rw [e1, e2]; exact hk
theorem PR.now (hc : c < B.length) (hok : OkR L s) (hk : stop k (setV env d (.agg (wdL (nowW L (idxR L s))))) ⟨B.set c (bxR L s) ++ J, T⟩) : callS Tryz.prog TabI stop (.func 26 [] []) [.ptr c 0] k d env ⟨B.set c (bxR L s) ++ J, T⟩ :=
 callS_fn (now_ab L s hok c B J T hc) fun _ _ ⟨e1, e2⟩ => by rw [e1, e2]; exact hk
theorem PR.wit {z : Nat × Nat} {fn : FuncId} {R : V → Mem → Prop} (h : PR L f ar s v s') (hc : c < B.length) (hok : OkR L s) (ha : ∀ x ∈ V.ptr c 0 :: ar, ∃ y : Operand, evalV TabI env y = x) (hk : OkR L s' → ARun Tryz.prog TabI z fn k env ⟨B.set c (bxR L s) ++ J, T⟩ R) : ARun Tryz.prog TabI z fn k env ⟨B.set c (bxR L s) ++ J, T⟩ R :=
 ARun.witness (PF.fn (i := 0) h hc hok) ha fun ⟨_, _, _, _, hok', _⟩ => hk hok'
theorem PR.lexc {W : List Nat} {MM : Mem → Prop} {K : List V → Mem → Prop} {o : Oper} {l : List Oper} {k : Nat} (h : PR L f ar s v s') (hc : c < B.length) (hok : OkR L s) (hok' : OkR L s') (hS : MM ⟨B.set c (bxR L s) ++ J, T⟩) (hk : W.contains k = true) (hg : o.guard = none)
 (h1 : ∃ q f0, o.op = .call q ∧ q.callee = .value f0 ∧ evalV TabI env f0 = .func f [] [] ∧ q.args.toList.map (evalV TabI env) = .ptr c 0 :: ar) (h5 : lexC Tryz.prog TabI W MM K l (k + 1) (setV env o.dst v) ⟨B.set c (bxR L s') ++ J, T⟩) : lexC Tryz.prog TabI W MM K (o :: l) k env ⟨B.set c (bxR L s) ++ J, T⟩ := by
 obtain ⟨q, f0, e1, e2, e3, e4⟩ := h1
 refine lexC_c (Q := fun v' m => v' = v ∧ ∃ i' : Nat, OkR L s' ∧ m = ⟨B.set c (bxR L s') ++ J, T⟩) hS hk hg e1 e2 e3 ⟨_, _, rfl, 0, hok', rfl⟩ ?_ ?_
 ·rw [e4, List.nil_append, List.append_nil]
  exact PF.fn (i := 0) h hc hok
 ·rintro v' S' ⟨rfl, _, _, rfl⟩
  exact h5
end
set_option maxHeartbeats 2000000 in
theorem bad_pr (L : List WordS) (s : Ps) : PR L 30 [] s (.tup []) (failP s 51) := by
 intro c B T i hc hok
 obtain ⟨N, hn⟩ : ∃ N, B.length = N := ⟨_, rfl⟩
 have hi : c < N := by omega
 have hok2 := okR_fail hok
 by_cases he : s.e = 0
 ·have e1 := decide_eq_true he
  have hk9 := (hok.live he).2
  rw [hok.w he] at hk9
  have hd9 : decide (((nowW L (idxR L s)).kind : Int) = 9) = false := decide_eq_false (by omega)
  have hfs : failP s 51 = ⟨s.ws, 51, s.o, s.h⟩ := if_pos he
  have hix : idxR L (failP s 51) = idxR L s := by
   rw [hok.idx he, hfs]
   exact if_neg (by simp)
  have hnw := now_raw L (idxR L s) hok.lt 51 s.o s.h c B T hc
  refine b30.go 40 rfl fun hsm => ?_
  simp only [smw] at hsm
  simp only [W, seval, c30, hn, hi, bxR, e1]
  refine callS_fn hnw ?_
  rintro _ _ ⟨rfl, rfl⟩
  refine ARun.go 20 ?_
  simp only [W, seval, c30, wdL, hd9, opFieldV, fty0]
  refine ARun.fin Tryz.func30 rfl (PF.ret0 (by intro _ _; rfl) ?_)
  exact ⟨rfl, 0, hok2, by rw [hix, hfs]⟩
 ·have e1 := decide_eq_false he
  have hfs : failP s 51 = s := if_neg he
  rw [hfs]
  refine b30.go 40 rfl fun hsm => ?_
  simp only [smw] at hsm
  simp only [W, seval, c30, hn, hi, bxR, e1]
  refine ARun.fin Tryz.func30 rfl (PF.ret0 (by intro _ _; rfl) ?_)
  exact ⟨rfl, 0, hok, rfl⟩
set_option maxHeartbeats 2000000 in
theorem step_pr (L : List WordS) (hL : GoodL L) (s : Ps) (hk : s.e = 0 → ¬ s.w.kind = 0) : PR L 54 [] s (.tup []) (nextP s) := by
 intro c B T i hc hok
 obtain ⟨N, hn⟩ : ∃ N, B.length = N := ⟨_, rfl⟩
 have hi : c < N := by omega
 by_cases he : s.e = 0
 ·have e1 := decide_eq_true he
  obtain ⟨h1, h2, h3, h4⟩ := nextR hL hok he (hk he)
  have hlen := hL.len
  have hw := wrap_in ((idxR L s : Int) + 1) (by omega)
  have hcast : ((idxR L s : Nat) : Int) + 1 = ((idxR L s + 1 : Nat) : Int) := by omega
  have hnw := now_raw L (idxR L s + 1) h1 s.e s.o s.h c B T hc
  rw [← hcast] at hnw
  refine b54.go 40 rfl fun hsm => ?_
  simp only [smw] at hsm
  simp only [W, seval, c54, hn, hi, bxR, e1, hw]
  refine callS_fn hnw ?_
  rintro _ _ ⟨rfl, rfl⟩
  by_cases h9 : (nowW L (idxR L s + 1)).kind = 9
  ·rw [if_pos h9] at h2
   have hd9 : decide (((nowW L (idxR L s + 1)).kind : Int) = 9) = true := decide_eq_true (by omega)
   refine ARun.go 40 ?_
   simp only [W, seval, c54, hn, hi, wdL, hd9, opFieldV, fty0]
   refine ARun.fin Tryz.func54 rfl (PF.ret0 (by intro _ _; rfl) ?_)
   refine ⟨rfl, 0, h3, ?_⟩
   rw [h4, h2, hcast]
  ·rw [if_neg h9] at h2
   have hd9 : decide (((nowW L (idxR L s + 1)).kind : Int) = 9) = false := decide_eq_false (by omega)
   refine ARun.go 40 ?_
   simp only [W, seval, c54, hn, hi, wdL, hd9, opFieldV, fty0]
   refine ARun.fin Tryz.func54 rfl (PF.ret0 (by intro _ _; rfl) ?_)
   refine ⟨rfl, 0, h3, ?_⟩
   rw [h4, h2, hcast, he]
 ·have e1 := decide_eq_false he
  rw [next_dead he]
  refine b54.go 40 rfl fun hsm => ?_
  simp only [smw] at hsm
  simp only [W, seval, c54, hn, hi, bxR, e1]
  refine ARun.fin Tryz.func54 rfl (PF.ret0 (by intro _ _; rfl) ?_)
  exact ⟨rfl, 0, hok, rfl⟩
set_option maxHeartbeats 2000000 in
theorem see_pr (L : List WordS) (s : Ps) (t : List UInt8) : PR L 55 [.d (.str t)] s (.d (.bool (isP s t))) s := by
 intro c B T i hc hok
 obtain ⟨N, hn⟩ : ∃ N, B.length = N := ⟨_, rfl⟩
 have hi : c < N := by omega
 cases h0 : decide (s.e = 0)
 ·have hf : isP s t = false := by unfold isP; rw [h0]; rfl
  rw [hf]
  refine b55.go 10 rfl fun hsm => ?_
  simp only [smw] at hsm
  simp only [W, seval, c55, hn, hi]
  refine PR.now0 hc hok ?_
  refine ARun.go 60 ?_
  simp only [W, seval, c55, hn, hi, wdL, bxR, h0]
  refine ARun.ret Tryz.func55 rfl (PF.retJ (by intro _ _; rfl) ?_)
  exact ⟨rfl, 0, hok, rfl⟩
 ·have hw := hok.w (of_decide_eq_true h0)
  unfold isP
  rw [hw, h0]
  have hk3 := dec_nat (nowW L (idxR L s)).kind 3
  have hk4 := dec_nat (nowW L (idxR L s)).kind 4
  simp only [Int.cast_ofNat_Int] at hk3 hk4
  cases h3 : decide ((nowW L (idxR L s)).kind = 3) <;> cases h4 : decide ((nowW L (idxR L s)).kind = 4)
  all_goals
   refine b55.go 10 rfl fun hsm => ?_
   simp only [smw] at hsm
   simp only [W, seval, c55, hn, hi]
   refine PR.now0 hc hok ?_
   refine ARun.go 60 ?_
   simp only [W, seval, c55, hn, hi, wdL, bxR, h0, hk3, hk4, h3, h4]
   refine ARun.ret Tryz.func55 rfl (PF.retJ (by intro _ _; rfl) ?_)
   exact ⟨rfl, 0, hok, rfl⟩
def c27 := by
 have c := KK_of Tryz.f27 (by conv => lhs; cbv)
 dsimp only [KK, KxP, doO, opO, List.map_cons, List.map_nil, List.toList_toArray] at c
 exact c
theorem b27 : FnIs Tryz.prog 27 Tryz.f27 53 := ⟨Tryz.func27, by kernel_rfl⟩
def c24 := by
 have c := KK_of Tryz.f24 (by conv => lhs; cbv)
 dsimp only [KK, KxP, doO, opO, List.map_cons, List.map_nil, List.toList_toArray] at c
 exact c
theorem b24 : FnIs Tryz.prog 24 Tryz.f24 10 := ⟨Tryz.func24, by kernel_rfl⟩
def c25 := by
 have c := KK_of Tryz.f25 (by conv => lhs; cbv)
 dsimp only [KK, KxP, doO, opO, List.map_cons, List.map_nil, List.toList_toArray] at c
 exact c
theorem b25 : FnIs Tryz.prog 25 Tryz.f25 22 := ⟨Tryz.func25, by kernel_rfl⟩
set_option maxHeartbeats 4000000 in
theorem take_pr (L : List WordS) (hL : GoodL L) (s : Ps) (t : List UInt8) : PR L 27 [.d (.str t)] s (.d (.bool (gotP s t).1)) (gotP s t).2 := by
 intro c B T i hc hok
 obtain ⟨N, hn⟩ : ∃ N, B.length = N := ⟨_, rfl⟩
 have hi : c < N := by omega
 cases hb : isP s t
 ·have hg : gotP s t = (false, s) := by unfold gotP; rw [hb]; rfl
  rw [hg]
  refine b27.go 20 rfl fun hsm => ?_
  simp only [smw] at hsm
  simp only [W, seval, c27, hn, hi]
  refine PR.call0 (see_pr L s t) hc hok fun hok1 => ?_
  refine ARun.go 20 ?_
  simp only [W, seval, c27, hb]
  refine ARun.ret Tryz.func27 rfl (PF.ret0 (by intro _ _; rfl) ?_)
  exact ⟨rfl, 0, hok1, rfl⟩
 ·have hlv := is_live hb
  have hg : gotP s t = (true, nextP (bumpP s t)) := by unfold gotP; rw [hb]; rfl
  rw [hg]
  have hkb : (bumpP s t).e = 0 → ¬ (bumpP s t).w.kind = 0 := fun _ => by
   have : (bumpP s t).w = s.w := by unfold Ps.w; rw [bump_w]
   rw [this]; omega
  have hokb := okR_bump hok t
  have hnx := step_pr L hL (bumpP s t) hkb
  generalize hF : nextP (bumpP s t) = F at hnx ⊢
  by_cases hw : 100 < IntKind.i64.wrap (s.o + 1)
  ·have hwd := decide_eq_true hw
   have hix : idxR L s = idxR L ⟨s.ws, 51, IntKind.i64.wrap (s.o + 1), s.h⟩ := by
    rw [hok.idx hlv.1]
    exact (if_neg (by simp)).symm
   refine b27.go 20 rfl fun hsm => ?_
   simp only [smw] at hsm
   simp only [W, seval, c27, hn, hi]
   refine PR.call0 (see_pr L s t) hc hok fun hok1 => ?_
   refine ARun.go 140 ?_
   simp only [W, seval, c27, hn, hi, hb, bxR, hwd]
   repeat' ((first | refine guardB_of (fun h => ?_) (fun h => ?_) | refine condS_of (fun h => ?_) (fun h => ?_)) <;> simp only [W, seval, c27, h, hn, hi, hwd])
   all_goals
    first
     | (have e : bumpP s t = ⟨s.ws, 51, IntKind.i64.wrap (s.o + 1), s.h⟩ := by simp [bumpP, opnB, clsB, failP, *]
        rw [e] at hnx hokb
        rw [hix]
        refine PR.call0 hnx hc hokb fun hok2 => ?_)
     | (have e : bumpP s t = ⟨s.ws, s.e, IntKind.i64.wrap (s.o - 1), s.h⟩ := by simp [bumpP, opnB, clsB, *]
        rw [e] at hnx hokb
        refine PR.call0 hnx hc hokb fun hok2 => ?_)
     | (have e : bumpP s t = s := by simp [bumpP, opnB, clsB, *]
        rw [e] at hnx hokb
        refine PR.call0 hnx hc hokb fun hok2 => ?_)
     | (exfalso; simp_all; done)
   all_goals
    refine ARun.go 20 ?_
    simp only [W, seval, c27, hn, hi]
    refine ARun.ret Tryz.func27 rfl (PF.ret0 (by intro _ _; rfl) ?_)
    exact ⟨rfl, 0, hok2, rfl⟩
  ·have hwd := decide_eq_false hw
   refine b27.go 20 rfl fun hsm => ?_
   simp only [smw] at hsm
   simp only [W, seval, c27, hn, hi]
   refine PR.call0 (see_pr L s t) hc hok fun hok1 => ?_
   refine ARun.go 140 ?_
   simp only [W, seval, c27, hn, hi, hb, bxR, hwd]
   repeat' ((first | refine guardB_of (fun h => ?_) (fun h => ?_) | refine condS_of (fun h => ?_) (fun h => ?_)) <;> simp only [W, seval, c27, h, hn, hi, hwd])
   all_goals
    first
     | (have e : bumpP s t = ⟨s.ws, s.e, IntKind.i64.wrap (s.o + 1), s.h⟩ := by simp only [bumpP, opnB, clsB, *]; rfl
        rw [e] at hnx hokb
        refine PR.call0 hnx hc hokb fun hok2 => ?_)
     | (have e : bumpP s t = ⟨s.ws, s.e, IntKind.i64.wrap (s.o - 1), s.h⟩ := by simp [bumpP, opnB, clsB, *]
        rw [e] at hnx hokb
        refine PR.call0 hnx hc hokb fun hok2 => ?_)
     | (have e : bumpP s t = s := by simp [bumpP, opnB, clsB, *]
        rw [e] at hnx hokb
        refine PR.call0 hnx hc hokb fun hok2 => ?_)
     | (exfalso; simp_all; done)
   all_goals
    refine ARun.go 20 ?_
    simp only [W, seval, c27, hn, hi]
    refine ARun.ret Tryz.func27 rfl (PF.ret0 (by intro _ _; rfl) ?_)
    exact ⟨rfl, 0, hok2, rfl⟩
theorem must_pr (L : List WordS) (hL : GoodL L) (s : Ps) (t : List UInt8) : PR L 24 [.d (.str t)] s (.tup []) (wantP s t) := by
 intro c B T i hc hok
 have hgp := take_pr L hL s t
 unfold wantP
 rcases hg : gotP s t with ⟨b, s1⟩
 rw [hg] at hgp
 refine b24.go 20 rfl fun _ => ?_
 simp only [W, seval, c24]
 refine PR.call0 hgp hc hok fun hok1 => ?_
 cases b
 ·refine ARun.go 20 ?_
  simp only [W, seval, c24]
  refine PR.call0 (bad_pr L s1) hc hok1 fun hok2 => ?_
  refine ARun.go 20 ?_
  simp only [W, seval, c24]
  refine ARun.fin Tryz.func24 rfl (PF.ret0 (by intro _ _; rfl) ?_)
  exact ⟨rfl, 0, hok2, rfl⟩
 ·refine ARun.go 20 ?_
  simp only [W, seval, c24]
  refine ARun.fin Tryz.func24 rfl (PF.ret0 (by intro _ _; rfl) ?_)
  exact ⟨rfl, 0, hok1, rfl⟩
set_option maxHeartbeats 2000000 in
theorem name_pr (L : List WordS) (hL : GoodL L) (s : Ps) : PR L 25 [] s (.d (.str (nameP s).1)) (nameP s).2 := by
 intro c B T i hc hok
 obtain ⟨N, hn⟩ : ∃ N, B.length = N := ⟨_, rfl⟩
 have hi : c < N := by omega
 have hno : ¬ (s.e = 0 ∧ s.w.kind = 1) → nameP s = ([], failP s 51) := fun h => if_neg h
 have hyes : s.e = 0 ∧ s.w.kind = 1 → nameP s = (s.w.text, nextP s) := fun h => if_pos h
 by_cases hk : (nowW L (idxR L s)).kind = 1
 ·have hk1 : decide (((nowW L (idxR L s)).kind : Int) = 1) = true := decide_eq_true (by omega)
  by_cases he : s.e = 0
  ·have e1 := decide_eq_true he
   have hw := hok.w he
   rw [hyes ⟨he, by rw [hw]; exact hk⟩, hw]
   refine b25.go 10 rfl fun hsm => ?_
   simp only [smw] at hsm
   simp only [W, seval, c25, hn, hi]
   refine PR.now0 hc hok ?_
   refine ARun.go 60 ?_
   simp only [W, seval, c25, hn, hi, wdL, bxR, e1, hk1]
   refine PR.call (step_pr L hL s fun _ => by rw [hw]; omega) hc hok fun hok2 => ?_
   refine ARun.go 20 ?_
   simp only [W, seval, c25, hn, hi]
   refine ARun.ret Tryz.func25 rfl (PF.retJ (by intro _ _; rfl) ?_)
   exact ⟨rfl, 0, hok2, rfl⟩
  ·have e1 := decide_eq_false he
   rw [hno (fun h => he h.1)]
   refine b25.go 10 rfl fun hsm => ?_
   simp only [smw] at hsm
   simp only [W, seval, c25, hn, hi]
   refine PR.now0 hc hok ?_
   refine ARun.go 60 ?_
   simp only [W, seval, c25, hn, hi, wdL, bxR, e1, hk1]
   refine PR.call (bad_pr L s) hc hok fun hok2 => ?_
   refine ARun.go 20 ?_
   simp only [W, seval, c25, hn, hi]
   refine ARun.ret Tryz.func25 rfl (PF.retJ (by intro _ _; rfl) ?_)
   exact ⟨rfl, 0, hok2, rfl⟩
 ·have hk1 : decide (((nowW L (idxR L s)).kind : Int) = 1) = false := decide_eq_false (by omega)
  rw [hno (fun h => hk (by rw [← hok.w h.1]; exact h.2))]
  refine b25.go 10 rfl fun hsm => ?_
  simp only [smw] at hsm
  simp only [W, seval, c25, hn, hi]
  refine PR.now0 hc hok ?_
  refine ARun.go 60 ?_
  simp only [W, seval, c25, hn, hi, wdL, bxR, hk1]
  refine PR.call (bad_pr L s) hc hok fun hok2 => ?_
  refine ARun.go 20 ?_
  simp only [W, seval, c25, hn, hi]
  refine ARun.ret Tryz.func25 rfl (PF.retJ (by intro _ _; rfl) ?_)
  exact ⟨rfl, 0, hok2, rfl⟩
def c84 := by
 have c := KK_of Tryz.f84 (by conv => lhs; cbv)
 dsimp only [KK, KxP, doO, opO, List.map_cons, List.map_nil, List.toList_toArray] at c
 exact c
theorem b84 : FnIs Tryz.prog 84 Tryz.f84 25 := ⟨Tryz.func84, by kernel_rfl⟩
def kinds7 : List (List UInt8) := [[], [98, 111, 111, 108], [98, 121, 116, 101], [105, 110, 116, 51, 50], [105, 110, 116], [117, 105, 110, 116, 51, 50], [117, 105, 110, 116, 54, 52]]
def kfF (x : WordS) : Nat → Nat → Int
 | 0, _ => 0
 | n + 1, i => if x.kind = 4 ∧ x.text = kinds7.getD i [] then (i : Int) else kfF x n (i + 1)
def kindW (x : WordS) : Int := if x.kind = 4 then kindS x.text else 0
theorem kfF_all (x : WordS) : kfF x 6 1 = kindW x := by
 unfold kindW
 rw [kindS_eq]
 by_cases hk : x.kind = 4
 ·simp only [kfF, hk, true_and, if_true, kinds7, List.getD_cons_succ, List.getD_cons_zero]
  rfl
 ·simp only [kfF, hk, false_and, if_false]
set_option maxHeartbeats 4000000 in
theorem kind_ab (x : WordS) (B : List (List V)) (T : List (Nat × Nat)) : AFn Tryz.prog TabI 84 [.agg (wdL x)] ⟨B, T⟩ (Same (.d (.int .i64 (kindW x))) ⟨B, T⟩) := by
 obtain ⟨N, hn⟩ : ∃ N, B.length = N := ⟨_, rfl⟩
 obtain ⟨r, hr⟩ : ∃ r, kindW x = r := ⟨_, rfl⟩
 rw [hr]
 refine b84.go 30 rfl fun hsm => ?_
 simp only [smw] at hsm
 simp only [W, seval, c84, hn, wdL, mapD_nil, mapD_cons, Nat.reduceMul]
 have hall := kfF_all x
 rw [hr] at hall
 have hk4 := dec_nat x.kind 4
 simp only [Int.cast_ofNat_Int] at hk4
 change ARun _ _ _ _ _ _ ⟨B ++ [wdL x], T⟩ _
 refine ARun.loopW (fun i : Nat => (envS 25 [(1, .ptr N 0), (3, .sl (ssD kinds7) .full), (4, .d (.int .i64 (i : Int)))], ⟨B ++ [wdL x], T⟩)) (fun i => 1 ≤ i ∧ i ≤ 7 ∧ kfF x (7 - i) i = r) (fun i => 7 - i) 1 ⟨by omega, by omega, hall⟩ ?_ rfl ?_
 ·skip
  refine Agree.env _ ?_
  simp only [agw, seval, hn]
  rfl
 rintro i ⟨h1, h7, hk⟩ ih
 dsimp only at h1 h7 hk ih ⊢
 have hlen : (ssD kinds7).length = 7 := rfl
 by_cases hi : i < 7
 ·have hd : decide ((i : Int) < 7) = true := decide_eq_true (by omega)
  have hw := wrap_in ((i : Int) + 1) (by omega)
  obtain ⟨nm, hnm⟩ : ∃ nm, kinds7[i]? = some nm := ⟨_, List.getElem?_eq_getElem (show i < kinds7.length from hi)⟩
  have hgd : kinds7.getD i [] = nm := by rw [List.getD_eq_getElem?_getD, hnm]; rfl
  rw [show 7 - i = (7 - (i + 1)) + 1 by omega, kfF, hgd] at hk
  refine ARun.go 16 ?_
  simp only [W, seval, c84, hn, hlen, hd]
  cases h4 : decide (x.kind = 4)
  ·rw [h4] at hk4
   rw [if_neg (fun h => absurd h.1 (of_decide_eq_false h4))] at hk
   refine ARun.draw (by kernel_rfl) (by kernel_rfl) (lexQ_ok 60 _ _ ?_)
   simp only [W, seval, c84, hn, wdL, hk4, ssD_get, hnm]
   refine ARun.go 60 ?_
   simp only [W, seval, c84, hw]
   refine ih (i + 1) ⟨by omega, by omega, hk⟩ (by omega) _ _ ?_ rfl
   refine Agree.env _ ?_
   simp only [agw, seval, hn]
  ·rw [h4] at hk4
   cases h5 : decide (x.text = nm)
   ·rw [if_neg (fun h => absurd h.2 (of_decide_eq_false h5))] at hk
    refine ARun.draw (by kernel_rfl) (by kernel_rfl) (lexQ_ok 60 _ _ ?_)
    simp only [W, seval, c84, hn, wdL, hk4, ssD_get, hnm, h5]
    refine ARun.go 60 ?_
    simp only [W, seval, c84, hw]
    refine ih (i + 1) ⟨by omega, by omega, hk⟩ (by omega) _ _ ?_ rfl
    refine Agree.env _ ?_
    simp only [agw, seval, hn]
   ·rw [if_pos ⟨of_decide_eq_true h4, of_decide_eq_true h5⟩] at hk
    subst hk
    refine ARun.draw (by kernel_rfl) (by kernel_rfl) (lexQ_ok 60 _ _ ?_)
    simp only [W, seval, c84, hn, wdL, hk4, ssD_get, hnm, h5]
    refine ARun.go 60 ?_
    simp only [W, seval, c84]
    refine ARun.ret Tryz.func84 rfl (Left.box ?_)
    exact ⟨rfl, rfl⟩
 ·have h8 : i = 7 := by omega
  subst h8
  have hk : (0 : Int) = r := hk
  subst hk
  refine ARun.go 60 ?_
  simp only [W, seval, c84, hn, hlen]
  refine ARun.ret Tryz.func84 rfl (Left.box ?_)
  exact ⟨rfl, rfl⟩
def c134 := by
 have c := KK_of Tryz.f134 (by conv => lhs; cbv)
 dsimp only [KK, KxP, doO, opO, List.map_cons, List.map_nil, List.toList_toArray] at c
 exact c
theorem b134 : FnIs Tryz.prog 134 Tryz.f134 15 := ⟨Tryz.func134, by kernel_rfl⟩
def c133 := by
 have c := KK_of Tryz.f133 (by conv => lhs; cbv)
 dsimp only [KK, KxP, doO, opO, List.map_cons, List.map_nil, List.toList_toArray] at c
 exact c
theorem b133 : FnIs Tryz.prog 133 Tryz.f133 14 := ⟨Tryz.func133, by kernel_rfl⟩
def c85 := by
 have c := KK_of Tryz.f85 (by conv => lhs; cbv)
 dsimp only [KK, KxP, doO, opO, List.map_cons, List.map_nil, List.toList_toArray] at c
 exact c
theorem b85 : FnIs Tryz.prog 85 Tryz.f85 30 := ⟨Tryz.func85, by kernel_rfl⟩
def c58 := by
 have c := KK_of Tryz.f58 (by conv => lhs; cbv)
 dsimp only [KK, KxP, doO, opO, List.map_cons, List.map_nil, List.toList_toArray] at c
 exact c
theorem b58 : FnIs Tryz.prog 58 Tryz.f58 11 := ⟨Tryz.func58, by kernel_rfl⟩
def EOr (L : List WordS) (E : EP) (n : Nat) : Prop := ∀ s, mu s < n → PR L 146 [] s (exV (E s).1) (E s).2
def SOr (L : List WordS) (S : SP) (n : Nat) : Prop := (∀ s, mu s < n → PR L 115 [] s (stV (S s).1) (S s).2) ∧ ∀ s, mu s < n → 0 < mu s → mu (S s).2 < mu s
set_option maxHeartbeats 2000000 in
theorem exprs_pr (L : List WordS) (hG : GoodL L) {E : EP} {n : Nat} (hE : EOr L E n) (hd : DnE E) (M : Nat) (s : Ps) (hn1 : mu s < n) (hM : mu s < M) :
 PR L 134 [] s (.d (.sl ((valsP E M s).1.map exD))) (valsP E M s).2 := by
 intro c B T i hc hok
 obtain ⟨N, hn⟩ : ∃ N, B.length = N := ⟨_, rfl⟩
 obtain ⟨t, ht⟩ : ∃ t, T.length = t := ⟨_, rfl⟩
 have hi : c < N := by omega
 have hmu := hok.mu_le hG
 obtain ⟨⟨l0, s0⟩, hL⟩ : ∃ r, valsP E M s = r := ⟨_, rfl⟩
 rw [hL]
 dsimp only
 cases M with
 | zero => omega
 | succ M =>
 rw [valsP] at hL
 refine b134.go 14 rfl fun hsm => ?_
 simp only [smw] at hsm
 simp only [W, seval, c134, hn, hi]
 obtain ⟨⟨x, s1⟩, hx⟩ : ∃ r, E s = r := ⟨_, rfl⟩
 have hpx := hE s hn1
 have hdx := (hd.at hx).le
 rw [hx] at hpx hL
 dsimp only at hpx hL
 refine PR.call0 hpx hc hok fun hok1 => ?_
 unfold exV
 refine ARun.go 8 ?_
 simp only [W, seval, c134, hn, hi, ht, mapD_nil, mapD_cons, Nat.reduceMul, rows8]
 refine ARun.token 3 [exD x] (by rfl) 8 (by omega) (ex1 x) ?_
 simp only [envS_put, ht]
 refine ARun.loopW (fun a : List ExT × Ps => (envS 15 [(0, .ptr c 0), (3, .sl (a.1.map exD) (.own t))], ⟨B.set c (bxR L a.2), T ++ [(a.1.length, 8)]⟩)) (fun a => OkR L a.2 ∧ mu a.2 < n ∧ a.1.length + mu a.2 ≤ mu s + 1 ∧ ∃ m, mu a.2 < m + 1 ∧ (match gotP a.2 [44] with
  | (false, s2) => (a.1, s2)
  | (true, s2) => (a.1 ++ (valsP E m s2).1, (valsP E m s2).2)) = (l0, s0)) (fun a => mu a.2) ([x], s1) ⟨hok1, by dsimp only; omega, by simp; omega, M, by dsimp only; omega, ?_⟩ ?_ rfl ?_
 ·dsimp only
  rw [← hL]
  obtain ⟨⟨b, s2⟩, hg⟩ : ∃ r, gotP s1 [44] = r := ⟨_, rfl⟩
  rw [hg]
  cases b
  ·rfl
  ·obtain ⟨⟨l3, s3⟩, h3⟩ : ∃ r, valsP E M s2 = r := ⟨_, rfl⟩
   simp only [h3]
   rfl
 ·skip
  refine Agree.env _ ?_
  simp only [agw, seval, hn]
  rfl
 rintro ⟨l, s1⟩ ⟨hok1, hn2, hle, m, hm, hr⟩ ih
 dsimp only at hok1 hn2 hle hm hr ih ⊢
 refine ARun.go 20 ?_
 simp only [W, seval, c134, hn, hi]
 obtain ⟨⟨b, s3⟩, hg_s3⟩ : ∃ r, gotP s1 [44] = r := ⟨_, rfl⟩
 have hp_s3 := take_pr L hG s1 [44]
 rw [hg_s3] at hp_s3
 dsimp only at hp_s3
 first
  | refine PR.call0 hp_s3 hc hok1 fun hok3 => ?_
  | refine PR.call hp_s3 hc hok1 fun hok3 => ?_
 rw [hg_s3] at hr
 cases b
 case' false =>
  dsimp only at hr
  obtain ⟨rfl, rfl⟩ := Prod.mk.inj hr
  refine ARun.go 60 ?_
  simp only [W, seval, c134]
  refine ARun.ret Tryz.func134 rfl (PF.retK (fun _ _ => rfl) ?_)
  refine ⟨?_, 0, hok3, rfl⟩
  simp only [W, seval, c134, wk, ht]
  simp
 case' true =>
  have hlt := got_lt hg_s3
  dsimp only at hr
  cases m with
  | zero => omega
  | succ m =>
  rw [valsP] at hr
  refine ARun.go 20 ?_
  simp only [W, seval, c134, hn, hi]
  obtain ⟨⟨y, s4⟩, hy⟩ : ∃ r, E s3 = r := ⟨_, rfl⟩
  have hpy := hE s3 (by omega)
  have hdy := (hd.at hy).le
  rw [hy] at hpy hr
  dsimp only at hpy hr
  refine PR.call0 hpy hc hok3 fun hok4 => ?_
  have hcap : (l.length + 1) * 128 ≤ 140737488355328 := by omega
  have hmap : l.map exD ++ [exD y] = (l ++ [y]).map exD := by simp
  have hlen : (l ++ [y]).length = l.length + 1 := by simp
  unfold exV
  refine ARun.go 60 ?_
  simp only [W, seval, c134, hn, hi, ht, mapD_nil, mapD_cons, Nat.reduceMul, rows8, hcap, hmap, ex1]
  refine ih (l ++ [y], s4) ⟨hok4, by dsimp only; omega, by dsimp only; omega, m, by dsimp only; omega, ?_⟩ (by dsimp only; omega) _ _ ?_ (by dsimp only; rw [hlen])
  ·dsimp only
   rw [← hr]
   obtain ⟨⟨b, s5⟩, hg⟩ : ∃ r, gotP s4 [44] = r := ⟨_, rfl⟩
   rw [hg]
   cases b
   ·rfl
   ·obtain ⟨⟨l6, s6⟩, h6⟩ : ∃ r, valsP E m s5 = r := ⟨_, rfl⟩
    simp only [h6]
    simp
  ·skip
   refine Agree.env _ ?_
   simp only [agw, seval, hn]
theorem head_pr (L : List WordS) {E : EP} {n : Nat} (hE : EOr L E n) (s : Ps) (hn1 : mu s < n) :
 PR L 133 [] s (.d (.sl [exD (headP E s).1])) (headP E s).2 := by
 intro c B T i hc hok
 obtain ⟨N, hn⟩ : ∃ N, B.length = N := ⟨_, rfl⟩
 have hi : c < N := by omega
 obtain ⟨⟨x, s1⟩, hx⟩ : ∃ r, E ⟨s.ws, s.e, s.o, true⟩ = r := ⟨_, rfl⟩
 have hpx := hE ⟨s.ws, s.e, s.o, true⟩ hn1
 unfold headP
 rw [hx] at hpx ⊢
 dsimp only at hpx ⊢
 refine b133.go 30 rfl fun hsm => ?_
 simp only [smw] at hsm
 simp only [W, seval, c133, hn, hi, bxR]
 refine PR.call0 hpx hc (okR_same hok rfl rfl) fun hok1 => ?_
 unfold exV
 refine ARun.go 60 ?_
 simp only [W, seval, c133, hn, hi, bxR, mapD_nil, mapD_cons, Nat.reduceMul, rows8]
 refine ARun.ret Tryz.func133 rfl (PF.retJ (fun _ _ => rfl) ?_)
 exact ⟨rfl, 0, okR_same hok1 rfl rfl, rfl⟩
set_option maxHeartbeats 4000000 in
theorem stmts_pr (L : List WordS) (hG : GoodL L) {S : SP} {n : Nat} (hS : SOr L S n) (M : Nat) (s : Ps) (hn1 : mu s < n) (hM : mu s < M) :
 PR L 85 [] s (.d (.sl ((stmtsL S M s).1.map stD))) (stmtsL S M s).2 := by
 intro c B T i hc hok
 obtain ⟨N, hn⟩ : ∃ N, B.length = N := ⟨_, rfl⟩
 obtain ⟨t, ht⟩ : ∃ t, T.length = t := ⟨_, rfl⟩
 have hi : c < N := by omega
 have hmu := hok.mu_le hG
 obtain ⟨⟨l0, s0⟩, hL⟩ : ∃ r, stmtsL S M s = r := ⟨_, rfl⟩
 rw [hL]
 dsimp only
 refine b85.go 14 rfl fun hsm => ?_
 simp only [smw] at hsm
 simp only [W, seval, c85, hn, hi]
 refine ARun.token 3 [] (by rfl) 10 (by omega) rfl ?_
 simp only [envS_put, ht]
 refine ARun.after [_, _] _ (fun _ : Unit => (envS 30 [(0, .ptr c 0), (3, .sl (l0.map stD) (.own t))], ⟨B.set c (bxR L s0), T ++ [(l0.length, 10)]⟩)) (fun _ => OkR L s0) ?_ ?_
 ·rintro ⟨⟩ hok0
  refine ARun.go 20 ?_
  simp only [W, seval, c85]
  refine ARun.ret Tryz.func85 rfl (PF.retK (fun _ _ => rfl) ?_)
  refine ⟨?_, 0, hok0, rfl⟩
  simp only [W, seval, c85, wk, ht]
  simp
 intro K' hend
 refine ARun.loopW (fun a : List StT × Ps => (envS 30 [(0, .ptr c 0), (3, .sl (a.1.map stD) (.own t))], ⟨B.set c (bxR L a.2), T ++ [(a.1.length, 10)]⟩)) (fun a => OkR L a.2 ∧ mu a.2 < n ∧ a.1.length + mu a.2 ≤ mu s ∧ ∃ m, mu a.2 < m ∧ (a.1 ++ (stmtsL S m a.2).1, (stmtsL S m a.2).2) = (l0, s0)) (fun a => mu a.2) ([], s) ⟨hok, hn1, by simp, M, hM, by dsimp only; rw [hL, List.nil_append]⟩ ?_ rfl ?_
 ·skip
  refine Agree.env _ ?_
  simp only [agw, seval, hn]
  trivial
 rintro ⟨l, s1⟩ ⟨hok1, hn2, hle, m, hm, hr⟩ ih
 dsimp only at hok1 hn2 hle hm hr ih ⊢
 cases m with
 | zero => omega
 | succ m =>
 rw [stmtsL] at hr
 by_cases he : s1.e = 0
 case neg =>
  have e1 := decide_eq_false he
  rw [if_neg (fun h => he h.1)] at hr
  dsimp only at hr
  rw [List.append_nil] at hr
  obtain ⟨rfl, rfl⟩ := Prod.mk.inj hr
  refine ARun.goK (k := [_, _, _]) 80 ?_
  simp only [W, seval, c85, hn, hi, bxR, e1]
  refine hend () hok1 _ _ ?_ rfl
  refine Agree.env _ ?_
  simp only [agw, seval, hn]
 have e1 := decide_eq_true he
 refine ARun.goK (k := [_, _, _]) 80 ?_
 simp only [W, seval, c85, hn, hi, bxR, e1]
 refine PR.call0 (see_pr L s1 [125]) hc hok1 fun _ => ?_
 cases q1 : isP s1 [125]
 case' true =>
  rw [if_neg (fun h => by rw [q1] at h; exact absurd h.2.1 (by decide))] at hr
  dsimp only at hr
  rw [List.append_nil] at hr
  obtain ⟨rfl, rfl⟩ := Prod.mk.inj hr
  refine ARun.goK 80 ?_
  simp only [W, seval, c85, hn, hi]
  refine hend () hok1 _ _ ?_ rfl
  refine Agree.env _ ?_
  simp only [agw, seval, hn]
 case' false =>
  refine ARun.goK 80 ?_
  simp only [W, seval, c85, hn, hi]
  refine PR.call0 (see_pr L s1 [99, 97, 115, 101]) hc hok1 fun _ => ?_
  cases q2 : isP s1 [99, 97, 115, 101]
  case' true =>
   rw [if_neg (fun h => by rw [q2] at h; exact absurd h.2.2.1 (by decide))] at hr
   dsimp only at hr
   rw [List.append_nil] at hr
   obtain ⟨rfl, rfl⟩ := Prod.mk.inj hr
   refine ARun.goK 80 ?_
   simp only [W, seval, c85, hn, hi]
   refine hend () hok1 _ _ ?_ rfl
   refine Agree.env _ ?_
   simp only [agw, seval, hn]
  case' false =>
   refine ARun.goK 80 ?_
   simp only [W, seval, c85, hn, hi]
   refine PR.call0 (see_pr L s1 [100, 101, 102, 97, 117, 108, 116]) hc hok1 fun _ => ?_
   cases q3 : isP s1 [100, 101, 102, 97, 117, 108, 116]
   case' true =>
    rw [if_neg (fun h => by rw [q3] at h; exact absurd h.2.2.2 (by decide))] at hr
    dsimp only at hr
    rw [List.append_nil] at hr
    obtain ⟨rfl, rfl⟩ := Prod.mk.inj hr
    refine ARun.goK 80 ?_
    simp only [W, seval, c85, hn, hi]
    refine hend () hok1 _ _ ?_ rfl
    refine Agree.env _ ?_
    simp only [agw, seval, hn]
   case' false =>
    rw [if_pos ⟨he, q1, q2, q3⟩] at hr
    have hmp : 0 < mu s1 := hok1.mu_pos he
    obtain ⟨⟨x, s2⟩, hx⟩ : ∃ r, S s1 = r := ⟨_, rfl⟩
    have hpx := hS.1 s1 hn2
    have hlx := hS.2 s1 hn2 hmp
    rw [hx] at hpx hr hlx
    dsimp only at hpx hr hlx
    refine ARun.goK 80 ?_
    simp only [W, seval, c85, hn, hi]
    refine PR.call0 hpx hc hok1 fun hok2 => ?_
    have hcap : (l.length + 1) * 200 ≤ 140737488355328 := by omega
    have hmap : l.map stD ++ [stD x] = (l ++ [x]).map stD := by simp
    have hlen : (l ++ [x]).length = l.length + 1 := by simp
    unfold stV
    refine ARun.goK 60 ?_
    simp only [W, seval, c85, hn, hi, ht, mapD_nil, mapD_cons, Nat.reduceMul, rows10, hcap, hmap, st1]
    refine ih (l ++ [x], s2) ⟨hok2, by dsimp only; omega, by dsimp only; omega, m, by dsimp only; omega, ?_⟩ (by dsimp only; omega) _ _ ?_ (by dsimp only; rw [hlen])
    ·dsimp only
     rw [← hr]
     simp
    ·skip
     refine Agree.env _ ?_
     simp only [agw, seval, hn]
theorem block_pr (L : List WordS) (hG : GoodL L) {S : SP} {n : Nat} (hS : SOr L S n) (M : Nat) (s : Ps) (hn1 : mu s < n) (hM : mu s < M) :
 PR L 58 [] s (.d (.sl ((blockP S M s).1.map stD))) (blockP S M s).2 := by
 intro c B T i hc hok
 obtain ⟨K, hK⟩ : ∃ K, blockP S M s = K := ⟨_, rfl⟩
 rw [hK]
 unfold blockP at hK
 have hd := (dn_want s [123]).le
 have hsp := stmts_pr L hG hS M (wantP s [123]) (by omega) (by omega)
 obtain ⟨⟨l, s1⟩, hL⟩ : ∃ r, stmtsL S M (wantP s [123]) = r := ⟨_, rfl⟩
 rw [hL] at hK hsp
 dsimp only at hK hsp
 subst hK
 refine b58.go 20 rfl fun hsm => ?_
 simp only [smw] at hsm
 simp only [W, seval, c58]
 first
  | refine PR.call0 (must_pr L hG s [123]) hc hok fun hok1 => ?_
  | refine PR.call (must_pr L hG s [123]) hc hok fun hok1 => ?_
 refine ARun.go 20 ?_
 simp only [W, seval, c58]
 refine PR.call0 hsp hc hok1 fun hok2 => ?_
 refine ARun.go 20 ?_
 simp only [W, seval, c58]
 first
  | refine PR.call0 (must_pr L hG s1 [125]) hc hok2 fun hok3 => ?_
  | refine PR.call (must_pr L hG s1 [125]) hc hok2 fun hok3 => ?_
 refine ARun.go 20 ?_
 simp only [W, seval, c58]
 refine ARun.ret Tryz.func58 rfl (PF.ret0 (fun _ _ => rfl) ?_)
 exact ⟨rfl, 0, hok3, rfl⟩
def c57 := by
 have c := KK_of Tryz.f57 (by conv => lhs; cbv)
 dsimp only [KK, KxP, doO, opO, List.map_cons, List.map_nil, List.toList_toArray] at c
 exact c
theorem b57 : FnIs Tryz.prog 57 Tryz.f57 42 := ⟨Tryz.func57, by kernel_rfl⟩
def c56 := by
 have c := KK_of Tryz.f56 (by conv => lhs; cbv)
 dsimp only [KK, KxP, doO, opO, List.map_cons, List.map_nil, List.toList_toArray] at c
 exact c
theorem b56 : FnIs Tryz.prog 56 Tryz.f56 10 := ⟨Tryz.func56, by kernel_rfl⟩
theorem nowW_mem {L : List WordS} {i : Nat} (h : i < L.length) : nowW L i ∈ L := by rw [nowW_get h]; exact List.getElem_mem h
theorem base_iff {L : List WordS} (hG : GoodL L) {s : Ps} (hok : OkR L s) : (0 < kindS s.w.text ∧ isP s s.w.text = true) ↔ (s.e = 0 ∧ 0 < kindW (nowW L (idxR L s))) := by
 constructor
 ·rintro ⟨h1, h2⟩
  obtain ⟨he, hk, _⟩ := is_live h2
  have hw := hok.w he
  refine ⟨he, ?_⟩
  have hk4 : (nowW L (idxR L s)).kind = 4 := by
   rw [hw] at hk h1
   rcases hk with h | h
   ·have := hG.sign _ (nowW_mem hok.lt) h
    omega
   ·exact h
  unfold kindW
  rw [if_pos hk4, ← hw]
  exact h1
 ·rintro ⟨he, h1⟩
  have hw := hok.w he
  unfold kindW at h1
  split at h1
  ·rename_i h4
   rw [hw]
   refine ⟨h1, ?_⟩
   unfold isP
   rw [hw]
   simp [he, h4]
  ·omega
set_option maxHeartbeats 2000000 in
theorem typ_pr (L : List WordS) (hG : GoodL L) (M : Nat) (s : Ps) (hM : mu s < M) : PR L 57 [] s (tyV (typP M s).1) (typP M s).2 := by
 intro c B T i hc hok
 obtain ⟨N, hn⟩ : ∃ N, B.length = N := ⟨_, rfl⟩
 have hi : c < N := by omega
 have hi1 : c < N + 1 := by omega
 have hmu := hok.mu_le hG
 obtain ⟨⟨n, s2⟩, hup⟩ : ∃ r, upP M s = r := ⟨_, rfl⟩
 unfold typP
 rw [hup]
 dsimp only
 refine b57.go 30 rfl fun hsm => ?_
 simp only [smw] at hsm
 simp only [W, seval, c57, hn, hi]
 refine ARun.loopW (fun a : Nat × Ps => (envS 42 [(0, .ptr c 0), (2, .ptr N 0), (3, .d (.int .i64 a.1))], ⟨B.set c (bxR L a.2) ++ [[.d (.int .i64 0), .d (.str []), .sl [] .full]], T⟩)) (fun a => OkR L a.2 ∧ a.1 + mu a.2 ≤ mu s ∧ ∃ m, mu a.2 < m ∧ (a.1 + (upP m a.2).1, (upP m a.2).2) = (n, s2)) (fun a => mu a.2) (0, s) ⟨hok, by dsimp only; omega, M, hM, by dsimp only; rw [hup, Nat.zero_add]⟩ ?_ rfl ?_
 ·skip
  refine Agree.env _ ?_
  simp only [agw, seval, hn]
 rintro ⟨k, s1⟩ ⟨hok1, hle, m, hm, hr⟩ ih
 dsimp only at hok1 hle hm hr ih ⊢
 cases m with
 | zero => omega
 | succ m =>
 rw [upP] at hr
 refine ARun.go 20 ?_
 simp only [W, seval, c57, hn, hi]
 obtain ⟨⟨b, s3⟩, hg_s3⟩ : ∃ r, gotP s1 [91] = r := ⟨_, rfl⟩
 have hp_s3 := take_pr L hG s1 [91]
 rw [hg_s3] at hp_s3
 dsimp only at hp_s3
 first
  | refine PR.call0 hp_s3 hc hok1 fun hok3 => ?_
  | refine PR.call hp_s3 hc hok1 fun hok3 => ?_
 rw [hg_s3] at hr
 cases b
 case' true =>
  dsimp only at hr
  have hlt := got_lt hg_s3
  have hdw := (dn_want s3 [93]).le
  obtain ⟨⟨n4, s4⟩, hu⟩ : ∃ r, upP m (wantP s3 [93]) = r := ⟨_, rfl⟩
  rw [hu] at hr
  dsimp only at hr
  have hw := wrap_in ((k : Int) + 1) (by omega)
  refine ARun.go 20 ?_
  simp only [W, seval, c57, hn, hi]
  first
   | refine PR.call0 (must_pr L hG s3 [93]) hc hok3 fun hok4 => ?_
   | refine PR.call (must_pr L hG s3 [93]) hc hok3 fun hok4 => ?_
  refine ARun.go 20 ?_
  simp only [W, seval, c57, hn, hi, hw]
  refine ih (k + 1, wantP s3 [93]) ⟨hok4, by dsimp only; omega, m, by dsimp only; omega, ?_⟩ (by dsimp only; omega) _ _ ?_ rfl
  ·dsimp only
   rw [hu, ← hr]
   simp only [Prod.mk.injEq, and_true]
   omega
  ·skip
   refine Agree.env _ ?_
   simp only [agw, seval, hn]
 case' false =>
  dsimp only at hr
  obtain ⟨rfl, rfl⟩ := Prod.mk.inj hr
  rw [Nat.add_zero] at hup ⊢
  clear ih hr hup
  refine ARun.go 60 ?_
  simp only [W, seval, c57, hn, hi]
  refine PR.now hc hok3 ?_
  refine ARun.go 6 ?_
  simp only [W, seval, c57, hn, hi]
  refine callS_fn (kind_ab (nowW L (idxR L s3)) _ _) ?_
  rintro _ _ ⟨rfl, rfl⟩
  refine ARun.go 3 ?_
  simp only [W, seval, c57, hn, hi]
  have hbk : (baseP s3).1.elem = [] := by
   unfold baseP
   split <;> rfl
  have hiff := base_iff hG hok3
  refine ARun.join (fun _ : Unit => (envS 42 [(0, .ptr c 0), (2, .ptr N 0), (3, .d (.int .i64 k)), (4, .ptr (N + 1) 0)], ⟨B.set c (bxR L (baseP s3).2) ++ [[.d (.int .i64 0), .d (.str []), .sl [] .full], [.d (.int .i64 (baseP s3).1.kind), .d (.str (baseP s3).1.name), .sl [] .full]], T⟩)) (fun _ => OkR L (baseP s3).2) ?_ ?_
  rotate_left
  ·intro K' hK
   refine ARun.goJ 200 ?_
   have hyes : 0 < kindS s3.w.text ∧ isP s3 s3.w.text = true → baseP s3 = (.mk (kindS s3.w.text) [] [], nextP s3) := fun h => if_pos h
   have hno : ¬ (0 < kindS s3.w.text ∧ isP s3 s3.w.text = true) → baseP s3 = (.mk 7 (nameP s3).1 [], (nameP s3).2) := fun h => if_neg h
   obtain ⟨⟨g, s4⟩, hg4⟩ : ∃ r, nameP s3 = r := ⟨_, rfl⟩
   have hp4 := name_pr L hG s3
   rw [hg4] at hp4
   cases h1 : decide (0 < kindW (nowW L (idxR L s3)))
   ·have hb := hno fun h => absurd (hiff.1 h).2 (of_decide_eq_false h1)
    rw [hg4] at hb
    simp only [W, seval, c57, hn, hi, h1]
    refine PR.call hp4 hc hok3 fun hok4 => ?_
    rw [hb] at hK ⊢
    refine ARun.goK 30 ?_
    simp only [W, seval, c57, hn, hi]
    refine hK () hok4 _ _ ?_ rfl
    refine Agree.env _ ?_
    simp only [agw, seval, hn]
   ·by_cases he : s3.e = 0
    ·have e1 := decide_eq_true he
     have hw3 := hok3.w he
     have hpos := of_decide_eq_true h1
     have hb := hyes (hiff.2 ⟨he, hpos⟩)
     have hkw : kindW (nowW L (idxR L s3)) = kindS s3.w.text := by
      rw [← hw3] at hpos ⊢
      unfold kindW at hpos ⊢
      split at hpos
      ·rename_i h4; rw [if_pos h4]
      ·omega
     have hkn : ¬ s3.w.kind = 0 := by
      rw [← hw3] at hpos
      unfold kindW at hpos
      split at hpos
      ·omega
      ·omega
     simp only [W, seval, c57, hn, hi, h1, bxR, e1]
     refine PR.call (step_pr L hG s3 fun _ => hkn) hc hok3 fun hok4 => ?_
     rw [hb] at hK ⊢
     rw [hkw]
     refine ARun.goK 30 ?_
     simp only [W, seval, c57, hn, hi]
     refine hK () hok4 _ _ ?_ rfl
     refine Agree.env _ ?_
     simp only [agw, seval, hn]
    ·have e1 := decide_eq_false he
     have hb := hno fun h => he (hiff.1 h).1
     rw [hg4] at hb
     simp only [W, seval, c57, hn, hi, h1, bxR, e1]
     refine PR.call hp4 hc hok3 fun hok4 => ?_
     rw [hb] at hK ⊢
     refine ARun.goK 30 ?_
     simp only [W, seval, c57, hn, hi]
     refine hK () hok4 _ _ ?_ rfl
     refine Agree.env _ ?_
     simp only [agw, seval, hn]
  ·rintro ⟨⟩ hok4
   generalize baseP s3 = r at hok4 hbk ⊢
   obtain ⟨t0, s4⟩ := r
   dsimp only at hok4 hbk ⊢
   refine ARun.go 20 ?_
   simp only [W, seval, c57, hn, hi]
   refine ARun.loopW (fun a : Nat × TyT => (envS 42 [(0, .ptr c 0), (2, .ptr N 0), (3, .d (.int .i64 k)), (4, .ptr (N + 1) 0), (6, .d (.int .i64 a.1))], ⟨B.set c (bxR L s4) ++ [[.d (.int .i64 0), .d (.str []), .sl [] .full], [.d (.int .i64 a.2.kind), .d (.str a.2.name), .sl (a.2.elem.map tyD) .full]], T⟩)) (fun a => a.1 ≤ k ∧ wrapT (k - a.1) a.2 = wrapT k t0) (fun a => k - a.1) (0, t0) ⟨Nat.zero_le _, rfl⟩ ?_ (by dsimp only; rw [hbk]; rfl) ?_
   ·skip
    refine Agree.env _ ?_
    simp only [agw, seval, hn]
   rintro ⟨j, t⟩ ⟨h1, h2⟩ ih
   dsimp only at h1 h2 ih ⊢
   by_cases hlt : j < k
   ·have hd : decide ((j : Int) < (k : Int)) = true := decide_eq_true (by omega)
    have hw := wrap_in ((j : Int) + 1) (by omega)
    have hks : k - j = (k - (j + 1)) + 1 := by omega
    rw [hks, wrapT] at h2
    refine ARun.go 60 ?_
    simp only [W, seval, c57, hn, hi, hd, hw, mapD_nil, mapD_cons, mapD_sl, Nat.reduceMul, ← tyD_eq]
    refine ih (j + 1, .mk 8 [] [t]) ⟨hlt, h2⟩ (by dsimp only; omega) _ _ ?_ rfl
    refine Agree.env _ ?_
    simp only [agw, seval, hn]
   ·have hd : decide ((j : Int) < (k : Int)) = false := decide_eq_false (by omega)
    have hks : k - j = 0 := by omega
    rw [hks, wrapT] at h2
    subst h2
    refine ARun.go 60 ?_
    simp only [W, seval, c57, hn, hi, hd]
    refine retc (v := ?_) Tryz.func57 (by rfl) ?_ ?_
    rotate_left
    ·simp only [W, seval, c57, hn, hi]
     exact rfl
    refine PF.retJ (fun _ _ => rfl) ?_
    refine ⟨?_, 0, hok4, rfl⟩
    rfl
def c28 := by
 have c := KK_of Tryz.f28 (by conv => lhs; cbv)
 dsimp only [KK, KxP, doO, opO, List.map_cons, List.map_nil, List.toList_toArray] at c
 exact c
theorem b28 : FnIs Tryz.prog 28 Tryz.f28 31 := ⟨Tryz.func28, by kernel_rfl⟩
def c29 := by
 have c := KK_of Tryz.f29 (by conv => lhs; cbv)
 dsimp only [KK, KxP, doO, opO, List.map_cons, List.map_nil, List.toList_toArray] at c
 exact c
theorem b29 : FnIs Tryz.prog 29 Tryz.f29 43 := ⟨Tryz.func29, by kernel_rfl⟩
set_option maxHeartbeats 4000000 in
theorem param_pr (L : List WordS) (hG : GoodL L) (M : Nat) (s : Ps) (hM : mu s < M) : PR L 56 [] s (paV (paramP M s).1) (paramP M s).2 := by
 intro c B T i hc hok
 obtain ⟨N, hn⟩ : ∃ N, B.length = N := ⟨_, rfl⟩
 have hi : c < N := by omega
 obtain ⟨K, hK⟩ : ∃ K, paramP M s = K := ⟨_, rfl⟩
 rw [hK]
 unfold paramP at hK
 refine b56.go 10 rfl fun hsm => ?_
 simp only [smw] at hsm
 simp only [W, seval, c56, hn, hi]
 obtain ⟨⟨tx, s1⟩, hg_s1⟩ : ∃ r, nameP s = r := ⟨_, rfl⟩
 have hp_s1 := name_pr L hG s
 rw [hg_s1] at hp_s1
 dsimp only at hp_s1
 first
  | refine PR.call0 hp_s1 hc hok fun hok1 => ?_
  | refine PR.call hp_s1 hc hok fun hok1 => ?_
 have hd1 := (dn_name hg_s1).le
 have htp := typ_pr L hG M s1 (by omega)
 obtain ⟨⟨y, s2⟩, hy⟩ : ∃ r, typP M s1 = r := ⟨_, rfl⟩
 rw [hg_s1] at hK
 dsimp only at hK
 rw [hy] at hK htp
 dsimp only at hK htp
 subst hK
 unfold tyV at htp
 refine ARun.go 20 ?_
 simp only [W, seval, c56, hn, hi]
 refine PR.call htp hc hok1 fun hok2 => ?_
 refine ARun.go 40 ?_
 simp only [W, seval, c56, hn, hi]
 refine retc (v := ?_) Tryz.func56 (by rfl) ?_ ?_
 rotate_left
 ·simp only [W, seval, c56, hn, hi]
  exact rfl
 refine PF.retJ (fun _ _ => rfl) ?_
 exact ⟨rfl, 0, hok2, rfl⟩
set_option maxHeartbeats 8000000 in
theorem struct_pr (L : List WordS) (hG : GoodL L) (m : Nat) (s : Ps) (hs : mu s < m) :
 PR L 28 [] s (suV (structP m s).1) (structP m s).2 := by
 intro c B T i hc hok
 obtain ⟨N, hn⟩ : ∃ N, B.length = N := ⟨_, rfl⟩
 obtain ⟨t, ht⟩ : ∃ t, T.length = t := ⟨_, rfl⟩
 have hi : c < N := by omega
 have hmu := hok.mu_le hG
 obtain ⟨K, hK⟩ : ∃ K, structP m s = K := ⟨_, rfl⟩
 rw [hK]
 unfold structP at hK
 refine b28.go 20 rfl fun hsm => ?_
 simp only [smw] at hsm
 simp only [W, seval, c28, hn, hi]
 obtain ⟨⟨tx, s1⟩, hg_s1⟩ : ∃ r, nameP s = r := ⟨_, rfl⟩
 have hp_s1 := name_pr L hG s
 rw [hg_s1] at hp_s1
 dsimp only at hp_s1
 first
  | refine PR.call0 hp_s1 hc hok fun hok1 => ?_
  | refine PR.call hp_s1 hc hok fun hok1 => ?_
 have hd1 := (dn_name hg_s1).le
 rw [hg_s1] at hK
 dsimp only at hK
 have hd2 := (dn_want s1 [115, 116, 114, 117, 99, 116]).le
 have hd3 := (dn_want (wantP s1 [115, 116, 114, 117, 99, 116]) [123]).le
 refine ARun.go 20 ?_
 simp only [W, seval, c28, hn, hi]
 first
  | refine PR.call0 (must_pr L hG s1 [115, 116, 114, 117, 99, 116]) hc hok1 fun hok2 => ?_
  | refine PR.call (must_pr L hG s1 [115, 116, 114, 117, 99, 116]) hc hok1 fun hok2 => ?_
 refine ARun.go 20 ?_
 simp only [W, seval, c28, hn, hi]
 first
  | refine PR.call0 (must_pr L hG (wantP s1 [115, 116, 114, 117, 99, 116]) [123]) hc hok2 fun hok3 => ?_
  | refine PR.call (must_pr L hG (wantP s1 [115, 116, 114, 117, 99, 116]) [123]) hc hok2 fun hok3 => ?_
 generalize wantP (wantP s1 [115, 116, 114, 117, 99, 116]) [123] = s4 at *
 obtain ⟨⟨l0, s0⟩, hL⟩ : ∃ r, fieldL m m s4 = r := ⟨_, rfl⟩
 rw [hL] at hK
 dsimp only at hK
 subst hK
 refine ARun.go 2 ?_
 simp only [W, seval, c28]
 refine ARun.tokenB (N + 1) 1 _ [] (by rw [bx_loc (by simpa using hn)]; rfl) (by rfl) 4 (by omega) rfl ?_
 rw [bx_set_loc (by simpa using hn)]
 change ARun _ _ _ _ _ _ ⟨B.set c (bxR L s4) ++ [[.d (.str []), .sl [] .full], suT tx [] T.length], T ++ [(0, 4)]⟩ _
 rw [ht]
 refine ARun.go 5 ?_
 simp only [W, seval, c28]
 refine ARun.after [_, _] _ (fun _ : Unit => (envS 31 [(0, .ptr c 0), (2, .ptr N 0), (3, .ptr (N + 1) 0)], ⟨B.set c (bxR L s0) ++ [[.d (.str []), .sl [] .full], suT tx l0 t], T ++ [(l0.length, 4)]⟩)) (fun _ => OkR L s0) ?_ ?_
 ·rintro ⟨⟩ hok0
  refine ARun.go 20 ?_
  simp only [W, seval, c28]
  first
   | refine PR.call0 (must_pr L hG s0 [125]) hc hok0 fun hok5 => ?_
   | refine PR.call (must_pr L hG s0 [125]) hc hok0 fun hok5 => ?_
  refine ARun.go 20 ?_
  simp only [W, seval, c28, hn, hi, suT]
  refine retc (v := ?_) Tryz.func28 (by rfl) ?_ ?_
  rotate_left
  ·simp only [W, seval, c28, hn, hi]
   exact rfl
  refine PF.ret (fun _ _ => rfl) ?_
  refine ⟨?_, 0, hok5, rfl⟩
  simp only [W, seval, c28, wk, wkL, suV, List.length_set, ht, Nat.lt_irrefl]
 intro K' hend
 refine ARun.loopW (fun a : List PaT × Ps => (envS 31 [(0, .ptr c 0), (2, .ptr N 0), (3, .ptr (N + 1) 0)], ⟨B.set c (bxR L a.2) ++ [[.d (.str []), .sl [] .full], suT tx a.1 t], T ++ [(a.1.length, 4)]⟩)) (fun a => OkR L a.2 ∧ a.1.length + mu a.2 ≤ mu s ∧ ∃ q, mu a.2 < q ∧ (a.1 ++ (fieldL m q a.2).1, (fieldL m q a.2).2) = (l0, s0)) (fun a => mu a.2) ([], s4) ⟨hok3, by simp; omega, m, by dsimp only; omega, by dsimp only; rw [hL, List.nil_append]⟩ ?_ rfl ?_
 ·skip
  refine Agree.env _ ?_
  simp only [agw, seval, hn]
 rintro ⟨l, s5⟩ ⟨hok5, hle, q, hq, hr⟩ ih
 dsimp only at hok5 hle hq hr ih ⊢
 cases q with
 | zero => omega
 | succ q =>
 rw [fieldL] at hr
 by_cases he : s5.e = 0
 case neg =>
  have e1 := decide_eq_false he
  rw [if_neg (fun h => he h.1)] at hr
  dsimp only at hr
  rw [List.append_nil] at hr
  obtain ⟨rfl, rfl⟩ := Prod.mk.inj hr
  refine ARun.goK (k := [_, _, _]) 80 ?_
  simp only [W, seval, c28, hn, hi, bxR, e1]
  refine hend () hok5 _ _ ?_ rfl
  refine Agree.env _ ?_
  simp only [agw, seval, hn]
 have e1 := decide_eq_true he
 refine ARun.goK (k := [_, _, _]) 80 ?_
 simp only [W, seval, c28, hn, hi, bxR, e1]
 refine PR.call (see_pr L s5 [125]) hc hok5 fun _ => ?_
 cases q1 : isP s5 [125]
 case' true =>
  rw [if_neg (fun h => by rw [q1] at h; exact absurd h.2 (by decide))] at hr
  dsimp only at hr
  rw [List.append_nil] at hr
  obtain ⟨rfl, rfl⟩ := Prod.mk.inj hr
  refine ARun.goK 80 ?_
  simp only [W, seval, c28, hn, hi]
  refine hend () hok5 _ _ ?_ rfl
  refine Agree.env _ ?_
  simp only [agw, seval, hn]
 case' false =>
  rw [if_pos ⟨he, q1⟩] at hr
  have hmp : 0 < mu s5 := hok5.mu_pos he
  obtain ⟨⟨x, s6⟩, hx⟩ : ∃ r, paramP m s5 = r := ⟨_, rfl⟩
  have hpx := param_pr L hG m s5 (by omega)
  have hlx := param_lt hx hmp
  rw [hx] at hpx hr
  dsimp only at hpx hr
  unfold paV at hpx
  have hcap : (l.length + 1) * 64 ≤ 140737488355328 := by omega
  have hmap : l.map paD ++ [paD x] = (l ++ [x]).map paD := by simp
  have hlen : (l ++ [x]).length = l.length + 1 := by simp
  refine ARun.goK 10 ?_
  simp only [W, seval, c28, hn, hi]
  refine PR.wit hpx hc hok5 (ha0 (by rfl)) fun hok6 => ?_
  refine ARun.drawE 6 [3, 5, 7] (fun S => S.boxes[N + 1]? = some (suT tx l t)) (by kernel_rfl) (by kernel_rfl) (by kernel_rfl) (by kernel_rfl) (by kernel_rfl) ?_
  simp only [W, seval, c28]
  refine lexC_q (v := ?_) (by rfl) (by kernel_rfl) (fun S hS => ?_) ?_
  rotate_left
  ·simp only [W, seval, c28]
   exact rfl
  simp only [W, seval, c28]
  refine lexC_q (v := ?_) (by rfl) (by kernel_rfl) (fun S hS => ?_) ?_
  rotate_left
  ·try dsimp only at hS
   simp only [W, seval, c28, hS, suT]
   exact rfl
  simp only [W, seval, c28]
  refine lexC_q (v := ?_) (by rfl) (by kernel_rfl) (fun S hS => ?_) ?_
  rotate_left
  ·simp only [W, seval, c28]
   exact rfl
  simp only [W, seval, c28]
  refine PR.lexc (hpx) hc hok5 hok6 ?_ (by rfl) (by kernel_rfl) ?_ ?_
  ·first | trivial | simp [bx_loc, bx_loc0, hn]
  ·simp only [W, seval, c28]
   exact ⟨_, _, rfl, rfl, by rfl, by simp only [W, seval, c28]⟩
  simp only [W, seval, c28]
  refine lexC_q (v := ?_) (by rfl) (by kernel_rfl) (fun S hS => ?_) ?_
  rotate_left
  ·simp only [W, seval, c28, mapD_nil, mapD_cons, Nat.reduceMul, rows4]
   exact rfl
  simp only [W, seval, c28]
  refine lexC_w (v := ?_) (S' := ?_) ?_ (by rfl) (by kernel_rfl) ?_ ?_
  rotate_left 2
  ·first | trivial | simp [bx_loc, bx_loc0, hn, ht, hcap, hmap, pa1, Nat.reduceMul]
  ·simp only [W, seval, c28, hn, ht, hcap, hmap, pa1, Nat.reduceMul]
   exact rfl
  simp only [W, seval, c28]
  refine lexC_end (by simp [bx_loc, hn]) ?_
  refine lexC_q (v := ?_) (by rfl) (by kernel_rfl) (fun S hS => ?_) ?_
  rotate_left
  ·simp only [W, seval, c28]
   exact rfl
  simp only [W, seval, c28]
  refine lexC_w (v := ?_) (S' := ?_) ?_ (by rfl) (by kernel_rfl) ?_ ?_
  rotate_left 2
  ·first | trivial | simp [bx_loc, bx_loc0, hn, suT]
  ·simp only [W, seval, c28, hn, suT]
   exact rfl
  simp only [W, seval, c28]
  refine lexC_end trivial ?_
  refine ARun.goK (k := [_, _, _]) 1 ?_
  simp only [W, seval, c28]
  refine ih (l ++ [x], s6) ⟨hok6, by dsimp only; omega, q, by dsimp only; omega, by rw [← hr]; simp⟩ (by dsimp only; omega) _ _ ?_ (by dsimp only; rw [hlen]; rfl)
  refine Agree.env _ ?_
  simp only [agw, seval, hn]
set_option maxHeartbeats 8000000 in
theorem func_pr (L : List WordS) (hG : GoodL L) {S : SP} {n : Nat} (hS : SOr L S n) (m : Nat) (hm : n ≤ m) (s : Ps) (hs : mu s < n) :
 PR L 29 [] s (fuV (funcP S m s).1) (funcP S m s).2 := by
 intro c B T i hc hok
 obtain ⟨N, hn⟩ : ∃ N, B.length = N := ⟨_, rfl⟩
 obtain ⟨t, ht⟩ : ∃ t, T.length = t := ⟨_, rfl⟩
 have hi : c < N := by omega
 have hmu := hok.mu_le hG
 obtain ⟨K, hK⟩ : ∃ K, funcP S m s = K := ⟨_, rfl⟩
 rw [hK]
 unfold funcP at hK
 refine b29.go 20 rfl fun hsm => ?_
 simp only [smw] at hsm
 simp only [W, seval, c29, hn, hi]
 obtain ⟨⟨tx, s1⟩, hg_s1⟩ : ∃ r, nameP s = r := ⟨_, rfl⟩
 have hp_s1 := name_pr L hG s
 rw [hg_s1] at hp_s1
 dsimp only at hp_s1
 first
  | refine PR.call0 hp_s1 hc hok fun hok1 => ?_
  | refine PR.call hp_s1 hc hok fun hok1 => ?_
 have hd1 := (dn_name hg_s1).le
 rw [hg_s1] at hK
 dsimp only at hK
 have hd2 := (dn_want s1 [40]).le
 refine ARun.go 20 ?_
 simp only [W, seval, c29, hn, hi]
 first
  | refine PR.call0 (must_pr L hG s1 [40]) hc hok1 fun hok2 => ?_
  | refine PR.call (must_pr L hG s1 [40]) hc hok1 fun hok2 => ?_
 generalize wantP s1 [40] = s2 at *
 obtain ⟨⟨l0, s3⟩, hL⟩ : ∃ r, (if isP s2 [41] = true then (([], s2) : List PaT × Ps) else paramL m m s2) = r := ⟨_, rfl⟩
 rw [hL] at hK
 dsimp only at hK
 refine ARun.go 2 ?_
 simp only [W, seval, c29]
 refine ARun.tokenB (N + 1) 1 _ [] (by rw [bx_loc (by simpa using hn)]; rfl) (by rfl) 4 (by omega) rfl ?_
 rw [bx_set_loc (by simpa using hn)]
 change ARun _ _ _ _ _ _ ⟨B.set c (bxR L s2) ++ [[.d (.str []), .sl [] .full, .sl [] .full, .sl [] .full], fuP tx [] T.length], T ++ [(0, 4)]⟩ _
 rw [ht]
 refine ARun.go 10 ?_
 simp only [W, seval, c29]
 refine PR.call (see_pr L s2 [41]) hc hok2 fun _ => ?_
 refine ARun.go 6 ?_
 simp only [W, seval, c29]
 refine ARun.after [_, _] _ (fun _ : Unit => (envS 43 [(0, .ptr c 0), (2, .ptr N 0), (3, .ptr (N + 1) 0)], ⟨B.set c (bxR L s3) ++ [[.d (.str []), .sl [] .full, .sl [] .full, .sl [] .full], fuP tx l0 t], T ++ [(l0.length, 4)]⟩)) (fun _ => OkR L s3 ∧ mu s3 ≤ mu s2) ?_ ?_
 case refine_2 =>
  intro K' hend
  refine ARun.loopW (fun a : List PaT × Bool × Ps => (envS 43 [(0, .ptr c 0), (2, .ptr N 0), (3, .ptr (N + 1) 0), (4, .d (.bool a.2.1))], ⟨B.set c (bxR L a.2.2) ++ [[.d (.str []), .sl [] .full, .sl [] .full, .sl [] .full], fuP tx a.1 t], T ++ [(a.1.length, 4)]⟩)) (fun a => OkR L a.2.2 ∧ mu a.2.2 ≤ mu s2 ∧ (a.2.1 = true → a.1.length + mu a.2.2 ≤ mu s ∧ ∃ k, mu a.2.2 < k ∧ (a.1 ++ (paramL m k a.2.2).1, (paramL m k a.2.2).2) = (l0, s3)) ∧ (a.2.1 = false → (a.1, a.2.2) = (l0, s3))) (fun a => if a.2.1 = true then mu a.2.2 + 1 else 0) ([], !isP s2 [41], s2) ⟨hok2, Nat.le_refl _, fun h => ⟨by simp; omega, m, by dsimp only; omega, ?_⟩, fun h => ?_⟩ ?_ rfl ?_
  ·dsimp only at h ⊢
   rw [if_neg (by simpa using h)] at hL
   rw [hL, List.nil_append]
  ·dsimp only at h ⊢
   rw [if_pos (by simpa using h)] at hL
   exact hL
  ·skip
   refine Agree.env _ ?_
   simp only [agw, seval, hn]
  rintro ⟨l, b, s4⟩ ⟨hok4, hn2, hy, hno⟩ ih
  dsimp only at hok4 hn2 hy hno ih ⊢
  cases b
  case' false =>
   obtain ⟨rfl, rfl⟩ := Prod.mk.inj (hno rfl)
   refine ARun.goK (k := [_, _, _]) 20 ?_
   simp only [W, seval, c29, hn, hi]
   refine hend () ⟨hok4, hn2⟩ _ _ ?_ rfl
   refine Agree.env _ ?_
   simp only [agw, seval, hn]
  case' true =>
   obtain ⟨hle, k, hk, hr⟩ := hy rfl
   cases k with
   | zero => omega
   | succ k =>
   rw [paramL] at hr
   obtain ⟨⟨x, s5⟩, hx⟩ : ∃ r, paramP m s4 = r := ⟨_, rfl⟩
   have hpx := param_pr L hG m s4 (by omega)
   have hd5 := (dn_param hx).le
   rw [hx] at hpx hr
   dsimp only at hpx hr
   unfold paV at hpx
   have hcap : (l.length + 1) * 64 ≤ 140737488355328 := by omega
   have hmap : l.map paD ++ [paD x] = (l ++ [x]).map paD := by simp
   have hlen : (l ++ [x]).length = l.length + 1 := by simp
   refine ARun.goK (k := [_, _, _]) 11 ?_
   simp only [W, seval, c29, hn, hi]
   refine PR.wit hpx hc hok4 (ha0 (by rfl)) fun hok5 => ?_
   refine ARun.drawE 6 [3, 5, 7] (fun S => S.boxes[N + 1]? = some (fuP tx l t)) (by kernel_rfl) (by kernel_rfl) (by kernel_rfl) (by kernel_rfl) (by kernel_rfl) ?_
   simp only [W, seval, c29]
   refine lexC_q (v := ?_) (by rfl) (by kernel_rfl) (fun S hS => ?_) ?_
   rotate_left
   ·simp only [W, seval, c29]
    exact rfl
   simp only [W, seval, c29]
   refine lexC_q (v := ?_) (by rfl) (by kernel_rfl) (fun S hS => ?_) ?_
   rotate_left
   ·try dsimp only at hS
    simp only [W, seval, c29, hS, fuP]
    exact rfl
   simp only [W, seval, c29]
   refine lexC_q (v := ?_) (by rfl) (by kernel_rfl) (fun S hS => ?_) ?_
   rotate_left
   ·simp only [W, seval, c29]
    exact rfl
   simp only [W, seval, c29]
   refine PR.lexc (hpx) hc hok4 hok5 ?_ (by rfl) (by kernel_rfl) ?_ ?_
   ·first | trivial | simp [bx_loc, bx_loc0, hn]
   ·simp only [W, seval, c29]
    exact ⟨_, _, rfl, rfl, by rfl, by simp only [W, seval, c29]⟩
   simp only [W, seval, c29]
   refine lexC_q (v := ?_) (by rfl) (by kernel_rfl) (fun S hS => ?_) ?_
   rotate_left
   ·simp only [W, seval, c29, mapD_nil, mapD_cons, Nat.reduceMul, rows4]
    exact rfl
   simp only [W, seval, c29]
   refine lexC_w (v := ?_) (S' := ?_) ?_ (by rfl) (by kernel_rfl) ?_ ?_
   rotate_left 2
   ·first | trivial | simp [bx_loc, bx_loc0, hn, ht, hcap, hmap, pa1, Nat.reduceMul]
   ·simp only [W, seval, c29, hn, ht, hcap, hmap, pa1, Nat.reduceMul]
    exact rfl
   simp only [W, seval, c29]
   refine lexC_end (by simp [bx_loc, hn]) ?_
   refine lexC_q (v := ?_) (by rfl) (by kernel_rfl) (fun S hS => ?_) ?_
   rotate_left
   ·simp only [W, seval, c29]
    exact rfl
   simp only [W, seval, c29]
   refine lexC_w (v := ?_) (S' := ?_) ?_ (by rfl) (by kernel_rfl) ?_ ?_
   rotate_left 2
   ·first | trivial | simp [bx_loc, bx_loc0, hn, fuP]
   ·simp only [W, seval, c29, hn, fuP]
    exact rfl
   simp only [W, seval, c29]
   refine lexC_end trivial ?_
   refine ARun.goK (k := [_, _, _, _]) 20 ?_
   simp only [W, seval, c29]
   obtain ⟨⟨b, s6⟩, hg_s6⟩ : ∃ r, gotP s5 [44] = r := ⟨_, rfl⟩
   have hp_s6 := take_pr L hG s5 [44]
   rw [hg_s6] at hp_s6
   dsimp only at hp_s6
   first
    | refine PR.call0 hp_s6 hc hok5 fun hok6 => ?_
    | refine PR.call hp_s6 hc hok5 fun hok6 => ?_
   rw [hg_s6] at hr
   have hd6 := (dn_got hg_s6).le
   cases b
   case' false =>
    dsimp only at hr
    obtain ⟨hr1, hr2⟩ := Prod.mk.inj hr
    refine ARun.goK 20 ?_
    simp only [W, seval, c29, hn, hi]
    refine ih (l ++ [x], false, s6) ⟨hok6, by dsimp only; omega, fun h => absurd h (by simp), fun _ => by rw [hr1, hr2]⟩ (by simp) _ _ ?_ (by dsimp only; rw [hlen]; rfl)
    refine Agree.env _ ?_
    simp only [agw, seval, hn]
   case' true =>
    have hlt := got_lt hg_s6
    dsimp only at hr
    refine ARun.goK 20 ?_
    simp only [W, seval, c29, hn, hi]
    refine ih (l ++ [x], true, s6) ⟨hok6, by dsimp only; omega, fun _ => ⟨by dsimp only; omega, k, by dsimp only; omega, by rw [← hr]; simp⟩, fun h => absurd h (by simp)⟩ (by simp; omega) _ _ ?_ (by dsimp only; rw [hlen]; rfl)
    refine Agree.env _ ?_
    simp only [agw, seval, hn]
 rintro ⟨⟩ ⟨hok3, hd3⟩
 have hd4 := (dn_want s3 [41]).le
 have hd5 := (dn_want (wantP s3 [41]) [40]).le
 refine ARun.go 20 ?_
 simp only [W, seval, c29, hn, hi]
 first
  | refine PR.call0 (must_pr L hG s3 [41]) hc hok3 fun hok4 => ?_
  | refine PR.call (must_pr L hG s3 [41]) hc hok3 fun hok4 => ?_
 refine ARun.go 20 ?_
 simp only [W, seval, c29, hn, hi]
 first
  | refine PR.call0 (must_pr L hG (wantP s3 [41]) [40]) hc hok4 fun hok5 => ?_
  | refine PR.call (must_pr L hG (wantP s3 [41]) [40]) hc hok4 fun hok5 => ?_
 generalize wantP (wantP s3 [41]) [40] = s4 at *
 obtain ⟨⟨r0, s5⟩, hR⟩ : ∃ r, typeL m m s4 = r := ⟨_, rfl⟩
 rw [hR] at hK
 dsimp only at hK
 refine ARun.go 2 ?_
 simp only [W, seval, c29]
 refine ARun.tokenB (N + 1) 2 _ [] (by rw [bx_loc (by simpa using hn)]; rfl) (by rfl) 3 (by omega) rfl ?_
 rw [bx_set_loc (by simpa using hn), List.append_assoc, List.length_append, ht]
 change ARun _ _ _ _ _ _ ⟨B.set c (bxR L s4) ++ [[.d (.str []), .sl [] .full, .sl [] .full, .sl [] .full], fuR tx l0 [] t], T ++ [(l0.length, 4), (0, 3)]⟩ _
 refine ARun.go 10 ?_
 simp only [W, seval, c29]
 refine ARun.after [_, _] _ (fun _ : Unit => (envS 43 [(0, .ptr c 0), (2, .ptr N 0), (3, .ptr (N + 1) 0)], ⟨B.set c (bxR L s5) ++ [[.d (.str []), .sl [] .full, .sl [] .full, .sl [] .full], fuR tx l0 r0 t], T ++ [(l0.length, 4), (r0.length, 3)]⟩)) (fun _ => OkR L s5 ∧ mu s5 ≤ mu s4) ?_ ?_
 case refine_2 =>
  intro K' hend
  refine ARun.loopW (fun a : List TyT × Bool × Ps => (envS 43 [(0, .ptr c 0), (2, .ptr N 0), (3, .ptr (N + 1) 0), (4, .d (.bool a.2.1))], ⟨B.set c (bxR L a.2.2) ++ [[.d (.str []), .sl [] .full, .sl [] .full, .sl [] .full], fuR tx l0 a.1 t], T ++ [(l0.length, 4), (a.1.length, 3)]⟩)) (fun a => OkR L a.2.2 ∧ mu a.2.2 ≤ mu s4 ∧ (a.2.1 = true → a.1.length + mu a.2.2 ≤ mu s ∧ ∃ k, mu a.2.2 < k ∧ (a.1 ++ (typeL m k a.2.2).1, (typeL m k a.2.2).2) = (r0, s5)) ∧ (a.2.1 = false → (a.1, a.2.2) = (r0, s5))) (fun a => if a.2.1 = true then mu a.2.2 + 1 else 0) ([], true, s4) ⟨hok5, Nat.le_refl _, fun _ => ⟨by simp; omega, m, by dsimp only; omega, by dsimp only; rw [hR, List.nil_append]⟩, fun h => absurd h (by simp)⟩ ?_ rfl ?_
  ·skip
   refine Agree.env _ ?_
   simp only [agw, seval, hn]
  rintro ⟨l, b, s6⟩ ⟨hok6, hn2, hy, hno⟩ ih
  dsimp only at hok6 hn2 hy hno ih ⊢
  cases b
  case' false =>
   obtain ⟨rfl, rfl⟩ := Prod.mk.inj (hno rfl)
   refine ARun.goK (k := [_, _, _]) 20 ?_
   simp only [W, seval, c29, hn, hi]
   refine hend () ⟨hok6, hn2⟩ _ _ ?_ rfl
   refine Agree.env _ ?_
   simp only [agw, seval, hn]
  case' true =>
   obtain ⟨hle, k, hk, hr⟩ := hy rfl
   cases k with
   | zero => omega
   | succ k =>
   rw [typeL] at hr
   obtain ⟨⟨x, s7⟩, hx⟩ : ∃ r, typP m s6 = r := ⟨_, rfl⟩
   have hpx := typ_pr L hG m s6 (by omega)
   have hd7 := (dn_typ hx).le
   rw [hx] at hpx hr
   dsimp only at hpx hr
   unfold tyV at hpx
   have hcap : (l.length + 1) * 48 ≤ 140737488355328 := by omega
   have hmap : l.map tyD ++ [tyD x] = (l ++ [x]).map tyD := by simp
   have hlen : (l ++ [x]).length = l.length + 1 := by simp
   refine ARun.goK (k := [_, _, _]) 11 ?_
   simp only [W, seval, c29, hn, hi]
   refine PR.wit hpx hc hok6 (ha0 (by rfl)) fun hok7 => ?_
   refine ARun.drawE 6 [3, 5, 7] (fun S => S.boxes[N + 1]? = some (fuR tx l0 l t)) (by kernel_rfl) (by kernel_rfl) (by kernel_rfl) (by kernel_rfl) (by kernel_rfl) ?_
   simp only [W, seval, c29]
   refine lexC_q (v := ?_) (by rfl) (by kernel_rfl) (fun S hS => ?_) ?_
   rotate_left
   ·simp only [W, seval, c29]
    exact rfl
   simp only [W, seval, c29]
   refine lexC_q (v := ?_) (by rfl) (by kernel_rfl) (fun S hS => ?_) ?_
   rotate_left
   ·try dsimp only at hS
    simp only [W, seval, c29, hS, fuR]
    exact rfl
   simp only [W, seval, c29]
   refine lexC_q (v := ?_) (by rfl) (by kernel_rfl) (fun S hS => ?_) ?_
   rotate_left
   ·simp only [W, seval, c29]
    exact rfl
   simp only [W, seval, c29]
   refine PR.lexc (hpx) hc hok6 hok7 ?_ (by rfl) (by kernel_rfl) ?_ ?_
   ·first | trivial | simp [bx_loc, bx_loc0, hn]
   ·simp only [W, seval, c29]
    exact ⟨_, _, rfl, rfl, by rfl, by simp only [W, seval, c29]⟩
   simp only [W, seval, c29]
   refine lexC_q (v := ?_) (by rfl) (by kernel_rfl) (fun S hS => ?_) ?_
   rotate_left
   ·simp only [W, seval, c29, mapD_nil, mapD_cons, Nat.reduceMul, rows3]
    exact rfl
   simp only [W, seval, c29]
   refine lexC_w (v := ?_) (S' := ?_) ?_ (by rfl) (by kernel_rfl) ?_ ?_
   rotate_left 2
   ·first | trivial | simp [bx_loc, bx_loc0, hn, ht, hcap, hmap, tyr1, Nat.reduceMul]
   ·simp only [W, seval, c29, hn, ht, hcap, hmap, tyr1, Nat.reduceMul]
    exact rfl
   simp only [W, seval, c29]
   refine lexC_end (by simp [bx_loc, hn]) ?_
   refine lexC_q (v := ?_) (by rfl) (by kernel_rfl) (fun S hS => ?_) ?_
   rotate_left
   ·simp only [W, seval, c29]
    exact rfl
   simp only [W, seval, c29]
   refine lexC_w (v := ?_) (S' := ?_) ?_ (by rfl) (by kernel_rfl) ?_ ?_
   rotate_left 2
   ·first | trivial | simp [bx_loc, bx_loc0, hn, fuR]
   ·simp only [W, seval, c29, hn, fuR]
    exact rfl
   simp only [W, seval, c29]
   refine lexC_end trivial ?_
   refine ARun.goK (k := [_, _, _, _]) 20 ?_
   simp only [W, seval, c29]
   obtain ⟨⟨b, s8⟩, hg_s8⟩ : ∃ r, gotP s7 [44] = r := ⟨_, rfl⟩
   have hp_s8 := take_pr L hG s7 [44]
   rw [hg_s8] at hp_s8
   dsimp only at hp_s8
   first
    | refine PR.call0 hp_s8 hc hok7 fun hok8 => ?_
    | refine PR.call hp_s8 hc hok7 fun hok8 => ?_
   rw [hg_s8] at hr
   have hd8 := (dn_got hg_s8).le
   cases b
   case' false =>
    dsimp only at hr
    obtain ⟨hr1, hr2⟩ := Prod.mk.inj hr
    refine ARun.goK 20 ?_
    simp only [W, seval, c29, hn, hi]
    refine ih (l ++ [x], false, s8) ⟨hok8, by dsimp only; omega, fun h => absurd h (by simp), fun _ => by rw [hr1, hr2]⟩ (by simp) _ _ ?_ (by dsimp only; rw [hlen]; rfl)
    refine Agree.env _ ?_
    simp only [agw, seval, hn]
   case' true =>
    have hlt := got_lt hg_s8
    dsimp only at hr
    refine ARun.goK 20 ?_
    simp only [W, seval, c29, hn, hi]
    refine ih (l ++ [x], true, s8) ⟨hok8, by dsimp only; omega, fun _ => ⟨by dsimp only; omega, k, by dsimp only; omega, by rw [← hr]; simp⟩, fun h => absurd h (by simp)⟩ (by simp; omega) _ _ ?_ (by dsimp only; rw [hlen]; rfl)
    refine Agree.env _ ?_
    simp only [agw, seval, hn]
 rintro ⟨⟩ ⟨hok6, hd6⟩
 have hd7 := (dn_want s5 [41]).le
 have hbp := block_pr L hG hS m (wantP s5 [41]) (by omega) (by omega)
 obtain ⟨⟨b, s7⟩, hb⟩ : ∃ r, blockP S m (wantP s5 [41]) = r := ⟨_, rfl⟩
 rw [hb] at hbp hK
 dsimp only at hbp hK
 subst hK
 refine ARun.go 20 ?_
 simp only [W, seval, c29, hn, hi]
 first
  | refine PR.call0 (must_pr L hG s5 [41]) hc hok6 fun hok7 => ?_
  | refine PR.call (must_pr L hG s5 [41]) hc hok6 fun hok7 => ?_
 refine ARun.go 20 ?_
 simp only [W, seval, c29, hn, hi]
 refine PR.call hbp hc hok7 fun hok8 => ?_
 refine ARun.go 40 ?_
 simp only [W, seval, c29, hn, hi, fuR]
 refine retc (v := ?_) Tryz.func29 (by rfl) ?_ ?_
 rotate_left
 ·simp only [W, seval, c29, hn, hi]
  exact rfl
 refine PF.ret (fun _ _ => rfl) ?_
 refine ⟨?_, 0, hok8, rfl⟩
 have ht2 : ¬ t + 1 < t := by omega
 simp only [W, seval, c29, wk, wkL, fuV, List.length_set, ht, Nat.lt_irrefl, ht2]
def c153 := by
 have c := KK_of Tryz.f153 (by conv => lhs; cbv)
 dsimp only [KK, KxP, doO, opO, List.map_cons, List.map_nil, List.toList_toArray] at c
 exact c
theorem b153 : FnIs Tryz.prog 153 Tryz.f153 71 := ⟨Tryz.func153, by kernel_rfl⟩
set_option maxHeartbeats 8000000 in
theorem oper_pr (L : List WordS) (hG : GoodL L) {P E : EP} {n : Nat} (hP : ∀ s, mu s ≤ n → PR L 157 [] s (exV (P s).1) (P s).2) (hdP : DnE P) (hE : EOr L E n) (hdE : DnE E) (m : Nat) (hnm : n < m) (s : Ps) (hs : mu s ≤ n) :
 PR L 153 [] s (exV (operQ P E m s).1) (operQ P E m s).2 := by
 intro c B T i hc hok
 obtain ⟨N, hn⟩ : ∃ N, B.length = N := ⟨_, rfl⟩
 obtain ⟨t, ht⟩ : ∃ t, T.length = t := ⟨_, rfl⟩
 have hi : c < N := by omega
 have hi2 : c < N + 2 := by omega
 have hN1 : N < N + 2 := by omega
 have hN2 : N + 1 < N + 2 := by omega
 have ht1 : t < t + 1 := by omega
 have hmu := hok.mu_le hG
 obtain ⟨⟨l0, s0⟩, hL⟩ : ∃ r, sgnL m s = r := ⟨_, rfl⟩
 obtain ⟨⟨x0, s2⟩, hX⟩ : ∃ r, P s0 = r := ⟨_, rfl⟩
 obtain ⟨⟨y0, s3⟩, hY⟩ : ∃ r, pstL E m x0 s2 = r := ⟨_, rfl⟩
 have hres : operQ P E m s = (signT l0 y0, s3) := by unfold operQ; rw [hL]; dsimp only; rw [hX]; dsimp only; rw [hY]
 rw [hres]
 dsimp only
 have hd1 := (dn_sgn m hL).le
 have hpx := hP s0 (by omega)
 have hd2 := (hdP.at hX).le
 rw [hX] at hpx
 dsimp only at hpx
 refine b153.go 0 rfl fun hsm => ?_
 simp only [smw] at hsm
 simp only [W, seval, c153, hn, hi]
 refine ARun.fits fun hf => ?_
 refine ARun.go 14 ?_
 simp only [W, seval, c153, hn, hi]
 refine ARun.token 3 [] (by rfl) 1 (by omega) rfl ?_
 simp only [envS_put, ht]
 refine ARun.after [_, _] _ (fun _ : Unit => (envS 71 [(0, .ptr c 0), (2, .ptr N 0), (3, .sl (sgD l0) (.own t))], ⟨B.set c (bxR L s0) ++ [[.d (.int .i64 0), .d (.str []), .d (.int .u64 0), .d (.int .i64 0), .d (.str []), .sl [] .full, .sl [] .full, .sl [] .full]], T ++ [(l0.length, 1)]⟩)) (fun _ => OkR L s0 ∧ l0.length ≤ mu s) ?_ ?_
 case refine_2 =>
  intro K' hend
  refine ARun.loopW (fun a : List Int × Ps => (envS 71 [(0, .ptr c 0), (2, .ptr N 0), (3, .sl (sgD a.1) (.own t))], ⟨B.set c (bxR L a.2) ++ [[.d (.int .i64 0), .d (.str []), .d (.int .u64 0), .d (.int .i64 0), .d (.str []), .sl [] .full, .sl [] .full, .sl [] .full]], T ++ [(a.1.length, 1)]⟩)) (fun a => OkR L a.2 ∧ a.1.length + mu a.2 ≤ mu s ∧ ∃ m', mu a.2 < m' ∧ (a.1 ++ (sgnL m' a.2).1, (sgnL m' a.2).2) = (l0, s0)) (fun a => mu a.2) ([], s) ⟨hok, by simp, m, by dsimp only; omega, by dsimp only; rw [hL, List.nil_append]⟩ ?_ rfl ?_
  ·skip
   refine Agree.env _ ?_
   simp only [agw, seval, hn]
   trivial
  rintro ⟨l, s1⟩ ⟨hok1, hle, m', hm, hr⟩ ih
  dsimp only at hok1 hle hm hr ih ⊢
  cases m' with
  | zero => omega
  | succ m' =>
  rw [sgnL] at hr
  have hstep : ∀ k : Int, mu (nextP s1) < mu s1 → (l ++ (k :: (sgnL m' (nextP s1)).1), (sgnL m' (nextP s1)).2) = (l0, s0) → OkR L (nextP s1) → OkR L (nextP s1) ∧ (l ++ [k]).length + mu (nextP s1) ≤ mu s ∧ ∃ m', mu (nextP s1) < m' ∧ ((l ++ [k]) ++ (sgnL m' (nextP s1)).1, (sgnL m' (nextP s1)).2) = (l0, s0) := fun k h1 h2 h3 => ⟨h3, by simp; omega, m', by omega, by rw [← h2]; simp⟩
  have hlen : ∀ k : Int, (l ++ [k]).length = l.length + 1 := fun k => by simp
  have hcap : (l.length + 1) * 8 ≤ 140737488355328 := by omega
  refine ARun.goK (k := [_, _, _]) 20 ?_
  simp only [W, seval, c153, hn, hi]
  refine PR.call (see_pr L s1 [33]) hc hok1 fun _ => ?_
  cases h1 : isP s1 [33]
  case' true =>
   have hlv := is_live h1
   have hnx := next_lt s1 hlv.1 (by omega)
   rw [if_pos h1] at hr
   refine ARun.goK 60 ?_
   simp only [W, seval, c153, hn, hi]
   refine PR.call (see_pr L s1 [33]) hc hok1 fun _ => ?_
   rw [h1]
   refine ARun.goK 60 ?_
   simp only [W, seval, c153, hn, hi, ht, sgD_len, sgD_app, sg1, hcap, mapD_nil, mapD_cons, Nat.reduceMul]
   refine PR.call (step_pr L hG s1 fun _ => by omega) hc hok1 fun hok3 => ?_
   refine ARun.goK 20 ?_
   simp only [W, seval, c153, hn, hi]
   refine ih (l ++ [4], nextP s1) (hstep 4 hnx hr hok3) (by dsimp only; omega) _ _ ?_ (by dsimp only; rw [hlen])
   refine Agree.env _ ?_
   simp only [agw, seval, hn]
  case' false =>
   rw [if_neg (by rw [h1]; simp)] at hr
   refine ARun.goK 60 ?_
   simp only [W, seval, c153, hn, hi]
   refine PR.call (see_pr L s1 [45]) hc hok1 fun _ => ?_
   cases h2 : isP s1 [45]
   case' true =>
    have hlv := is_live h2
    have hnx := next_lt s1 hlv.1 (by omega)
    rw [if_pos h2] at hr
    refine ARun.goK 60 ?_
    simp only [W, seval, c153, hn, hi]
    refine PR.call (see_pr L s1 [33]) hc hok1 fun _ => ?_
    rw [h1]
    refine ARun.goK 60 ?_
    simp only [W, seval, c153, hn, hi, ht, sgD_len, sgD_app, sg1, hcap, mapD_nil, mapD_cons, Nat.reduceMul]
    refine PR.call (step_pr L hG s1 fun _ => by omega) hc hok1 fun hok3 => ?_
    refine ARun.goK 20 ?_
    simp only [W, seval, c153, hn, hi]
    refine ih (l ++ [5], nextP s1) (hstep 5 hnx hr hok3) (by dsimp only; omega) _ _ ?_ (by dsimp only; rw [hlen])
    refine Agree.env _ ?_
    simp only [agw, seval, hn]
   case' false =>
    rw [if_neg (by rw [h2]; simp)] at hr
    dsimp only at hr
    rw [List.append_nil] at hr
    obtain ⟨rfl, rfl⟩ := Prod.mk.inj hr
    refine ARun.goK 60 ?_
    simp only [W, seval, c153, hn, hi]
    refine hend () ⟨hok1, by omega⟩ _ _ ?_ rfl
    refine Agree.env _ ?_
    simp only [agw, seval, hn]
 rintro ⟨⟩ ⟨hok0, hl0⟩
 refine ARun.go 6 ?_
 simp only [W, seval, c153, hn, hi]
 refine PR.call hpx hc hok0 fun hok2 => ?_
 unfold exV
 refine ARun.go 9 ?_
 simp only [W, seval, c153, hn, hi]
 refine ARun.after [_, _] _ (fun _ : Unit => (envS 71 [(0, .ptr c 0), (2, .ptr N 0), (3, .sl (sgD l0) (.own t)), (4, .ptr (N + 1) 0)], ⟨B.set c (bxR L s3) ++ [[.d (.int .i64 0), .d (.str []), .d (.int .u64 0), .d (.int .i64 0), .d (.str []), .sl [] .full, .sl [] .full, .sl [] .full], exL y0], T ++ [(l0.length, 1)]⟩)) (fun _ => OkR L s3) ?_ ?_
 case refine_2 =>
  intro K' hend
  refine ARun.loopA (fun a : ExT × Ps => (envS 71 [(0, .ptr c 0), (2, .ptr N 0), (3, .sl (sgD l0) (.own t)), (4, .ptr (N + 1) 0)], ⟨B.set c (bxR L a.2) ++ [[.d (.int .i64 0), .d (.str []), .d (.int .u64 0), .d (.int .i64 0), .d (.str []), .sl [] .full, .sl [] .full, .sl [] .full], exL a.1], T ++ [(l0.length, 1)]⟩)) (fun a => OkR L a.2 ∧ mu a.2 ≤ n ∧ ∃ m', mu a.2 < m' ∧ pstL E m' a.1 a.2 = (y0, s3)) (fun a => mu a.2) (x0, s2) ⟨hok2, by dsimp only; omega, m, by dsimp only; omega, hY⟩ ?_ rfl ?_
  ·skip
   refine Agree.env _ ?_
   simp only [agw, seval, hn]
  rintro ⟨x, s1⟩ ⟨hok1, hn2, m', hm, hr⟩ ih0
  dsimp only at hok1 hn2 hm hr ih0 ⊢
  have ih : ∀ b : ExT × Ps, OkR L b.2 ∧ mu b.2 ≤ n ∧ (∃ m', mu b.2 < m' ∧ pstL E m' b.1 b.2 = (y0, s3)) → mu b.2 < mu s1 → ∀ (K : List (Nat × Nat)) (u : List (Nat × V)), AgreeF (N + 2) (t + 1) u [(0, .ptr c 0), (2, .ptr N 0), (3, .sl (sgD l0) (.own t)), (4, .ptr (N + 1) 0)] → ARun Tryz.prog TabI (N, t) 153 ([.inLoop (kF Tryz.f153 26), .inBlock 2] ++ K') (envS 71 u) ⟨B.set c (bxR L b.2) ++ [[.d (.int .i64 0), .d (.str []), .d (.int .u64 0), .d (.int .i64 0), .d (.str []), .sl [] .full, .sl [] .full, .sl [] .full], exL b.1], T ++ ([(l0.length, 1)] ++ K)⟩ _ := fun b h1 h2 K u hu => by
   have := ih0 b h1 h2 (envS 71 u) _ [] _ K rfl ⟨by simp; omega, by simp; omega⟩ (fits_pf hf (fun _ _ => rfl) (by
    intro vs hvs
    simp only [List.mem_cons, List.not_mem_nil, or_false] at hvs
    rcases hvs with rfl | rfl <;> exact fun _ _ => rfl)) (by
    refine AgreeF.env _ ?_
    simpa [hn, ht] using hu)
   rw [List.append_nil, List.append_assoc] at this
   exact this
  clear ih0
  cases m' with
  | zero => omega
  | succ m' =>
  rw [pstL] at hr
  by_cases he : s1.e = 0
  case neg =>
   rw [if_pos he] at hr
   obtain ⟨rfl, rfl⟩ := Prod.mk.inj hr
   have e1 := decide_eq_false he
   have hs1 : isP s1 [46] = false := by unfold isP; rw [e1]; rfl
   have hs2 : isP s1 [91] = false := by unfold isP; rw [e1]; rfl
   refine ARun.goK (k := [_, _, _]) 20 ?_
   simp only [W, seval, c153, hn, hi]
   refine PR.call (see_pr L s1 [46]) hc hok1 fun _ => ?_
   rw [hs1]
   refine ARun.goK 20 ?_
   simp only [W, seval, c153, hn, hi]
   refine PR.call (see_pr L s1 [91]) hc hok1 fun _ => ?_
   rw [hs2]
   refine ARun.goK 60 ?_
   simp only [W, seval, c153, hn, hi]
   refine hend () hok1 _ _ ?_ rfl
   refine Agree.env _ ?_
   simp only [agw, seval, hn]
  case pos =>
   rw [if_neg (by simpa using he)] at hr
   refine ARun.goK (k := [_, _, _]) 20 ?_
   simp only [W, seval, c153, hn, hi]
   refine PR.call (see_pr L s1 [46]) hc hok1 fun _ => ?_
   obtain ⟨b, hb⟩ : ∃ b, isP s1 [46] = b := ⟨_, rfl⟩
   rw [hb]
   cases b
   case' true =>
    refine ARun.goK 20 ?_
    simp only [W, seval, c153, hn, hi]
    obtain ⟨⟨b, s4⟩, hg_s4⟩ : ∃ r, gotP s1 [46] = r := ⟨_, rfl⟩
    have hp_s4 := take_pr L hG s1 [46]
    rw [hg_s4] at hp_s4
    dsimp only at hp_s4
    first
     | refine PR.call0 hp_s4 hc hok1 fun hok4 => ?_
     | refine PR.call hp_s4 hc hok1 fun hok4 => ?_
    have hb4 : b = true := by
     unfold gotP at hg_s4
     rw [if_pos hb] at hg_s4
     exact (Prod.mk.inj hg_s4).1.symm
    subst hb4
    rw [hg_s4] at hr
    have hlt := got_lt hg_s4
    dsimp only at hr
    obtain ⟨⟨tx, s5⟩, hnm5⟩ : ∃ r, nameP s4 = r := ⟨_, rfl⟩
    have hpn := name_pr L hG s4
    have hdn := (dn_name hnm5).le
    rw [hnm5] at hpn hr
    dsimp only at hpn hr
    refine ARun.goK 5 ?_
    simp only [W, seval, c153, hn, hi]
    refine PR.wit hpn hc hok4 (ha0 (by rfl)) fun hok5 => ?_
    refine ARun.drawE 5 [1, 5] (fun S => S.boxes[N + 1]? = some (exL x)) (by kernel_rfl) (by kernel_rfl) (by kernel_rfl) (by kernel_rfl) (by kernel_rfl) ?_
    simp only [W, seval, c153]
    refine lexC_q (v := ?_) (by rfl) (by kernel_rfl) (fun S hS => ?_) ?_
    rotate_left
    ·simp only [W, seval, c153]
     exact rfl
    simp only [W, seval, c153]
    refine PR.lexc (hpn) hc hok4 hok5 ?_ (by rfl) (by kernel_rfl) ?_ ?_
    ·first | trivial | simp [bx_loc, bx_loc0, hn]
    ·simp only [W, seval, c153]
     exact ⟨_, _, rfl, rfl, by rfl, by simp only [W, seval, c153]⟩
    simp only [W, seval, c153]
    refine lexC_q (v := ?_) (by rfl) (by kernel_rfl) (fun S hS => ?_) ?_
    rotate_left
    ·try dsimp only at hS
     simp only [W, seval, c153, hS, exL]
     exact rfl
    simp only [W, seval, c153]
    refine lexC_q (v := ?_) (by rfl) (by kernel_rfl) (fun S hS => ?_) ?_
    rotate_left
    ·simp only [W, seval, c153, mapD_nil, mapD_cons, Nat.reduceMul, rows8]
     exact rfl
    simp only [W, seval, c153]
    refine lexC_q (v := ?_) (by rfl) (by kernel_rfl) (fun S hS => ?_) ?_
    rotate_left
    ·simp only [W, seval, c153]
     exact rfl
    simp only [W, seval, c153]
    refine lexC_end (by simp [bx_loc, hn]) ?_
    refine lexC_w (v := ?_) (S' := ?_) ?_ (by rfl) (by kernel_rfl) ?_ ?_
    rotate_left 2
    ·first | trivial | simp [bx_loc, bx_loc0, hn, exL]
    ·simp only [W, seval, c153, hn, exL]
     exact rfl
    simp only [W, seval, c153]
    refine lexC_end trivial ?_
    refine ARun.plainJ 1 _ (exL (.mk 9 tx 0 noT [] [x])) (by rfl) (.same (.same (.same (.same (.same (.sl (.sl (.sl .nil)))))))) ?_
    refine ARun.goK (k := [_, _, _]) 10 ?_
    simp only [W, seval, c153]
    refine ih (.mk 9 tx 0 noT [] [x], s5) ⟨hok5, by dsimp only; omega, m', by dsimp only; omega, hr⟩ (by dsimp only; omega) [] _ ?_
    simp only [agf, seval, hi2, hN1, hN2, ht1]
   case' false =>
    have hg4 : gotP s1 [46] = (false, s1) := by
     unfold gotP
     rw [if_neg (by rw [hb]; simp)]
    rw [hg4] at hr
    dsimp only at hr
    refine ARun.goK 20 ?_
    simp only [W, seval, c153, hn, hi]
    refine PR.call (see_pr L s1 [91]) hc hok1 fun _ => ?_
    obtain ⟨b, hb2⟩ : ∃ b, isP s1 [91] = b := ⟨_, rfl⟩
    rw [hb2]
    obtain ⟨⟨b5, s5⟩, hg5⟩ : ∃ r, gotP s1 [91] = r := ⟨_, rfl⟩
    rw [hg5] at hr
    have hb5 : b5 = b := by
     have h := hg5
     unfold gotP at h
     rw [hb2] at h
     cases b
     ·exact (Prod.mk.inj h).1.symm
     ·exact (Prod.mk.inj h).1.symm
    subst hb5
    cases b5
    case' false =>
     dsimp only at hr
     obtain ⟨rfl, rfl⟩ := Prod.mk.inj hr
     refine ARun.goK 60 ?_
     simp only [W, seval, c153, hn, hi]
     refine hend () hok1 _ _ ?_ rfl
     refine Agree.env _ ?_
     simp only [agw, seval, hn]
    case' true =>
     have hp4 := take_pr L hG s1 [46]
     rw [hg4] at hp4
     refine ARun.goK 20 ?_
     simp only [W, seval, c153, hn, hi]
     refine PR.call hp4 hc hok1 fun _ => ?_
     refine ARun.goK 20 ?_
     simp only [W, seval, c153, hn, hi]
     have hw5 : wantP s1 [91] = s5 := by unfold wantP; rw [hg5]
     have hp5 := must_pr L hG s1 [91]
     rw [hw5] at hp5
     refine PR.call hp5 hc hok1 fun hok5 => ?_
     have hlt := got_lt hg5
     dsimp only at hr
     obtain ⟨⟨y, s6⟩, hy⟩ : ∃ r, E s5 = r := ⟨_, rfl⟩
     have hpy := hE s5 (by omega)
     have hdy := (hdE.at hy).le
     rw [hy] at hpy hr
     dsimp only at hpy hr
     unfold exV at hpy
     refine ARun.goK 6 ?_
     simp only [W, seval, c153, hn, hi]
     refine PR.wit hpy hc hok5 (ha0 (by rfl)) fun hok6 => ?_
     refine ARun.drawE 5 [2, 5] (fun S => S.boxes[N + 1]? = some (exL x)) (by kernel_rfl) (by kernel_rfl) (by kernel_rfl) (by kernel_rfl) (by kernel_rfl) ?_
     simp only [W, seval, c153]
     refine lexC_q (v := ?_) (by rfl) (by kernel_rfl) (fun S hS => ?_) ?_
     rotate_left
     ·try dsimp only at hS
      simp only [W, seval, c153, hS, exL]
      exact rfl
     simp only [W, seval, c153]
     refine lexC_q (v := ?_) (by rfl) (by kernel_rfl) (fun S hS => ?_) ?_
     rotate_left
     ·simp only [W, seval, c153]
      exact rfl
     simp only [W, seval, c153]
     refine PR.lexc (hpy) hc hok5 hok6 ?_ (by rfl) (by kernel_rfl) ?_ ?_
     ·first | trivial | simp [bx_loc, bx_loc0, hn]
     ·simp only [W, seval, c153]
      exact ⟨_, _, rfl, rfl, by rfl, by simp only [W, seval, c153]⟩
     simp only [W, seval, c153]
     refine lexC_q (v := ?_) (by rfl) (by kernel_rfl) (fun S hS => ?_) ?_
     rotate_left
     ·simp only [W, seval, c153, mapD_nil, mapD_cons, Nat.reduceMul, rows8]
      exact rfl
     simp only [W, seval, c153]
     refine lexC_q (v := ?_) (by rfl) (by kernel_rfl) (fun S hS => ?_) ?_
     rotate_left
     ·simp only [W, seval, c153]
      exact rfl
     simp only [W, seval, c153]
     refine lexC_end (by simp [bx_loc, hn]) ?_
     refine lexC_w (v := ?_) (S' := ?_) ?_ (by rfl) (by kernel_rfl) ?_ ?_
     rotate_left 2
     ·first | trivial | simp [bx_loc, bx_loc0, hn, exL]
     ·simp only [W, seval, c153, hn, exL]
      exact rfl
     simp only [W, seval, c153]
     refine lexC_end trivial ?_
     refine ARun.goK (k := [_, _, _, _]) 10 ?_
     simp only [W, seval, c153]
     obtain ⟨⟨b, s7⟩, hg_s7⟩ : ∃ r, gotP s6 [58] = r := ⟨_, rfl⟩
     have hp_s7 := take_pr L hG s6 [58]
     rw [hg_s7] at hp_s7
     dsimp only at hp_s7
     first
      | refine PR.call0 hp_s7 hc hok6 fun hok7 => ?_
      | refine PR.call hp_s7 hc hok6 fun hok7 => ?_
     have hd7 := (dn_got hg_s7).le
     rw [hg_s7] at hr
     cases b
     case' false =>
      dsimp only at hr
      have hd8 := (dn_want s7 [93]).le
      refine ARun.goK 20 ?_
      simp only [W, seval, c153, hn, hi]
      first
       | refine PR.call0 (must_pr L hG s7 [93]) hc hok7 fun hok8 => ?_
       | refine PR.call (must_pr L hG s7 [93]) hc hok7 fun hok8 => ?_
      refine ARun.plainJ 1 _ (exL (.mk 10 [] 0 noT [] [x, y])) (by rfl) (.same (.same (.same (.same (.same (.sl (.sl (.sl .nil)))))))) ?_
      refine ARun.goK 20 ?_
      simp only [W, seval, c153, hn, hi]
      refine ih (.mk 10 [] 0 noT [] [x, y], wantP s7 [93]) ⟨hok8, by dsimp only; omega, m', by dsimp only; omega, hr⟩ (by dsimp only; omega) [] _ ?_
      simp only [agf, seval, hi2, hN1, hN2, ht1]
     case' true =>
      dsimp only at hr
      obtain ⟨⟨u, s8⟩, hu⟩ : ∃ r, E s7 = r := ⟨_, rfl⟩
      have hpu := hE s7 (by omega)
      have hdu := (hdE.at hu).le
      rw [hu] at hpu hr
      dsimp only at hpu hr
      unfold exV at hpu
      have hrows : rowsSz 8 [exD x, exD y] = true := rowsSz_ex [x, y]
      have hr1 : rowsSz 8 [exD u] = true := ex1 u
      have hd9 := (dn_want s8 [93]).le
      refine ARun.goK 7 ?_
      simp only [W, seval, c153, hn, hi]
      refine PR.wit hpu hc hok7 (ha0 (by rfl)) fun hok8 => ?_
      refine ARun.drawE 6 [3, 5, 7] (fun S => S.boxes[N + 1]? = some [.d (.int .i64 11), .d (.str []), .d (.int .u64 0), .d (.int .i64 0), .d (.str []), .sl [] .full, .sl [] .full, .sl [exD x, exD y] .full]) (by kernel_rfl) (by kernel_rfl) (by kernel_rfl) (by kernel_rfl) (by kernel_rfl) ?_
      simp only [W, seval, c153]
      refine lexC_q (v := ?_) (by rfl) (by kernel_rfl) (fun S hS => ?_) ?_
      rotate_left
      ·simp only [W, seval, c153]
       exact rfl
      simp only [W, seval, c153]
      refine lexC_q (v := ?_) (by rfl) (by kernel_rfl) (fun S hS => ?_) ?_
      rotate_left
      ·try dsimp only at hS
       simp only [W, seval, c153, hS]
       exact rfl
      simp only [W, seval, c153]
      refine lexC_q (v := ?_) (by rfl) (by kernel_rfl) (fun S hS => ?_) ?_
      rotate_left
      ·simp only [W, seval, c153]
       exact rfl
      simp only [W, seval, c153]
      refine PR.lexc (hpu) hc hok7 hok8 ?_ (by rfl) (by kernel_rfl) ?_ ?_
      ·first | trivial | simp [bx_loc, bx_loc0, hn]
      ·simp only [W, seval, c153]
       exact ⟨_, _, rfl, rfl, by rfl, by simp only [W, seval, c153]⟩
      simp only [W, seval, c153]
      refine lexC_q (v := ?_) (by rfl) (by kernel_rfl) (fun S hS => ?_) ?_
      rotate_left
      ·simp only [W, seval, c153, mapD_nil, mapD_cons, Nat.reduceMul, rows8]
       exact rfl
      simp only [W, seval, c153]
      refine lexC_w (v := ?_) (S' := ?_) ?_ (by rfl) (by kernel_rfl) ?_ ?_
      rotate_left 2
      ·first | trivial | simp [bx_loc, bx_loc0, hn, ht, hrows, hr1, Nat.reduceMul]
      ·simp only [W, seval, c153, hn, ht, hrows, hr1, Nat.reduceMul]
       exact rfl
      simp only [W, seval, c153]
      refine lexC_end (by simp [bx_loc, hn]) ?_
      refine lexC_q (v := ?_) (by rfl) (by kernel_rfl) (fun S hS => ?_) ?_
      rotate_left
      ·simp only [W, seval, c153]
       exact rfl
      simp only [W, seval, c153]
      refine lexC_w (v := ?_) (S' := ?_) ?_ (by rfl) (by kernel_rfl) ?_ ?_
      rotate_left 2
      ·first | trivial | simp [bx_loc, bx_loc0, hn]
      ·simp only [W, seval, c153, hn]
       exact rfl
      simp only [W, seval, c153]
      refine lexC_end trivial ?_
      refine ARun.goK (k := [_, _, _, _]) 10 ?_
      simp only [W, seval, c153]
      first
       | refine PR.call0 (must_pr L hG s8 [93]) hc hok8 fun hok9 => ?_
       | refine PR.call (must_pr L hG s8 [93]) hc hok8 fun hok9 => ?_
      refine ARun.plainJ 1 _ (exL (.mk 11 [] 0 noT [] [x, y, u])) (by rfl) (.same (.same (.same (.same (.same (.sl (.sl (.sl .nil)))))))) ?_
      refine ARun.goK 20 ?_
      simp only [W, seval, c153, hn, hi]
      refine ih (.mk 11 [] 0 noT [] [x, y, u], wantP s8 [93]) ⟨hok9, by dsimp only; omega, m', by dsimp only; omega, hr⟩ (by dsimp only; omega) [(3, 8)] _ ?_
      simp only [agf, seval, hi2, hN1, hN2, ht1]
 rintro ⟨⟩ hok3
 have hwl := wrap_in ((l0.length : Int) - 1) (by omega)
 refine ARun.go 10 ?_
 simp only [W, seval, c153, hn, hi, sgD_len, hwl]
 refine ARun.loopW (fun a : Nat × ExT => (envS 71 [(0, .ptr c 0), (2, .ptr N 0), (3, .sl (sgD l0) (.own t)), (4, .ptr (N + 1) 0), (5, .d (.int .i64 ((a.1 : Int) - 1)))], ⟨B.set c (bxR L s3) ++ [[.d (.int .i64 0), .d (.str []), .d (.int .u64 0), .d (.int .i64 0), .d (.str []), .sl [] .full, .sl [] .full, .sl [] .full], exL a.2], T ++ [(l0.length, 1)]⟩)) (fun a => a.1 ≤ l0.length ∧ signT (l0.take a.1) a.2 = signT l0 y0) (fun a => a.1) (l0.length, y0) ⟨Nat.le_refl _, by dsimp only; rw [List.take_length]⟩ ?_ rfl ?_
 ·skip
  refine Agree.env _ ?_
  simp only [agw, seval, hn]
 rintro ⟨j, x⟩ ⟨hj, hsx⟩ ih
 dsimp only at hj hsx ih ⊢
 cases j with
 | zero =>
  rw [List.take_zero, signT] at hsx
  subst hsx
  have hz : ((0 : Nat) : Int) - 1 = -1 := rfl
  rw [hz]
  refine ARun.go 40 ?_
  simp only [W, seval, c153, hn, hi, exL]
  refine retc (v := ?_) Tryz.func153 (by rfl) ?_ ?_
  rotate_left
  ·simp only [W, seval, c153, hn, hi]
   exact rfl
  refine PF.ret (fun _ _ => rfl) ?_
  exact ⟨rfl, 0, hok3, rfl⟩
 | succ q =>
  have hq : ((q + 1 : Nat) : Int) - 1 = (q : Int) := by omega
  have hw := wrap_in ((q : Int) - 1) (by omega)
  obtain ⟨k, hk⟩ : ∃ k, l0[q]? = some k := ⟨_, List.getElem?_eq_getElem (by omega)⟩
  rw [hq]
  refine ARun.go 12 ?_
  simp only [W, seval, c153, hn, hi]
  refine ARun.drawE 7 [7] (fun S => S.boxes[N + 1]? = some (exL x)) (by kernel_rfl) (by kernel_rfl) (by kernel_rfl) (by kernel_rfl) (by kernel_rfl) ?_
  simp only [W, seval, c153]
  refine lexC_q (v := ?_) (by rfl) (by kernel_rfl) (fun S hS => ?_) ?_
  rotate_left
  ·simp only [W, seval, c153]
   exact rfl
  simp only [W, seval, c153]
  refine lexC_q (v := ?_) (by rfl) (by kernel_rfl) (fun S hS => ?_) ?_
  rotate_left
  ·simp only [W, seval, c153]
   exact rfl
  simp only [W, seval, c153]
  refine lexC_q (v := ?_) (by rfl) (by kernel_rfl) (fun S hS => ?_) ?_
  rotate_left
  ·simp only [W, seval, c153, sgD_get, hk]
   exact rfl
  simp only [W, seval, c153]
  refine lexC_q (v := ?_) (by rfl) (by kernel_rfl) (fun S hS => ?_) ?_
  rotate_left
  ·simp only [W, seval, c153]
   exact rfl
  simp only [W, seval, c153]
  refine lexC_q (v := ?_) (by rfl) (by kernel_rfl) (fun S hS => ?_) ?_
  rotate_left
  ·try dsimp only at hS
   simp only [W, seval, c153, hS, exL]
   exact rfl
  simp only [W, seval, c153]
  refine lexC_q (v := ?_) (by rfl) (by kernel_rfl) (fun S hS => ?_) ?_
  rotate_left
  ·simp only [W, seval, c153, mapD_nil, mapD_cons, Nat.reduceMul, rows8]
   exact rfl
  simp only [W, seval, c153]
  refine lexC_q (v := ?_) (by rfl) (by kernel_rfl) (fun S hS => ?_) ?_
  rotate_left
  ·simp only [W, seval, c153]
   exact rfl
  simp only [W, seval, c153]
  refine lexC_end (by simp [bx_loc, hn]) ?_
  refine lexC_w (v := ?_) (S' := ?_) ?_ (by rfl) (by kernel_rfl) ?_ ?_
  rotate_left 2
  ·first | trivial | simp [bx_loc, bx_loc0, hn, exL]
  ·simp only [W, seval, c153, hn, exL]
   exact rfl
  simp only [W, seval, c153]
  refine lexC_end trivial ?_
  refine ARun.plainJ 1 _ (exL (.mk k [] 0 noT [] [x])) (by rfl) (.same (.same (.same (.same (.same (.sl (.sl (.sl .nil)))))))) ?_
  refine ARun.go 20 ?_
  simp only [W, seval, c153, hn, hi, hw]
  refine ih (q, .mk k [] 0 noT [] [x]) ⟨by dsimp only; omega, ?_⟩ (by dsimp only; omega) _ _ ?_ rfl
  ·dsimp only
   rw [← hsx, List.take_add_one, hk]
   exact (sign_app (l0.take q) k x).symm
  ·skip
   refine Agree.env _ ?_
   simp only [agw, seval, hn]
def c157 := by
 have c := KK_of Tryz.f157 (by conv => lhs; cbv)
 dsimp only [KK, KxP, doO, opO, List.map_cons, List.map_nil, List.toList_toArray] at c
 exact c
theorem b157 : FnIs Tryz.prog 157 Tryz.f157 198 := ⟨Tryz.func157, by kernel_rfl⟩
theorem got_yes {s : Ps} {t : List UInt8} (h : isP s t = true) (h1 : opnB t = false) (h2 : clsB t = false) : gotP s t = (true, nextP s) := by
 unfold gotP bumpP
 rw [if_pos h, if_neg (by rw [h1]; simp), if_neg (by rw [h2]; simp)]
theorem got_fl {s : Ps} {t : List UInt8} (h : isP s t = false) : gotP s t = (false, s) := by
 unfold gotP
 rw [if_neg (by rw [h]; simp)]
set_option maxHeartbeats 8000000 in
theorem prim_A (L : List WordS) {E : EP} (m : Nat) (s : Ps) (he : ¬ s.e = 0) :
 PR L 157 [] s (exV (primP false E m s).1) (primP false E m s).2 := by
 intro c B T i hc hok
 obtain ⟨N, hn⟩ : ∃ N, B.length = N := ⟨_, rfl⟩
 have hi : c < N := by omega
 obtain ⟨K, hK⟩ : ∃ K, primP false E m s = K := ⟨_, rfl⟩
 rw [hK]
 unfold primP at hK
 have e1 := decide_eq_false he
 rw [if_pos he] at hK
 subst hK
 refine b157.go 10 rfl fun hsm => ?_
 simp only [smw] at hsm
 simp only [W, seval, c157, hn, hi]
 refine PR.now hc hok ?_
 refine ARun.go 40 ?_
 simp only [W, seval, c157, hn, hi, wdL, bxR, e1]
 refine retc (v := ?_) Tryz.func157 (by rfl) ?_ ?_
 rotate_left
 ·simp only [W, seval, c157, hn, hi]
  exact rfl
 refine PF.retJ (fun _ _ => rfl) ?_
 exact ⟨rfl, 0, hok, rfl⟩
set_option maxHeartbeats 8000000 in
theorem prim_B (L : List WordS) (hG : GoodL L) {E : EP} (m : Nat) (s : Ps) (he : s.e = 0) (h2 : s.w.kind = 2) :
 PR L 157 [] s (exV (primP false E m s).1) (primP false E m s).2 := by
 intro c B T i hc hok
 obtain ⟨N, hn⟩ : ∃ N, B.length = N := ⟨_, rfl⟩
 have hi : c < N := by omega
 obtain ⟨K, hK⟩ : ∃ K, primP false E m s = K := ⟨_, rfl⟩
 rw [hK]
 unfold primP at hK
 have e1 := decide_eq_true he
 have hw := hok.w he
 rw [if_neg (by simpa using he)] at hK
 have e2 : decide ((s.w.kind : Int) = 2) = true := decide_eq_true (by omega)
 rw [if_pos h2] at hK
 subst hK
 refine b157.go 10 rfl fun hsm => ?_
 simp only [smw] at hsm
 simp only [W, seval, c157, hn, hi]
 refine PR.now hc hok ?_
 rw [← hw]
 refine ARun.go 40 ?_
 simp only [W, seval, c157, hn, hi, wdL, bxR, e1, e2]
 refine PR.call (step_pr L hG s fun _ => by omega) hc hok fun hok1 => ?_
 refine ARun.go 40 ?_
 simp only [W, seval, c157, hn, hi]
 refine retc (v := ?_) Tryz.func157 (by rfl) ?_ ?_
 rotate_left
 ·simp only [W, seval, c157, hn, hi]
  exact rfl
 refine PF.retJ (fun _ _ => rfl) ?_
 exact ⟨rfl, 0, hok1, rfl⟩
set_option maxHeartbeats 8000000 in
theorem prim_C (L : List WordS) (hG : GoodL L) {E : EP} (m : Nat) (s : Ps) (q1 : isP s [116, 114, 117, 101] = true) :
 PR L 157 [] s (exV (primP false E m s).1) (primP false E m s).2 := by
 intro c B T i hc hok
 obtain ⟨N, hn⟩ : ∃ N, B.length = N := ⟨_, rfl⟩
 have hi : c < N := by omega
 obtain ⟨K, hK⟩ : ∃ K, primP false E m s = K := ⟨_, rfl⟩
 rw [hK]
 unfold primP at hK
 have hlv := is_live q1
 have h2 : ¬ s.w.kind = 2 := by have := hlv.2.1; omega
 have h3 : ¬ s.w.kind = 1 := by have := hlv.2.1; omega
 have he := hlv.1
 have e1 := decide_eq_true he
 have hw := hok.w he
 rw [if_neg (by simpa using he)] at hK
 have e2 : decide ((s.w.kind : Int) = 2) = false := decide_eq_false (by omega)
 rw [if_neg h2] at hK
 have hkb : keyB s = true := by simp [keyB, q1]
 rw [if_neg h3, hkb, if_pos rfl] at hK
 unfold keyedP at hK
 rw [if_pos hlv.2.2] at hK
 subst hK
 refine b157.go 10 rfl fun hsm => ?_
 simp only [smw] at hsm
 simp only [W, seval, c157, hn, hi]
 refine PR.now hc hok ?_
 rw [← hw]
 refine ARun.go 40 ?_
 simp only [W, seval, c157, hn, hi, wdL, bxR, e1, e2]
 have g1 := take_pr L hG s [116, 114, 117, 101]
 rw [got_yes q1 (by rfl) (by rfl)] at g1
 refine PR.call g1 hc hok fun hok1 => ?_
 refine ARun.go 40 ?_
 simp only [W, seval, c157, hn, hi]
 refine retc (v := ?_) Tryz.func157 (by rfl) ?_ ?_
 rotate_left
 ·simp only [W, seval, c157, hn, hi]
  exact rfl
 refine PF.retJ (fun _ _ => rfl) ?_
 exact ⟨rfl, 0, hok1, rfl⟩
set_option maxHeartbeats 8000000 in
theorem prim_D (L : List WordS) (hG : GoodL L) {E : EP} (m : Nat) (s : Ps) (q1 : isP s [116, 114, 117, 101] = false) (q2 : isP s [102, 97, 108, 115, 101] = true) :
 PR L 157 [] s (exV (primP false E m s).1) (primP false E m s).2 := by
 intro c B T i hc hok
 obtain ⟨N, hn⟩ : ∃ N, B.length = N := ⟨_, rfl⟩
 have hi : c < N := by omega
 obtain ⟨K, hK⟩ : ∃ K, primP false E m s = K := ⟨_, rfl⟩
 rw [hK]
 unfold primP at hK
 have hlv := is_live q2
 have h2 : ¬ s.w.kind = 2 := by have := hlv.2.1; omega
 have h3 : ¬ s.w.kind = 1 := by have := hlv.2.1; omega
 have he := hlv.1
 have e1 := decide_eq_true he
 have hw := hok.w he
 rw [if_neg (by simpa using he)] at hK
 have e2 : decide ((s.w.kind : Int) = 2) = false := decide_eq_false (by omega)
 rw [if_neg h2] at hK
 have hkb : keyB s = true := by simp [keyB, q2]
 rw [if_neg h3, hkb, if_pos rfl] at hK
 unfold keyedP at hK
 rw [if_neg (by rw [hlv.2.2]; decide), if_pos hlv.2.2] at hK
 subst hK
 refine b157.go 10 rfl fun hsm => ?_
 simp only [smw] at hsm
 simp only [W, seval, c157, hn, hi]
 refine PR.now hc hok ?_
 rw [← hw]
 refine ARun.go 40 ?_
 simp only [W, seval, c157, hn, hi, wdL, bxR, e1, e2]
 have g1 := take_pr L hG s [116, 114, 117, 101]
 rw [got_fl q1] at g1
 refine PR.call g1 hc hok fun _ => ?_
 refine ARun.go 20 ?_
 simp only [W, seval, c157, hn, hi]
 have g2 := take_pr L hG s [102, 97, 108, 115, 101]
 rw [got_yes q2 (by rfl) (by rfl)] at g2
 refine PR.call g2 hc hok fun hok1 => ?_
 refine ARun.go 40 ?_
 simp only [W, seval, c157, hn, hi]
 refine retc (v := ?_) Tryz.func157 (by rfl) ?_ ?_
 rotate_left
 ·simp only [W, seval, c157, hn, hi]
  exact rfl
 refine PF.retJ (fun _ _ => rfl) ?_
 exact ⟨rfl, 0, hok1, rfl⟩
set_option maxHeartbeats 8000000 in
theorem prim_E (L : List WordS) (hG : GoodL L) {E : EP} {n : Nat} (hE : EOr L E n) (m : Nat) (s : Ps) (hs : mu s ≤ n) (q1 : isP s [116, 114, 117, 101] = false) (q2 : isP s [102, 97, 108, 115, 101] = false) (q3 : isP s [40] = true) :
 PR L 157 [] s (exV (primP false E m s).1) (primP false E m s).2 := by
 intro c B T i hc hok
 obtain ⟨N, hn⟩ : ∃ N, B.length = N := ⟨_, rfl⟩
 have hi : c < N := by omega
 obtain ⟨K, hK⟩ : ∃ K, primP false E m s = K := ⟨_, rfl⟩
 rw [hK]
 unfold primP at hK
 have hlv := is_live q3
 have h2 : ¬ s.w.kind = 2 := by have := hlv.2.1; omega
 have h3 : ¬ s.w.kind = 1 := by have := hlv.2.1; omega
 have he := hlv.1
 have e1 := decide_eq_true he
 have hw := hok.w he
 rw [if_neg (by simpa using he)] at hK
 have e2 : decide ((s.w.kind : Int) = 2) = false := decide_eq_false (by omega)
 rw [if_neg h2] at hK
 have htx := hlv.2.2
 have h108 : isP s [108, 101, 110] = false := by unfold isP; rw [htx]; simp
 have h97 : isP s [97, 112, 112, 101, 110, 100] = false := by unfold isP; rw [htx]; simp
 have hks : kindS s.w.text = 0 := by rw [htx]; rfl
 have hkb : keyB s = false := by simp [keyB, q1, q2, h108, h97, hks]
 rw [if_neg h3, hkb, if_neg (by simp)] at hK
 obtain ⟨⟨b, s1⟩, hg⟩ : ∃ r, gotP s [40] = r := ⟨_, rfl⟩
 have hb : b = true := by
  have h := hg
  unfold gotP at h
  rw [if_pos q3] at h
  exact (Prod.mk.inj h).1.symm
 subst hb
 rw [hg] at hK
 have hlt := got_lt hg
 have g3 := take_pr L hG s [40]
 rw [hg] at g3
 dsimp only at hK
 obtain ⟨⟨x, s2⟩, hx⟩ : ∃ r, E s1 = r := ⟨_, rfl⟩
 have hpx := hE s1 (by omega)
 rw [hx] at hpx hK
 dsimp only at hpx hK
 subst hK
 unfold exV at hpx ⊢
 refine b157.go 10 rfl fun hsm => ?_
 simp only [smw] at hsm
 simp only [W, seval, c157, hn, hi]
 refine PR.now hc hok ?_
 rw [← hw]
 refine ARun.go 40 ?_
 simp only [W, seval, c157, hn, hi, wdL, bxR, e1, e2]
 have g1 := take_pr L hG s [116, 114, 117, 101]
 rw [got_fl q1] at g1
 refine PR.call g1 hc hok fun _ => ?_
 refine ARun.go 20 ?_
 simp only [W, seval, c157, hn, hi]
 have g2 := take_pr L hG s [102, 97, 108, 115, 101]
 rw [got_fl q2] at g2
 refine PR.call g2 hc hok fun _ => ?_
 refine ARun.go 20 ?_
 simp only [W, seval, c157, hn, hi]
 refine PR.call g3 hc hok fun hok1 => ?_
 refine ARun.go 20 ?_
 simp only [W, seval, c157, hn, hi]
 refine PR.call hpx hc hok1 fun hok2 => ?_
 refine ARun.go 20 ?_
 simp only [W, seval, c157, hn, hi]
 first
  | refine PR.call0 (must_pr L hG s2 [41]) hc hok2 fun hok3 => ?_
  | refine PR.call (must_pr L hG s2 [41]) hc hok2 fun hok3 => ?_
 refine ARun.go 60 ?_
 simp only [W, seval, c157, hn, hi]
 refine retc (v := ?_) Tryz.func157 (by rfl) ?_ ?_
 rotate_left
 ·simp only [W, seval, c157, hn, hi]
  exact rfl
 refine PF.retJ (fun _ _ => rfl) ?_
 exact ⟨rfl, 0, hok3, rfl⟩
theorem is_k1 {s : Ps} (h : s.w.kind = 1) (t : List UInt8) : isP s t = false := by
 unfold isP
 rw [h]
 simp
def exN (tx : List UInt8) (ts : List (List UInt8)) (xs : List ExT) (t : Nat) : List V := [.d (.int .i64 14), .d (.str []), .d (.int .u64 0), .d (.int .i64 7), .d (.str tx), .sl [] .full, .sl (ssD ts) (.own t), .sl (xs.map exD) (.own (t + 1))]
set_option maxHeartbeats 8000000 in
theorem prim_F (L : List WordS) (hG : GoodL L) {E : EP} {n : Nat} (hE : EOr L E n) (hd : DnE E) (m : Nat) (hnm : n < m) (s : Ps) (hs : mu s ≤ n) (he0 : s.e = 0) (h3 : s.w.kind = 1) (q4 : isP (nextP s) [40] = true) :
 PR L 157 [] s (exV (primP false E m s).1) (primP false E m s).2 := by
 intro c B T i hc hok
 obtain ⟨N, hn⟩ : ∃ N, B.length = N := ⟨_, rfl⟩
 have hi : c < N := by omega
 obtain ⟨K, hK⟩ : ∃ K, primP false E m s = K := ⟨_, rfl⟩
 rw [hK]
 unfold primP at hK
 have he := he0
 have e1 := decide_eq_true he
 have hw := hok.w he
 rw [if_neg (by simpa using he)] at hK
 have h2 : ¬ s.w.kind = 2 := by omega
 have e3 : decide ((s.w.kind : Int) = 1) = true := decide_eq_true (by omega)
 have e2 : decide ((s.w.kind : Int) = 2) = false := decide_eq_false (by omega)
 rw [if_neg h2] at hK
 have q1 := is_k1 h3 [116, 114, 117, 101]
 have q2 := is_k1 h3 [102, 97, 108, 115, 101]
 have q3 := is_k1 h3 [40]
 have hnx := next_lt s he (by omega)
 have hkn : s.e = 0 → ¬ s.w.kind = 0 := fun _ => by omega
 rw [if_pos h3] at hK
 unfold namedP at hK
 have hnm1 : nameP s = (s.w.text, nextP s) := if_pos ⟨he, h3⟩
 rw [hnm1] at hK
 dsimp only at hK
 refine b157.go 10 rfl fun hsm => ?_
 simp only [smw] at hsm
 simp only [W, seval, c157, hn, hi]
 refine PR.now hc hok ?_
 rw [← hw]
 refine ARun.go 40 ?_
 simp only [W, seval, c157, hn, hi, wdL, bxR, e1, e2]
 have g1 := take_pr L hG s [116, 114, 117, 101]
 rw [got_fl q1] at g1
 refine PR.call g1 hc hok fun _ => ?_
 refine ARun.go 20 ?_
 simp only [W, seval, c157, hn, hi]
 have g2 := take_pr L hG s [102, 97, 108, 115, 101]
 rw [got_fl q2] at g2
 refine PR.call g2 hc hok fun _ => ?_
 refine ARun.go 20 ?_
 simp only [W, seval, c157, hn, hi]
 have g3 := take_pr L hG s [40]
 rw [got_fl q3] at g3
 refine PR.call g3 hc hok fun _ => ?_
 refine ARun.go 20 ?_
 simp only [W, seval, c157, hn, hi, e3]
 refine PR.call (step_pr L hG s hkn) hc hok fun hok1 => ?_
 refine ARun.go 20 ?_
 simp only [W, seval, c157, hn, hi]
 generalize nextP s = s1 at *
 obtain ⟨⟨b, s2⟩, hg⟩ : ∃ r, gotP s1 [40] = r := ⟨_, rfl⟩
 have hb : b = true := by
  have h := hg
  unfold gotP at h
  rw [if_pos q4] at h
  exact (Prod.mk.inj h).1.symm
 subst hb
 rw [hg] at hK
 have hlt := got_lt hg
 have g4 := take_pr L hG s1 [40]
 rw [hg] at g4
 dsimp only [argsP] at hK
 refine PR.call g4 hc hok1 fun hok2 => ?_
 refine ARun.go 20 ?_
 simp only [W, seval, c157, hn, hi]
 refine PR.call (see_pr L s2 [41]) hc hok2 fun _ => ?_
 cases q5 : isP s2 [41]
 case' true =>
  rw [q5, if_pos rfl] at hK
  dsimp only at hK
  subst hK
  refine ARun.go 20 ?_
  simp only [W, seval, c157, hn, hi]
  first
   | refine PR.call0 (must_pr L hG s2 [41]) hc hok2 fun hok3 => ?_
   | refine PR.call (must_pr L hG s2 [41]) hc hok2 fun hok3 => ?_
  refine ARun.go 40 ?_
  simp only [W, seval, c157, hn, hi]
  refine retc (v := ?_) Tryz.func157 (by rfl) ?_ ?_
  rotate_left
  ·simp only [W, seval, c157, hn, hi]
   exact rfl
  refine PF.retJ (fun _ _ => rfl) ?_
  exact ⟨rfl, 0, hok3, rfl⟩
 case' false =>
  rw [q5, if_neg (by simp)] at hK
  have hvp := exprs_pr L hG hE hd m s2 (by omega) (by omega)
  obtain ⟨⟨l, s3⟩, hV⟩ : ∃ r, valsP E m s2 = r := ⟨_, rfl⟩
  rw [hV] at hK hvp
  dsimp only at hK hvp
  subst hK
  refine ARun.go 20 ?_
  simp only [W, seval, c157, hn, hi]
  refine PR.call hvp hc hok2 fun hok3 => ?_
  refine ARun.go 20 ?_
  simp only [W, seval, c157, hn, hi]
  first
   | refine PR.call0 (must_pr L hG s3 [41]) hc hok3 fun hok4 => ?_
   | refine PR.call (must_pr L hG s3 [41]) hc hok3 fun hok4 => ?_
  refine ARun.go 40 ?_
  simp only [W, seval, c157, hn, hi]
  refine retc (v := ?_) Tryz.func157 (by rfl) ?_ ?_
  rotate_left
  ·simp only [W, seval, c157, hn, hi]
   exact rfl
  refine PF.retJ (fun _ _ => rfl) ?_
  exact ⟨rfl, 0, hok4, rfl⟩
set_option maxHeartbeats 8000000 in
theorem prim_G (L : List WordS) (hG : GoodL L) {E : EP} (m : Nat) (s : Ps) (he0 : s.e = 0) (h3 : s.w.kind = 1) (q4 : isP (nextP s) [40] = false) (hh : (nextP s).h = true) :
 PR L 157 [] s (exV (primP false E m s).1) (primP false E m s).2 := by
 intro c B T i hc hok
 obtain ⟨N, hn⟩ : ∃ N, B.length = N := ⟨_, rfl⟩
 have hi : c < N := by omega
 obtain ⟨K, hK⟩ : ∃ K, primP false E m s = K := ⟨_, rfl⟩
 rw [hK]
 unfold primP at hK
 have he := he0
 have e1 := decide_eq_true he
 have hw := hok.w he
 rw [if_neg (by simpa using he)] at hK
 have h2 : ¬ s.w.kind = 2 := by omega
 have e3 : decide ((s.w.kind : Int) = 1) = true := decide_eq_true (by omega)
 have e2 : decide ((s.w.kind : Int) = 2) = false := decide_eq_false (by omega)
 rw [if_neg h2] at hK
 have q1 := is_k1 h3 [116, 114, 117, 101]
 have q2 := is_k1 h3 [102, 97, 108, 115, 101]
 have q3 := is_k1 h3 [40]
 have hnx := next_lt s he (by omega)
 have hkn : s.e = 0 → ¬ s.w.kind = 0 := fun _ => by omega
 rw [if_pos h3] at hK
 unfold namedP at hK
 have hnm1 : nameP s = (s.w.text, nextP s) := if_pos ⟨he, h3⟩
 rw [hnm1] at hK
 dsimp only at hK
 refine b157.go 10 rfl fun hsm => ?_
 simp only [smw] at hsm
 simp only [W, seval, c157, hn, hi]
 refine PR.now hc hok ?_
 rw [← hw]
 refine ARun.go 40 ?_
 simp only [W, seval, c157, hn, hi, wdL, bxR, e1, e2]
 have g1 := take_pr L hG s [116, 114, 117, 101]
 rw [got_fl q1] at g1
 refine PR.call g1 hc hok fun _ => ?_
 refine ARun.go 20 ?_
 simp only [W, seval, c157, hn, hi]
 have g2 := take_pr L hG s [102, 97, 108, 115, 101]
 rw [got_fl q2] at g2
 refine PR.call g2 hc hok fun _ => ?_
 refine ARun.go 20 ?_
 simp only [W, seval, c157, hn, hi]
 have g3 := take_pr L hG s [40]
 rw [got_fl q3] at g3
 refine PR.call g3 hc hok fun _ => ?_
 refine ARun.go 20 ?_
 simp only [W, seval, c157, hn, hi, e3]
 refine PR.call (step_pr L hG s hkn) hc hok fun hok1 => ?_
 refine ARun.go 20 ?_
 simp only [W, seval, c157, hn, hi]
 generalize nextP s = s1 at *
 have g4 := take_pr L hG s1 [40]
 rw [got_fl q4] at g4
 rw [got_fl q4] at hK
 dsimp only at hK
 refine PR.call g4 hc hok1 fun _ => ?_
 rw [hh, if_neg (by simp)] at hK
 subst hK
 refine ARun.go 60 ?_
 simp only [W, seval, c157, hn, hi, bxR, hh]
 refine retc (v := ?_) Tryz.func157 (by rfl) ?_ ?_
 rotate_left
 ·simp only [W, seval, c157, hn, hi]
  exact rfl
 refine PF.retJ (fun _ _ => rfl) ?_
 exact ⟨rfl, 0, hok1, by simp only [bxR, hh]⟩
set_option maxHeartbeats 8000000 in
theorem prim_G2 (L : List WordS) (hG : GoodL L) {E : EP} (m : Nat) (s : Ps) (he0 : s.e = 0) (h3 : s.w.kind = 1) (q4 : isP (nextP s) [40] = false) (hh : (nextP s).h = false) (q5 : isP (nextP s) [123] = false) :
 PR L 157 [] s (exV (primP false E m s).1) (primP false E m s).2 := by
 intro c B T i hc hok
 obtain ⟨N, hn⟩ : ∃ N, B.length = N := ⟨_, rfl⟩
 have hi : c < N := by omega
 obtain ⟨K, hK⟩ : ∃ K, primP false E m s = K := ⟨_, rfl⟩
 rw [hK]
 unfold primP at hK
 have he := he0
 have e1 := decide_eq_true he
 have hw := hok.w he
 rw [if_neg (by simpa using he)] at hK
 have h2 : ¬ s.w.kind = 2 := by omega
 have e3 : decide ((s.w.kind : Int) = 1) = true := decide_eq_true (by omega)
 have e2 : decide ((s.w.kind : Int) = 2) = false := decide_eq_false (by omega)
 rw [if_neg h2] at hK
 have q1 := is_k1 h3 [116, 114, 117, 101]
 have q2 := is_k1 h3 [102, 97, 108, 115, 101]
 have q3 := is_k1 h3 [40]
 have hnx := next_lt s he (by omega)
 have hkn : s.e = 0 → ¬ s.w.kind = 0 := fun _ => by omega
 rw [if_pos h3] at hK
 unfold namedP at hK
 have hnm1 : nameP s = (s.w.text, nextP s) := if_pos ⟨he, h3⟩
 rw [hnm1] at hK
 dsimp only at hK
 refine b157.go 10 rfl fun hsm => ?_
 simp only [smw] at hsm
 simp only [W, seval, c157, hn, hi]
 refine PR.now hc hok ?_
 rw [← hw]
 refine ARun.go 40 ?_
 simp only [W, seval, c157, hn, hi, wdL, bxR, e1, e2]
 have g1 := take_pr L hG s [116, 114, 117, 101]
 rw [got_fl q1] at g1
 refine PR.call g1 hc hok fun _ => ?_
 refine ARun.go 20 ?_
 simp only [W, seval, c157, hn, hi]
 have g2 := take_pr L hG s [102, 97, 108, 115, 101]
 rw [got_fl q2] at g2
 refine PR.call g2 hc hok fun _ => ?_
 refine ARun.go 20 ?_
 simp only [W, seval, c157, hn, hi]
 have g3 := take_pr L hG s [40]
 rw [got_fl q3] at g3
 refine PR.call g3 hc hok fun _ => ?_
 refine ARun.go 20 ?_
 simp only [W, seval, c157, hn, hi, e3]
 refine PR.call (step_pr L hG s hkn) hc hok fun hok1 => ?_
 refine ARun.go 20 ?_
 simp only [W, seval, c157, hn, hi]
 generalize nextP s = s1 at *
 have g4 := take_pr L hG s1 [40]
 rw [got_fl q4] at g4
 rw [got_fl q4] at hK
 dsimp only at hK
 refine PR.call g4 hc hok1 fun _ => ?_
 have hbx : [V.d (D.sl (List.map wdD L)), V.d (D.int IntKind.i64 ↑(idxR L s1)), V.d (D.int IntKind.i64 s1.e), V.d (D.int IntKind.i64 s1.o), V.d (D.bool false)] = bxR L s1 := by unfold bxR; rw [hh]
 rw [hh, if_pos rfl, got_fl q5] at hK
 dsimp only at hK
 subst hK
 refine ARun.go 60 ?_
 simp only [W, seval, c157, hn, hi, bxR, hh]
 rw [hbx]
 have g5 := take_pr L hG s1 [123]
 rw [got_fl q5] at g5
 refine PR.call g5 hc hok1 fun _ => ?_
 refine ARun.go 60 ?_
 simp only [W, seval, c157, hn, hi]
 refine retc (v := ?_) Tryz.func157 (by rfl) ?_ ?_
 rotate_left
 ·simp only [W, seval, c157, hn, hi]
  exact rfl
 refine PF.retJ (fun _ _ => rfl) ?_
 exact ⟨rfl, 0, hok1, rfl⟩
set_option maxHeartbeats 8000000 in
theorem prim_H (L : List WordS) (hG : GoodL L) {E : EP} {n : Nat} (hE : EOr L E n) (hd : DnE E) (m : Nat) (hnm : n < m) (s : Ps) (hs : mu s ≤ n) (he0 : s.e = 0) (h3 : s.w.kind = 1) (q4 : isP (nextP s) [40] = false) (hh : (nextP s).h = false) (q5 : isP (nextP s) [123] = true) :
 PR L 157 [] s (exV (primP false E m s).1) (primP false E m s).2 := by
 intro c B T i hc hok
 obtain ⟨N, hn⟩ : ∃ N, B.length = N := ⟨_, rfl⟩
 have hi : c < N := by omega
 obtain ⟨t, ht⟩ : ∃ t, T.length = t := ⟨_, rfl⟩
 have hmu := hok.mu_le hG
 obtain ⟨K, hK⟩ : ∃ K, primP false E m s = K := ⟨_, rfl⟩
 rw [hK]
 unfold primP at hK
 have he := he0
 have e1 := decide_eq_true he
 have hw := hok.w he
 rw [if_neg (by simpa using he)] at hK
 have h2 : ¬ s.w.kind = 2 := by omega
 have e3 : decide ((s.w.kind : Int) = 1) = true := decide_eq_true (by omega)
 have e2 : decide ((s.w.kind : Int) = 2) = false := decide_eq_false (by omega)
 rw [if_neg h2] at hK
 have q1 := is_k1 h3 [116, 114, 117, 101]
 have q2 := is_k1 h3 [102, 97, 108, 115, 101]
 have q3 := is_k1 h3 [40]
 have hnx := next_lt s he (by omega)
 have hkn : s.e = 0 → ¬ s.w.kind = 0 := fun _ => by omega
 rw [if_pos h3] at hK
 unfold namedP at hK
 have hnm1 : nameP s = (s.w.text, nextP s) := if_pos ⟨he, h3⟩
 rw [hnm1] at hK
 dsimp only at hK
 refine b157.go 10 rfl fun hsm => ?_
 simp only [smw] at hsm
 simp only [W, seval, c157, hn, hi]
 refine PR.now hc hok ?_
 rw [← hw]
 refine ARun.go 40 ?_
 simp only [W, seval, c157, hn, hi, wdL, bxR, e1, e2]
 have g1 := take_pr L hG s [116, 114, 117, 101]
 rw [got_fl q1] at g1
 refine PR.call g1 hc hok fun _ => ?_
 refine ARun.go 20 ?_
 simp only [W, seval, c157, hn, hi]
 have g2 := take_pr L hG s [102, 97, 108, 115, 101]
 rw [got_fl q2] at g2
 refine PR.call g2 hc hok fun _ => ?_
 refine ARun.go 20 ?_
 simp only [W, seval, c157, hn, hi]
 have g3 := take_pr L hG s [40]
 rw [got_fl q3] at g3
 refine PR.call g3 hc hok fun _ => ?_
 refine ARun.go 20 ?_
 simp only [W, seval, c157, hn, hi, e3]
 refine PR.call (step_pr L hG s hkn) hc hok fun hok1 => ?_
 refine ARun.go 20 ?_
 simp only [W, seval, c157, hn, hi]
 generalize nextP s = s1 at *
 have g4 := take_pr L hG s1 [40]
 rw [got_fl q4] at g4
 rw [got_fl q4] at hK
 dsimp only at hK
 refine PR.call g4 hc hok1 fun _ => ?_
 have hbx : [V.d (D.sl (List.map wdD L)), V.d (D.int IntKind.i64 ↑(idxR L s1)), V.d (D.int IntKind.i64 s1.e), V.d (D.int IntKind.i64 s1.o), V.d (D.bool false)] = bxR L s1 := by unfold bxR; rw [hh]
 obtain ⟨⟨b, s4⟩, hg⟩ : ∃ r, gotP s1 [123] = r := ⟨_, rfl⟩
 have hb : b = true := by
  have h := hg
  unfold gotP at h
  rw [if_pos q5] at h
  exact (Prod.mk.inj h).1.symm
 subst hb
 rw [hh, if_pos rfl, hg] at hK
 have hlt := got_lt hg
 dsimp only at hK
 have g5 := take_pr L hG s1 [123]
 rw [hg] at g5
 obtain ⟨⟨⟨ts0, xs0⟩, s0⟩, hL⟩ : ∃ r, fldL E m s4 = r := ⟨_, rfl⟩
 rw [hL] at hK
 dsimp only at hK
 subst hK
 refine ARun.go 60 ?_
 simp only [W, seval, c157, hn, hi, bxR, hh]
 rw [hbx]
 refine PR.call g5 hc hok1 fun hok4 => ?_
 refine ARun.go 14 ?_
 simp only [W, seval, c157, hn, hi]
 refine ARun.tokenB (N + 2) 6 _ [] (by rw [bx_loc (by simpa using hn)]; rfl) (by rfl) 1 (by omega) rfl ?_
 rw [bx_set_loc (by simpa using hn)]
 refine ARun.tokenB (N + 2) 7 _ [] (by rw [bx_loc (by simpa using hn)]; rfl) (by rfl) 8 (by omega) rfl ?_
 rw [bx_set_loc (by simpa using hn), List.length_append, List.append_assoc]
 change ARun _ _ _ _ _ _ ⟨B.set c (bxR L s4) ++ [[.d (.int .i64 0), .d (.str []), .d (.int .u64 0), .d (.int .i64 0), .d (.str []), .sl [] .full, .sl [] .full, .sl [] .full], wdL s.w, exN s.w.text [] [] T.length], T ++ [(0, 1), (0, 8)]⟩ _
 rw [ht]
 refine ARun.go 7 ?_
 simp only [W, seval, c157]
 refine ARun.after [_, _] _ (fun _ : Unit => (envS 198 [(0, .ptr c 0), (2, .ptr N 0), (6, .ptr (N + 2) 0)], ⟨B.set c (bxR L s0) ++ [[.d (.int .i64 0), .d (.str []), .d (.int .u64 0), .d (.int .i64 0), .d (.str []), .sl [] .full, .sl [] .full, .sl [] .full], wdL s.w, exN s.w.text ts0 xs0 t], T ++ [(ts0.length, 1), (xs0.length, 8)]⟩)) (fun _ => OkR L s0) ?_ ?_
 ·rintro ⟨⟩ hok0
  refine ARun.go 20 ?_
  simp only [W, seval, c157]
  first
   | refine PR.call0 (must_pr L hG s0 [125]) hc hok0 fun hok5 => ?_
   | refine PR.call (must_pr L hG s0 [125]) hc hok0 fun hok5 => ?_
  refine ARun.go 20 ?_
  simp only [W, seval, c157, hn, hi, exN]
  refine retc (v := ?_) Tryz.func157 (by rfl) ?_ ?_
  rotate_left
  ·simp only [W, seval, c157, hn, hi]
   exact rfl
  refine PF.ret (fun _ _ => rfl) ?_
  refine ⟨?_, 0, hok5, rfl⟩
  have ht2 : ¬ t + 1 < t := by omega
  simp only [W, seval, c157, wk, wkL, exV, List.length_set, ht, Nat.lt_irrefl, ht2]
  rfl
 intro K' hend
 refine ARun.loopW (fun a : (List (List UInt8) × List ExT) × Bool × Ps => (envS 198 [(0, .ptr c 0), (2, .ptr N 0), (6, .ptr (N + 2) 0), (7, .d (.bool a.2.1))], ⟨B.set c (bxR L a.2.2) ++ [[.d (.int .i64 0), .d (.str []), .d (.int .u64 0), .d (.int .i64 0), .d (.str []), .sl [] .full, .sl [] .full, .sl [] .full], wdL s.w, exN s.w.text a.1.1 a.1.2 t], T ++ [(a.1.1.length, 1), (a.1.2.length, 8)]⟩)) (fun a => OkR L a.2.2 ∧ mu a.2.2 ≤ mu s4 ∧ (a.2.1 = true → a.1.1.length + mu a.2.2 ≤ mu s ∧ a.1.2.length + mu a.2.2 ≤ mu s ∧ ∃ k, mu a.2.2 < k ∧ ((a.1.1 ++ (fldL E k a.2.2).1.1, a.1.2 ++ (fldL E k a.2.2).1.2), (fldL E k a.2.2).2) = ((ts0, xs0), s0)) ∧ (a.2.1 = false → (a.1, a.2.2) = ((ts0, xs0), s0))) (fun a => if a.2.1 = true then mu a.2.2 + 1 else 0) (([], []), true, s4) ⟨hok4, Nat.le_refl _, fun _ => ⟨by simp; omega, by simp; omega, m, by dsimp only; omega, by dsimp only; rw [hL, List.nil_append, List.nil_append]⟩, fun h => absurd h (by simp)⟩ ?_ rfl ?_
 ·skip
  refine Agree.env _ ?_
  simp only [agw, seval, hn]
 rintro ⟨⟨ts, xs⟩, b, s5⟩ ⟨hok5, hn2, hy, hno⟩ ih
 dsimp only at hok5 hn2 hy hno ih ⊢
 cases b
 case' false =>
  obtain ⟨h, rfl⟩ := Prod.mk.inj (hno rfl)
  obtain ⟨rfl, rfl⟩ := Prod.mk.inj h
  refine ARun.goK (k := [_, _, _]) 40 ?_
  simp only [W, seval, c157, hn, hi]
  refine hend () hok5 _ _ ?_ rfl
  refine Agree.env _ ?_
  simp only [agw, seval, hn]
 case' true =>
  obtain ⟨hle, hlx, k, hk, hr⟩ := hy rfl
  cases k with
  | zero => omega
  | succ k =>
  rw [fldL] at hr
  by_cases he5 : s5.e = 0
  case neg =>
   have e5 := decide_eq_false he5
   rw [if_neg (fun h => he5 h.1)] at hr
   dsimp only at hr
   rw [List.append_nil, List.append_nil] at hr
   obtain ⟨h, rfl⟩ := Prod.mk.inj hr
   obtain ⟨rfl, rfl⟩ := Prod.mk.inj h
   refine ARun.goK (k := [_, _, _]) 80 ?_
   simp only [W, seval, c157, hn, hi, bxR, e5]
   refine hend () hok5 _ _ ?_ rfl
   refine Agree.env _ ?_
   simp only [agw, seval, hn]
  have e5 := decide_eq_true he5
  refine ARun.goK (k := [_, _, _]) 80 ?_
  simp only [W, seval, c157, hn, hi, bxR, e5]
  refine PR.call (see_pr L s5 [125]) hc hok5 fun _ => ?_
  cases q6 : isP s5 [125]
  case' true =>
   rw [if_neg (fun h => by rw [q6] at h; exact absurd h.2 (by decide))] at hr
   dsimp only at hr
   rw [List.append_nil, List.append_nil] at hr
   obtain ⟨h, rfl⟩ := Prod.mk.inj hr
   obtain ⟨rfl, rfl⟩ := Prod.mk.inj h
   refine ARun.goK 80 ?_
   simp only [W, seval, c157, hn, hi]
   refine hend () hok5 _ _ ?_ rfl
   refine Agree.env _ ?_
   simp only [agw, seval, hn]
  case' false =>
   rw [if_pos ⟨he5, q6⟩] at hr
   obtain ⟨⟨tx, s6⟩, hx⟩ : ∃ r, nameP s5 = r := ⟨_, rfl⟩
   have hpx := name_pr L hG s5
   have hd6 := (dn_name hx).le
   rw [hx] at hpx hr
   dsimp only at hpx hr
   have hcap : (ts.length + 1) * 16 ≤ 140737488355328 := by omega
   have hmap : ssD ts ++ [[.str tx]] = ssD (ts ++ [tx]) := by simp [ssD]
   have hlen : (ts ++ [tx]).length = ts.length + 1 := by simp
   have hsl := ssD_length ts
   refine ARun.goK 7 ?_
   simp only [W, seval, c157, hn, hi]
   refine PR.wit hpx hc hok5 (ha0 (by rfl)) fun hok6 => ?_
   refine ARun.drawE 6 [3, 5, 7] (fun S => S.boxes[N + 2]? = some (exN s.w.text ts xs t)) (by kernel_rfl) (by kernel_rfl) (by kernel_rfl) (by kernel_rfl) (by kernel_rfl) ?_
   simp only [W, seval, c157]
   refine lexC_q (v := ?_) (by rfl) (by kernel_rfl) (fun S hS => ?_) ?_
   rotate_left
   ·simp only [W, seval, c157]
    exact rfl
   simp only [W, seval, c157]
   refine lexC_q (v := ?_) (by rfl) (by kernel_rfl) (fun S hS => ?_) ?_
   rotate_left
   ·try dsimp only at hS
    simp only [W, seval, c157, hS, exN]
    exact rfl
   simp only [W, seval, c157]
   refine lexC_q (v := ?_) (by rfl) (by kernel_rfl) (fun S hS => ?_) ?_
   rotate_left
   ·simp only [W, seval, c157]
    exact rfl
   simp only [W, seval, c157]
   refine PR.lexc (hpx) hc hok5 hok6 ?_ (by rfl) (by kernel_rfl) ?_ ?_
   ·first | trivial | simp [bx_loc, bx_loc0, hn]
   ·simp only [W, seval, c157]
    exact ⟨_, _, rfl, rfl, by rfl, by simp only [W, seval, c157]⟩
   simp only [W, seval, c157]
   refine lexC_q (v := ?_) (by rfl) (by kernel_rfl) (fun S hS => ?_) ?_
   rotate_left
   ·simp only [W, seval, c157, mapD_nil, mapD_cons, Nat.reduceMul]
    exact rfl
   simp only [W, seval, c157]
   refine lexC_w (v := ?_) (S' := ?_) ?_ (by rfl) (by kernel_rfl) ?_ ?_
   rotate_left 2
   ·first | trivial | simp [bx_loc, bx_loc0, hn, ht, hcap, hmap, hsl, Nat.reduceMul]
   ·simp only [W, seval, c157, hn, ht, hcap, hmap, hsl, Nat.reduceMul]
    exact rfl
   simp only [W, seval, c157]
   refine lexC_end (by simp [bx_loc, hn]) ?_
   refine lexC_q (v := ?_) (by rfl) (by kernel_rfl) (fun S hS => ?_) ?_
   rotate_left
   ·simp only [W, seval, c157]
    exact rfl
   simp only [W, seval, c157]
   refine lexC_w (v := ?_) (S' := ?_) ?_ (by rfl) (by kernel_rfl) ?_ ?_
   rotate_left 2
   ·first | trivial | simp [bx_loc, bx_loc0, hn, exN]
   ·simp only [W, seval, c157, hn, exN]
    exact rfl
   simp only [W, seval, c157]
   refine lexC_end trivial ?_
   refine ARun.goK (k := [_, _, _, _]) 10 ?_
   simp only [W, seval, c157]
   first
    | refine PR.call0 (must_pr L hG s6 [58]) hc hok6 fun hok7 => ?_
    | refine PR.call (must_pr L hG s6 [58]) hc hok6 fun hok7 => ?_
   have hd7 := (dn_want s6 [58]).le
   generalize wantP s6 [58] = s7 at *
   obtain ⟨⟨x, s8⟩, hx8⟩ : ∃ r, E s7 = r := ⟨_, rfl⟩
   have hp8 := hE s7 (by omega)
   have hd8 := (hd.at hx8).le
   rw [hx8] at hp8 hr
   dsimp only at hp8 hr
   unfold exV at hp8
   have hcap2 : (xs.length + 1) * 128 ≤ 140737488355328 := by omega
   have hmap2 : xs.map exD ++ [exD x] = (xs ++ [x]).map exD := by simp
   have hlen2 : (xs ++ [x]).length = xs.length + 1 := by simp
   refine ARun.goK 6 ?_
   simp only [W, seval, c157, hn, hi]
   refine PR.wit hp8 hc hok7 (ha0 (by rfl)) fun hok8 => ?_
   refine ARun.drawE 6 [3, 5, 7] (fun S => S.boxes[N + 2]? = some [.d (.int .i64 14), .d (.str []), .d (.int .u64 0), .d (.int .i64 7), .d (.str s.w.text), .sl [] .full, .sl (ssD (ts ++ [tx])) (.own t), .sl (xs.map exD) (.own (t + 1))]) (by kernel_rfl) (by kernel_rfl) (by kernel_rfl) (by kernel_rfl) (by kernel_rfl) ?_
   simp only [W, seval, c157]
   refine lexC_q (v := ?_) (by rfl) (by kernel_rfl) (fun S hS => ?_) ?_
   rotate_left
   ·simp only [W, seval, c157]
    exact rfl
   simp only [W, seval, c157]
   refine lexC_q (v := ?_) (by rfl) (by kernel_rfl) (fun S hS => ?_) ?_
   rotate_left
   ·try dsimp only at hS
    simp only [W, seval, c157, hS]
    exact rfl
   simp only [W, seval, c157]
   refine lexC_q (v := ?_) (by rfl) (by kernel_rfl) (fun S hS => ?_) ?_
   rotate_left
   ·simp only [W, seval, c157]
    exact rfl
   simp only [W, seval, c157]
   refine PR.lexc (hp8) hc hok7 hok8 ?_ (by rfl) (by kernel_rfl) ?_ ?_
   ·first | trivial | simp [bx_loc, bx_loc0, hn]
   ·simp only [W, seval, c157]
    exact ⟨_, _, rfl, rfl, by rfl, by simp only [W, seval, c157]⟩
   simp only [W, seval, c157]
   refine lexC_q (v := ?_) (by rfl) (by kernel_rfl) (fun S hS => ?_) ?_
   rotate_left
   ·simp only [W, seval, c157, mapD_nil, mapD_cons, Nat.reduceMul, rows8]
    exact rfl
   simp only [W, seval, c157]
   refine lexC_w (v := ?_) (S' := ?_) ?_ (by rfl) (by kernel_rfl) ?_ ?_
   rotate_left 2
   ·first | trivial | simp [bx_loc, bx_loc0, hn, ht, hcap2, hmap2, ex1, Nat.reduceMul]
   ·simp only [W, seval, c157, hn, ht, hcap2, hmap2, ex1, Nat.reduceMul]
    exact rfl
   simp only [W, seval, c157]
   refine lexC_end (by simp [bx_loc, hn]) ?_
   refine lexC_q (v := ?_) (by rfl) (by kernel_rfl) (fun S hS => ?_) ?_
   rotate_left
   ·simp only [W, seval, c157]
    exact rfl
   simp only [W, seval, c157]
   refine lexC_w (v := ?_) (S' := ?_) ?_ (by rfl) (by kernel_rfl) ?_ ?_
   rotate_left 2
   ·first | trivial | simp [bx_loc, bx_loc0, hn]
   ·simp only [W, seval, c157, hn]
    exact rfl
   simp only [W, seval, c157]
   refine lexC_end trivial ?_
   refine ARun.goK (k := [_, _, _, _]) 10 ?_
   simp only [W, seval, c157]
   obtain ⟨⟨b, s9⟩, hg_s9⟩ : ∃ r, gotP s8 [44] = r := ⟨_, rfl⟩
   have hp_s9 := take_pr L hG s8 [44]
   rw [hg_s9] at hp_s9
   dsimp only at hp_s9
   first
    | refine PR.call0 hp_s9 hc hok8 fun hok9 => ?_
    | refine PR.call hp_s9 hc hok8 fun hok9 => ?_
   rw [hg_s9] at hr
   have hd9 := (dn_got hg_s9).le
   cases b
   case' false =>
    dsimp only at hr
    obtain ⟨h, hr2⟩ := Prod.mk.inj hr
    refine ARun.goK 20 ?_
    simp only [W, seval, c157, hn, hi]
    refine ih ((ts ++ [tx], xs ++ [x]), false, s9) ⟨hok9, by dsimp only; omega, fun h => absurd h (by simp), fun _ => by rw [h, hr2]⟩ (by simp) _ _ ?_ (by dsimp only; rw [hlen, hlen2]; rfl)
    refine Agree.env _ ?_
    simp only [agw, seval, hn]
   case' true =>
    have hlt := got_lt hg_s9
    dsimp only at hr
    refine ARun.goK 20 ?_
    simp only [W, seval, c157, hn, hi]
    refine ih ((ts ++ [tx], xs ++ [x]), true, s9) ⟨hok9, by dsimp only; omega, fun _ => ⟨by dsimp only; omega, by dsimp only; omega, k, by dsimp only; omega, by rw [← hr]; simp⟩, fun h => absurd h (by simp)⟩ (by simp; omega) _ _ ?_ (by dsimp only; rw [hlen, hlen2]; rfl)
    refine Agree.env _ ?_
    simp only [agw, seval, hn]
end Go.Proofs.YtnnnhlkmdnacaaaGreatDoor
