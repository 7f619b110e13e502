/- GoparsePrograms: the parser of the small language answers as the document's, for any bytes; no condition. Part 5 of 6 of the proof. -/
import Derived.Test.YtnnnhlkmdnacaaaGreatDoorGoparseProgramsd
namespace Go.Proofs.YtnnnhlkmdnacaaaGreatDoor
open Go.RowKit Go.Av Go.Ab
set_option linter.unusedSimpArgs false
set_option maxRecDepth 100000
theorem keyB_eq {s : Ps} (q1 : isP s [116, 114, 117, 101] = false) (q2 : isP s [102, 97, 108, 115, 101] = false) : keyB s = (decide (1 < kindW s.w) || isP s [108, 101, 110] || isP s [97, 112, 112, 101, 110, 100]) := by
 unfold keyB kindW
 rw [q1, q2]
 by_cases h : s.w.kind = 4
 ·rw [if_pos h, decide_eq_true h]
  cases decide (1 < kindS s.w.text) <;> cases isP s [108, 101, 110] <;> cases isP s [97, 112, 112, 101, 110, 100] <;> rfl
 ·rw [if_neg h, decide_eq_false h]
  cases isP s [108, 101, 110] <;> cases isP s [97, 112, 112, 101, 110, 100] <;> rfl
theorem keyB_kind {s : Ps} (hkb : keyB s = true) : s.w.kind = 3 ∨ s.w.kind = 4 := by
 unfold keyB at hkb
 simp only [Bool.or_eq_true, Bool.and_eq_true, decide_eq_true_eq] at hkb
 rcases hkb with (((h | h) | h) | h) | h
 ·exact (is_live h).2.1
 ·exact (is_live h).2.1
 ·exact (is_live h).2.1
 ·exact (is_live h).2.1
 ·exact .inr h.1
theorem is_text {s : Ps} (he : s.e = 0) (hk : s.w.kind = 3 ∨ s.w.kind = 4) {t : List UInt8} (h : isP s t = false) : ¬ s.w.text = t := by
 intro e
 unfold isP at h
 rw [decide_eq_true he, decide_eq_true e] at h
 rcases hk with h3 | h4
 ·simp [h3] at h
 ·simp [h4] at h
def exK (t0 : TyT) (xs : List ExT) (t : Nat) : List V := [.d (.int .i64 15), .d (.str []), .d (.int .u64 0), .d (.int .i64 t0.kind), .d (.str t0.name), .d (.sl (t0.elem.map tyD)), .sl [] .full, .sl (xs.map exD) (.own t)]
set_option maxHeartbeats 8000000 in
theorem prim_J (L : List WordS) (hG : GoodL L) {E : EP} {n : Nat} (hE : EOr L E n) (hd : DnE E) (m : Nat) (s : Ps) (hs : mu s ≤ n) (he0 : s.e = 0) (h2 : ¬ s.w.kind = 2) (h3 : ¬ s.w.kind = 1) (q1 : isP s [116, 114, 117, 101] = false) (q2 : isP s [102, 97, 108, 115, 101] = false) (q3 : isP s [40] = false) (hkb : keyB s = true) :
 PR L 157 [] s (exV (primP false E m s).1) (primP false E m s).2 := by
 intro c B T i hc hok
 obtain ⟨N, hn⟩ : ∃ N, B.length = N := ⟨_, rfl⟩
 have hi : c < N := by omega
 obtain ⟨t, ht⟩ : ∃ t, T.length = t := ⟨_, rfl⟩
 obtain ⟨K, hK⟩ : ∃ K, primP false E m s = K := ⟨_, rfl⟩
 rw [hK]
 unfold primP at hK
 have he := he0
 have e1 := decide_eq_true he
 have hw := hok.w he
 rw [if_neg (by simpa using he)] at hK
 have e3 : decide ((s.w.kind : Int) = 1) = false := decide_eq_false (by omega)
 have e2 : decide ((s.w.kind : Int) = 2) = false := decide_eq_false (by omega)
 rw [if_neg h2] at hK
 rw [if_neg h3] at hK
 have hks := keyB_eq q1 q2
 have hk34 : s.w.kind = 3 ∨ s.w.kind = 4 := keyB_kind hkb
 have hnx := next_lt s he (by omega)
 have hkw : kindW s.w = kindS s.w.text := by
  unfold kindW
  split
  ·rfl
  ·have h3 : s.w.kind = 3 := by omega
   have hmem : s.w ∈ L := by rw [hw]; exact nowW_mem hok.lt
   exact (hG.sign _ hmem h3).symm
 rw [hkb, if_pos rfl] at hK
 unfold keyedP at hK
 rw [if_neg (is_text he hk34 q1), if_neg (is_text he hk34 q2)] at hK
 obtain ⟨⟨x, s3⟩, hx⟩ : ∃ r, E (wantP (nextP s) [40]) = r := ⟨_, rfl⟩
 have hd2 := (dn_want (nextP s) [40]).le
 have hpx := hE (wantP (nextP s) [40]) (by omega)
 have hdx := (hd.at hx).le
 rw [hx] at hpx hK
 dsimp only at hpx hK
 unfold exV at hpx
 refine b157.go 10 rfl fun hsm => ?_
 simp only [smw] at hsm
 simp only [W, seval, c157, hn, hi]
 refine PR.now hc hok ?_
 rw [← hw]
 refine ARun.go 40 ?_
 simp only [W, seval, c157, hn, hi, wdL, bxR, e1, e2]
 have g1 := take_pr L hG s [116, 114, 117, 101]
 rw [got_fl q1] at g1
 refine PR.call g1 hc hok fun _ => ?_
 refine ARun.go 20 ?_
 simp only [W, seval, c157, hn, hi]
 have g2 := take_pr L hG s [102, 97, 108, 115, 101]
 rw [got_fl q2] at g2
 refine PR.call g2 hc hok fun _ => ?_
 refine ARun.go 20 ?_
 simp only [W, seval, c157, hn, hi]
 have g3 := take_pr L hG s [40]
 rw [got_fl q3] at g3
 refine PR.call g3 hc hok fun _ => ?_
 refine ARun.go 20 ?_
 simp only [W, seval, c157, hn, hi, e3]
 refine callS_fn (kind_ab s.w _ _) ?_
 rintro _ _ ⟨rfl, rfl⟩
 refine ARun.go 4 ?_
 simp only [W, seval, c157]
 refine ARun.after [_] _ (fun _ : Unit => (envS 198 [(0, .ptr c 0), (2, .ptr N 0), (3, .ptr (N + 1) 0), (8, .d (.int .i64 (kindW s.w))), (121, .d (.bool (keyB s)))], ⟨B.set c (bxR L s) ++ [[.d (.int .i64 0), .d (.str []), .d (.int .u64 0), .d (.int .i64 0), .d (.str []), .sl [] .full, .sl [] .full, .sl [] .full], wdL s.w], T⟩)) (fun _ => True) ?_ ?_
 case refine_2 =>
  intro K' hend
  cases q4 : decide (1 < kindW s.w)
  case' true =>
   have hb : keyB s = true := by rw [hks, q4]; rfl
   refine ARun.goK (k := [_]) 20 ?_
   simp only [W, seval, c157, q4]
   refine hend () trivial _ _ ?_ rfl
   refine Agree.env _ ?_
   simp only [agw, seval, hb]
  case' false =>
   refine ARun.goK (k := [_]) 20 ?_
   simp only [W, seval, c157, q4]
   refine PR.call (see_pr L s [108, 101, 110]) hc hok fun _ => ?_
   cases q5 : isP s [108, 101, 110]
   case' true =>
    have hb : keyB s = true := by rw [hks, q4, q5]; rfl
    refine ARun.goK 20 ?_
    simp only [W, seval, c157]
    refine hend () trivial _ _ ?_ rfl
    refine Agree.env _ ?_
    simp only [agw, seval, hb]
   case' false =>
    refine ARun.goK 20 ?_
    simp only [W, seval, c157]
    refine PR.call (see_pr L s [97, 112, 112, 101, 110, 100]) hc hok fun _ => ?_
    have hb : keyB s = isP s [97, 112, 112, 101, 110, 100] := by rw [hks, q4, q5]; rfl
    refine ARun.goK 20 ?_
    simp only [W, seval, c157]
    refine hend () trivial _ _ ?_ rfl
    refine Agree.env _ ?_
    simp only [agw, seval, hb]
 rintro ⟨⟩ -
 rw [hkb]
 refine ARun.go 20 ?_
 simp only [W, seval, c157, hn, hi]
 refine PR.call (step_pr L hG s fun _ => by omega) hc hok fun hok1 => ?_
 refine ARun.go 20 ?_
 simp only [W, seval, c157, hn, hi]
 refine PR.call (must_pr L hG (nextP s) [40]) hc hok1 fun hok2 => ?_
 refine ARun.go 8 ?_
 simp only [W, seval, c157, hn, hi]
 refine PR.wit hpx hc hok2 (ha0 (by rfl)) fun hok3 => ?_
 have hr0 : rowsSz 8 ([] : List (List D)) = true := rfl
 have hr1 : rowsSz 8 [exD x] = true := ex1 x
 refine ARun.drawE 6 [3, 5, 7] (fun S => S.boxes[N + 2]? = some [.d (.int .i64 12), .d (.str []), .d (.int .u64 0), .d (.int .i64 0), .d (.str []), .sl [] .full, .sl [] .full, .sl [] .full]) (by kernel_rfl) (by kernel_rfl) (by kernel_rfl) (by kernel_rfl) (by kernel_rfl) ?_
 simp only [W, seval, c157]
 refine lexC_q (v := ?_) (by rfl) (by kernel_rfl) (fun S hS => ?_) ?_
 rotate_left
 ·simp only [W, seval, c157]
  exact rfl
 simp only [W, seval, c157]
 refine lexC_q (v := ?_) (by rfl) (by kernel_rfl) (fun S hS => ?_) ?_
 rotate_left
 ·try dsimp only at hS
  simp only [W, seval, c157, hS]
  exact rfl
 simp only [W, seval, c157]
 refine lexC_q (v := ?_) (by rfl) (by kernel_rfl) (fun S hS => ?_) ?_
 rotate_left
 ·simp only [W, seval, c157]
  exact rfl
 simp only [W, seval, c157]
 refine PR.lexc (hpx) hc hok2 hok3 ?_ (by rfl) (by kernel_rfl) ?_ ?_
 ·first | trivial | simp [bx_loc, bx_loc0, hn]
 ·simp only [W, seval, c157]
  exact ⟨_, _, rfl, rfl, by rfl, by simp only [W, seval, c157]⟩
 simp only [W, seval, c157]
 refine lexC_q (v := ?_) (by rfl) (by kernel_rfl) (fun S hS => ?_) ?_
 rotate_left
 ·simp only [W, seval, c157, mapD_nil, mapD_cons, Nat.reduceMul, rows8]
  exact rfl
 simp only [W, seval, c157]
 refine lexC_w (v := ?_) (S' := ?_) ?_ (by rfl) (by kernel_rfl) ?_ ?_
 rotate_left 2
 ·first | trivial | simp [bx_loc, bx_loc0, hn, ht, hr0, hr1, Nat.reduceMul]
 ·simp only [W, seval, c157, hn, ht, hr0, hr1, Nat.reduceMul]
  exact rfl
 simp only [W, seval, c157]
 refine lexC_end (by simp [bx_loc, hn]) ?_
 refine lexC_q (v := ?_) (by rfl) (by kernel_rfl) (fun S hS => ?_) ?_
 rotate_left
 ·simp only [W, seval, c157]
  exact rfl
 simp only [W, seval, c157]
 refine lexC_w (v := ?_) (S' := ?_) ?_ (by rfl) (by kernel_rfl) ?_ ?_
 rotate_left 2
 ·first | trivial | simp [bx_loc, bx_loc0, hn]
 ·simp only [W, seval, c157, hn]
  exact rfl
 simp only [W, seval, c157]
 refine lexC_end trivial ?_
 by_cases h5 : s.w.text = [97, 112, 112, 101, 110, 100]
 ·have e5 := decide_eq_true h5
  have hk0 : kindW s.w = 0 := by rw [hkw, h5]; rfl
  rw [if_pos h5] at hK
  obtain ⟨⟨y, s5⟩, hy⟩ : ∃ r, E (wantP s3 [44]) = r := ⟨_, rfl⟩
  have hd4 := (dn_want s3 [44]).le
  have hpy := hE (wantP s3 [44]) (by omega)
  rw [hy] at hpy hK
  dsimp only at hpy hK
  subst hK
  unfold exV at hpy
  refine ARun.go 60 ?_
  simp only [W, seval, c157, hn, hi, wdL, e5]
  refine PR.call (must_pr L hG s3 [44]) hc hok3 fun hok4 => ?_
  refine ARun.go 6 ?_
  simp only [W, seval, c157, hn, hi]
  refine PR.wit hpy hc hok4 (ha0 (by rfl)) fun hok5 => ?_
  have hrows : rowsSz 8 [exD x] = true := ex1 x
  have hr2 : rowsSz 8 [exD y] = true := ex1 y
  refine ARun.drawE 6 [3, 5, 7] (fun S => S.boxes[N + 2]? = some [.d (.int .i64 13), .d (.str []), .d (.int .u64 0), .d (.int .i64 0), .d (.str []), .sl [] .full, .sl [] .full, .sl [exD x] (.own t)]) (by kernel_rfl) (by kernel_rfl) (by kernel_rfl) (by kernel_rfl) (by kernel_rfl) ?_
  simp only [W, seval, c157]
  refine lexC_q (v := ?_) (by rfl) (by kernel_rfl) (fun S hS => ?_) ?_
  rotate_left
  ·simp only [W, seval, c157]
   exact rfl
  simp only [W, seval, c157]
  refine lexC_q (v := ?_) (by rfl) (by kernel_rfl) (fun S hS => ?_) ?_
  rotate_left
  ·try dsimp only at hS
   simp only [W, seval, c157, hS]
   exact rfl
  simp only [W, seval, c157]
  refine lexC_q (v := ?_) (by rfl) (by kernel_rfl) (fun S hS => ?_) ?_
  rotate_left
  ·simp only [W, seval, c157]
   exact rfl
  simp only [W, seval, c157]
  refine PR.lexc (hpy) hc hok4 hok5 ?_ (by rfl) (by kernel_rfl) ?_ ?_
  ·first | trivial | simp [bx_loc, bx_loc0, hn]
  ·simp only [W, seval, c157]
   exact ⟨_, _, rfl, rfl, by rfl, by simp only [W, seval, c157]⟩
  simp only [W, seval, c157]
  refine lexC_q (v := ?_) (by rfl) (by kernel_rfl) (fun S hS => ?_) ?_
  rotate_left
  ·simp only [W, seval, c157, mapD_nil, mapD_cons, Nat.reduceMul, rows8]
   exact rfl
  simp only [W, seval, c157]
  refine lexC_w (v := ?_) (S' := ?_) ?_ (by rfl) (by kernel_rfl) ?_ ?_
  rotate_left 2
  ·first | trivial | simp [bx_loc, bx_loc0, hn, ht, hrows, hr2, Nat.reduceMul]
  ·simp only [W, seval, c157, hn, ht, hrows, hr2, Nat.reduceMul]
   exact rfl
  simp only [W, seval, c157]
  refine lexC_end (by simp [bx_loc, hn]) ?_
  refine lexC_q (v := ?_) (by rfl) (by kernel_rfl) (fun S hS => ?_) ?_
  rotate_left
  ·simp only [W, seval, c157]
   exact rfl
  simp only [W, seval, c157]
  refine lexC_w (v := ?_) (S' := ?_) ?_ (by rfl) (by kernel_rfl) ?_ ?_
  rotate_left 2
  ·first | trivial | simp [bx_loc, bx_loc0, hn]
  ·simp only [W, seval, c157, hn]
   exact rfl
  simp only [W, seval, c157]
  refine lexC_end trivial ?_
  refine ARun.go 20 ?_
  simp only [W, seval, c157, hn, hi, hk0]
  refine PR.call (must_pr L hG s5 [41]) hc hok5 fun hok6 => ?_
  refine ARun.go 60 ?_
  simp only [W, seval, c157, hn, hi]
  refine retc (v := ?_) Tryz.func157 (by rfl) ?_ ?_
  rotate_left
  ·simp only [W, seval, c157, hn, hi]
   exact rfl
  refine PF.ret (fun _ _ => rfl) ?_
  refine ⟨?_, 0, hok6, rfl⟩
  simp only [W, seval, c157, wk, wkL, exV, List.length_set, ht, Nat.lt_irrefl]
  rfl
 rw [if_neg h5] at hK
 have e5 := decide_eq_false h5
 by_cases h6 : 1 < kindS s.w.text
 ·rw [if_pos h6] at hK
  have e6 : decide (1 < kindW s.w) = true := decide_eq_true (by rw [hkw]; exact h6)
  subst hK
  refine ARun.go 60 ?_
  simp only [W, seval, c157, hn, hi, wdL, e5, e6]
  refine PR.call (must_pr L hG s3 [41]) hc hok3 fun hok4 => ?_
  rw [← hkw]
  refine ARun.go 60 ?_
  simp only [W, seval, c157, hn, hi]
  refine retc (v := ?_) Tryz.func157 (by rfl) ?_ ?_
  rotate_left
  ·simp only [W, seval, c157, hn, hi]
   exact rfl
  refine PF.ret (fun _ _ => rfl) ?_
  refine ⟨?_, 0, hok4, rfl⟩
  simp only [W, seval, c157, wk, wkL, exV, List.length_set, ht, Nat.lt_irrefl]
  rfl
 ·rw [if_neg h6] at hK
  have e6 : decide (1 < kindW s.w) = false := decide_eq_false (by rw [hkw]; exact h6)
  subst hK
  refine ARun.go 60 ?_
  simp only [W, seval, c157, hn, hi, wdL, e5, e6]
  refine PR.call (must_pr L hG s3 [41]) hc hok3 fun hok4 => ?_
  refine ARun.go 60 ?_
  simp only [W, seval, c157, hn, hi]
  refine retc (v := ?_) Tryz.func157 (by rfl) ?_ ?_
  rotate_left
  ·simp only [W, seval, c157, hn, hi]
   exact rfl
  refine PF.ret (fun _ _ => rfl) ?_
  refine ⟨?_, 0, hok4, rfl⟩
  simp only [W, seval, c157, wk, wkL, exV, List.length_set, ht, Nat.lt_irrefl]
  rfl
set_option maxHeartbeats 8000000 in
theorem prim_M (L : List WordS) (hG : GoodL L) {E : EP} (m : Nat) (s : Ps) (he0 : s.e = 0) (h2 : ¬ s.w.kind = 2) (h3 : ¬ s.w.kind = 1) (q1 : isP s [116, 114, 117, 101] = false) (q2 : isP s [102, 97, 108, 115, 101] = false) (q3 : isP s [40] = false) (hkb : keyB s = false) (hh : s.h = true) :
 PR L 157 [] s (exV (primP false E m s).1) (primP false E m s).2 := by
 intro c B T i hc hok
 obtain ⟨N, hn⟩ : ∃ N, B.length = N := ⟨_, rfl⟩
 have hi : c < N := by omega
 obtain ⟨K, hK⟩ : ∃ K, primP false E m s = K := ⟨_, rfl⟩
 rw [hK]
 unfold primP at hK
 have he := he0
 have e1 := decide_eq_true he
 have hw := hok.w he
 rw [if_neg (by simpa using he)] at hK
 have e3 : decide ((s.w.kind : Int) = 1) = false := decide_eq_false (by omega)
 have e2 : decide ((s.w.kind : Int) = 2) = false := decide_eq_false (by omega)
 rw [if_neg h2] at hK
 rw [if_neg h3] at hK
 have hks := keyB_eq q1 q2
 rw [hkb, if_neg (by simp), got_fl q3] at hK
 dsimp only at hK
 rw [if_neg (by simp [hh])] at hK
 subst hK
 have hbx : [V.d (D.sl (List.map wdD L)), V.d (D.int IntKind.i64 ↑(idxR L s)), V.d (D.int IntKind.i64 s.e), V.d (D.int IntKind.i64 s.o), V.d (D.bool true)] = bxR L s := by unfold bxR; rw [hh]
 refine b157.go 10 rfl fun hsm => ?_
 simp only [smw] at hsm
 simp only [W, seval, c157, hn, hi]
 refine PR.now hc hok ?_
 rw [← hw]
 refine ARun.go 40 ?_
 simp only [W, seval, c157, hn, hi, wdL, bxR, e1, e2]
 have g1 := take_pr L hG s [116, 114, 117, 101]
 rw [got_fl q1] at g1
 refine PR.call g1 hc hok fun _ => ?_
 refine ARun.go 20 ?_
 simp only [W, seval, c157, hn, hi]
 have g2 := take_pr L hG s [102, 97, 108, 115, 101]
 rw [got_fl q2] at g2
 refine PR.call g2 hc hok fun _ => ?_
 refine ARun.go 20 ?_
 simp only [W, seval, c157, hn, hi]
 have g3 := take_pr L hG s [40]
 rw [got_fl q3] at g3
 refine PR.call g3 hc hok fun _ => ?_
 refine ARun.go 20 ?_
 simp only [W, seval, c157, hn, hi, e3]
 refine callS_fn (kind_ab s.w _ _) ?_
 rintro _ _ ⟨rfl, rfl⟩
 refine ARun.go 4 ?_
 simp only [W, seval, c157]
 refine ARun.after [_] _ (fun _ : Unit => (envS 198 [(0, .ptr c 0), (2, .ptr N 0), (3, .ptr (N + 1) 0), (8, .d (.int .i64 (kindW s.w))), (121, .d (.bool (keyB s)))], ⟨B.set c (bxR L s) ++ [[.d (.int .i64 0), .d (.str []), .d (.int .u64 0), .d (.int .i64 0), .d (.str []), .sl [] .full, .sl [] .full, .sl [] .full], wdL s.w], T⟩)) (fun _ => True) ?_ ?_
 case refine_2 =>
  intro K' hend
  cases q4 : decide (1 < kindW s.w)
  case' true =>
   have hb : keyB s = true := by rw [hks, q4]; rfl
   refine ARun.goK (k := [_]) 20 ?_
   simp only [W, seval, c157, q4]
   refine hend () trivial _ _ ?_ rfl
   refine Agree.env _ ?_
   simp only [agw, seval, hb]
  case' false =>
   refine ARun.goK (k := [_]) 20 ?_
   simp only [W, seval, c157, q4]
   refine PR.call (see_pr L s [108, 101, 110]) hc hok fun _ => ?_
   cases q5 : isP s [108, 101, 110]
   case' true =>
    have hb : keyB s = true := by rw [hks, q4, q5]; rfl
    refine ARun.goK 20 ?_
    simp only [W, seval, c157]
    refine hend () trivial _ _ ?_ rfl
    refine Agree.env _ ?_
    simp only [agw, seval, hb]
   case' false =>
    refine ARun.goK 20 ?_
    simp only [W, seval, c157]
    refine PR.call (see_pr L s [97, 112, 112, 101, 110, 100]) hc hok fun _ => ?_
    have hb : keyB s = isP s [97, 112, 112, 101, 110, 100] := by rw [hks, q4, q5]; rfl
    refine ARun.goK 20 ?_
    simp only [W, seval, c157]
    refine hend () trivial _ _ ?_ rfl
    refine Agree.env _ ?_
    simp only [agw, seval, hb]
 rintro ⟨⟩ -
 rw [hkb]
 refine ARun.go 40 ?_
 simp only [W, seval, c157, hn, hi, bxR, hh]
 rw [hbx]
 refine PR.call (bad_pr L s) hc hok fun hok1 => ?_
 refine ARun.go 60 ?_
 simp only [W, seval, c157, hn, hi]
 refine retc (v := ?_) Tryz.func157 (by rfl) ?_ ?_
 rotate_left
 ·simp only [W, seval, c157, hn, hi]
  exact rfl
 refine PF.retJ (fun _ _ => rfl) ?_
 exact ⟨rfl, 0, hok1, rfl⟩
set_option maxHeartbeats 8000000 in
theorem prim_N (L : List WordS) (hG : GoodL L) {E : EP} (m : Nat) (s : Ps) (he0 : s.e = 0) (h2 : ¬ s.w.kind = 2) (h3 : ¬ s.w.kind = 1) (q1 : isP s [116, 114, 117, 101] = false) (q2 : isP s [102, 97, 108, 115, 101] = false) (q3 : isP s [40] = false) (hkb : keyB s = false) (hh : s.h = false) (q6 : isP s [91] = false) :
 PR L 157 [] s (exV (primP false E m s).1) (primP false E m s).2 := by
 intro c B T i hc hok
 obtain ⟨N, hn⟩ : ∃ N, B.length = N := ⟨_, rfl⟩
 have hi : c < N := by omega
 obtain ⟨K, hK⟩ : ∃ K, primP false E m s = K := ⟨_, rfl⟩
 rw [hK]
 unfold primP at hK
 have he := he0
 have e1 := decide_eq_true he
 have hw := hok.w he
 rw [if_neg (by simpa using he)] at hK
 have e3 : decide ((s.w.kind : Int) = 1) = false := decide_eq_false (by omega)
 have e2 : decide ((s.w.kind : Int) = 2) = false := decide_eq_false (by omega)
 rw [if_neg h2] at hK
 rw [if_neg h3] at hK
 have hks := keyB_eq q1 q2
 rw [hkb, if_neg (by simp), got_fl q3] at hK
 dsimp only at hK
 rw [if_neg (by simp [q6])] at hK
 subst hK
 have hbx : [V.d (D.sl (List.map wdD L)), V.d (D.int IntKind.i64 ↑(idxR L s)), V.d (D.int IntKind.i64 s.e), V.d (D.int IntKind.i64 s.o), V.d (D.bool false)] = bxR L s := by unfold bxR; rw [hh]
 refine b157.go 10 rfl fun hsm => ?_
 simp only [smw] at hsm
 simp only [W, seval, c157, hn, hi]
 refine PR.now hc hok ?_
 rw [← hw]
 refine ARun.go 40 ?_
 simp only [W, seval, c157, hn, hi, wdL, bxR, e1, e2]
 have g1 := take_pr L hG s [116, 114, 117, 101]
 rw [got_fl q1] at g1
 refine PR.call g1 hc hok fun _ => ?_
 refine ARun.go 20 ?_
 simp only [W, seval, c157, hn, hi]
 have g2 := take_pr L hG s [102, 97, 108, 115, 101]
 rw [got_fl q2] at g2
 refine PR.call g2 hc hok fun _ => ?_
 refine ARun.go 20 ?_
 simp only [W, seval, c157, hn, hi]
 have g3 := take_pr L hG s [40]
 rw [got_fl q3] at g3
 refine PR.call g3 hc hok fun _ => ?_
 refine ARun.go 20 ?_
 simp only [W, seval, c157, hn, hi, e3]
 refine callS_fn (kind_ab s.w _ _) ?_
 rintro _ _ ⟨rfl, rfl⟩
 refine ARun.go 4 ?_
 simp only [W, seval, c157]
 refine ARun.after [_] _ (fun _ : Unit => (envS 198 [(0, .ptr c 0), (2, .ptr N 0), (3, .ptr (N + 1) 0), (8, .d (.int .i64 (kindW s.w))), (121, .d (.bool (keyB s)))], ⟨B.set c (bxR L s) ++ [[.d (.int .i64 0), .d (.str []), .d (.int .u64 0), .d (.int .i64 0), .d (.str []), .sl [] .full, .sl [] .full, .sl [] .full], wdL s.w], T⟩)) (fun _ => True) ?_ ?_
 case refine_2 =>
  intro K' hend
  cases q4 : decide (1 < kindW s.w)
  case' true =>
   have hb : keyB s = true := by rw [hks, q4]; rfl
   refine ARun.goK (k := [_]) 20 ?_
   simp only [W, seval, c157, q4]
   refine hend () trivial _ _ ?_ rfl
   refine Agree.env _ ?_
   simp only [agw, seval, hb]
  case' false =>
   refine ARun.goK (k := [_]) 20 ?_
   simp only [W, seval, c157, q4]
   refine PR.call (see_pr L s [108, 101, 110]) hc hok fun _ => ?_
   cases q5 : isP s [108, 101, 110]
   case' true =>
    have hb : keyB s = true := by rw [hks, q4, q5]; rfl
    refine ARun.goK 20 ?_
    simp only [W, seval, c157]
    refine hend () trivial _ _ ?_ rfl
    refine Agree.env _ ?_
    simp only [agw, seval, hb]
   case' false =>
    refine ARun.goK 20 ?_
    simp only [W, seval, c157]
    refine PR.call (see_pr L s [97, 112, 112, 101, 110, 100]) hc hok fun _ => ?_
    have hb : keyB s = isP s [97, 112, 112, 101, 110, 100] := by rw [hks, q4, q5]; rfl
    refine ARun.goK 20 ?_
    simp only [W, seval, c157]
    refine hend () trivial _ _ ?_ rfl
    refine Agree.env _ ?_
    simp only [agw, seval, hb]
 rintro ⟨⟩ -
 rw [hkb]
 refine ARun.go 40 ?_
 simp only [W, seval, c157, hn, hi, bxR, hh]
 rw [hbx]
 refine PR.call (see_pr L s [91]) hc hok fun _ => ?_
 rw [q6]
 refine ARun.go 40 ?_
 simp only [W, seval, c157, hn, hi]
 refine PR.call (bad_pr L s) hc hok fun hok1 => ?_
 refine ARun.go 60 ?_
 simp only [W, seval, c157, hn, hi]
 refine retc (v := ?_) Tryz.func157 (by rfl) ?_ ?_
 rotate_left
 ·simp only [W, seval, c157, hn, hi]
  exact rfl
 refine PF.retJ (fun _ _ => rfl) ?_
 exact ⟨rfl, 0, hok1, rfl⟩
set_option maxHeartbeats 8000000 in
theorem prim_K (L : List WordS) (hG : GoodL L) {E : EP} {n : Nat} (hE : EOr L E n) (hd : DnE E) (m : Nat) (hnm : n < m) (s : Ps) (hs : mu s ≤ n) (he0 : s.e = 0) (h2 : ¬ s.w.kind = 2) (h3 : ¬ s.w.kind = 1) (q1 : isP s [116, 114, 117, 101] = false) (q2 : isP s [102, 97, 108, 115, 101] = false) (q3 : isP s [40] = false) (hkb : keyB s = false) (hh : s.h = false) (q6 : isP s [91] = true) :
 PR L 157 [] s (exV (primP false E m s).1) (primP false E m s).2 := by
 intro c B T i hc hok
 obtain ⟨N, hn⟩ : ∃ N, B.length = N := ⟨_, rfl⟩
 have hi : c < N := by omega
 obtain ⟨t, ht⟩ : ∃ t, T.length = t := ⟨_, rfl⟩
 obtain ⟨K, hK⟩ : ∃ K, primP false E m s = K := ⟨_, rfl⟩
 rw [hK]
 unfold primP at hK
 have he := he0
 have e1 := decide_eq_true he
 have hw := hok.w he
 rw [if_neg (by simpa using he)] at hK
 have e3 : decide ((s.w.kind : Int) = 1) = false := decide_eq_false (by omega)
 have e2 : decide ((s.w.kind : Int) = 2) = false := decide_eq_false (by omega)
 rw [if_neg h2] at hK
 rw [if_neg h3] at hK
 have hks := keyB_eq q1 q2
 rw [hkb, if_neg (by simp), got_fl q3] at hK
 dsimp only at hK
 rw [if_pos ⟨hh, q6⟩] at hK
 have hmu := hok.mu_le hG
 have htp := typ_pr L hG m s (by omega)
 obtain ⟨⟨t0, s2⟩, ht0⟩ : ∃ r, typP m s = r := ⟨_, rfl⟩
 have htl := typ_lt q6 (show mu s ≤ m by omega) ht0
 have hd3 := (dn_want s2 [123]).le
 rw [ht0] at htp hK
 dsimp only at htp hK
 obtain ⟨⟨xs0, s0⟩, hL⟩ : ∃ r, listL E [125] true m (wantP s2 [123]) = r := ⟨_, rfl⟩
 unfold listP at hK
 rw [hL] at hK
 dsimp only at hK
 subst hK
 unfold tyV at htp
 have hbx : [V.d (D.sl (List.map wdD L)), V.d (D.int IntKind.i64 ↑(idxR L s)), V.d (D.int IntKind.i64 s.e), V.d (D.int IntKind.i64 s.o), V.d (D.bool false)] = bxR L s := by unfold bxR; rw [hh]
 refine b157.go 10 rfl fun hsm => ?_
 simp only [smw] at hsm
 simp only [W, seval, c157, hn, hi]
 refine PR.now hc hok ?_
 rw [← hw]
 refine ARun.go 40 ?_
 simp only [W, seval, c157, hn, hi, wdL, bxR, e1, e2]
 have g1 := take_pr L hG s [116, 114, 117, 101]
 rw [got_fl q1] at g1
 refine PR.call g1 hc hok fun _ => ?_
 refine ARun.go 20 ?_
 simp only [W, seval, c157, hn, hi]
 have g2 := take_pr L hG s [102, 97, 108, 115, 101]
 rw [got_fl q2] at g2
 refine PR.call g2 hc hok fun _ => ?_
 refine ARun.go 20 ?_
 simp only [W, seval, c157, hn, hi]
 have g3 := take_pr L hG s [40]
 rw [got_fl q3] at g3
 refine PR.call g3 hc hok fun _ => ?_
 refine ARun.go 20 ?_
 simp only [W, seval, c157, hn, hi, e3]
 refine callS_fn (kind_ab s.w _ _) ?_
 rintro _ _ ⟨rfl, rfl⟩
 refine ARun.go 4 ?_
 simp only [W, seval, c157]
 refine ARun.after [_] _ (fun _ : Unit => (envS 198 [(0, .ptr c 0), (2, .ptr N 0), (3, .ptr (N + 1) 0), (8, .d (.int .i64 (kindW s.w))), (121, .d (.bool (keyB s)))], ⟨B.set c (bxR L s) ++ [[.d (.int .i64 0), .d (.str []), .d (.int .u64 0), .d (.int .i64 0), .d (.str []), .sl [] .full, .sl [] .full, .sl [] .full], wdL s.w], T⟩)) (fun _ => True) ?_ ?_
 case refine_2 =>
  intro K' hend
  cases q4 : decide (1 < kindW s.w)
  case' true =>
   have hb : keyB s = true := by rw [hks, q4]; rfl
   refine ARun.goK (k := [_]) 20 ?_
   simp only [W, seval, c157, q4]
   refine hend () trivial _ _ ?_ rfl
   refine Agree.env _ ?_
   simp only [agw, seval, hb]
  case' false =>
   refine ARun.goK (k := [_]) 20 ?_
   simp only [W, seval, c157, q4]
   refine PR.call (see_pr L s [108, 101, 110]) hc hok fun _ => ?_
   cases q5 : isP s [108, 101, 110]
   case' true =>
    have hb : keyB s = true := by rw [hks, q4, q5]; rfl
    refine ARun.goK 20 ?_
    simp only [W, seval, c157]
    refine hend () trivial _ _ ?_ rfl
    refine Agree.env _ ?_
    simp only [agw, seval, hb]
   case' false =>
    refine ARun.goK 20 ?_
    simp only [W, seval, c157]
    refine PR.call (see_pr L s [97, 112, 112, 101, 110, 100]) hc hok fun _ => ?_
    have hb : keyB s = isP s [97, 112, 112, 101, 110, 100] := by rw [hks, q4, q5]; rfl
    refine ARun.goK 20 ?_
    simp only [W, seval, c157]
    refine hend () trivial _ _ ?_ rfl
    refine Agree.env _ ?_
    simp only [agw, seval, hb]
 rintro ⟨⟩ -
 rw [hkb]
 refine ARun.go 40 ?_
 simp only [W, seval, c157, hn, hi, bxR, hh]
 rw [hbx]
 refine PR.call (see_pr L s [91]) hc hok fun _ => ?_
 rw [q6]
 refine ARun.go 20 ?_
 simp only [W, seval, c157, hn, hi]
 refine PR.call htp hc hok fun hok2 => ?_
 refine ARun.go 20 ?_
 simp only [W, seval, c157, hn, hi]
 refine PR.call (must_pr L hG s2 [123]) hc hok2 fun hok4 => ?_
 generalize wantP s2 [123] = s4 at *
 refine ARun.go 2 ?_
 simp only [W, seval, c157]
 refine ARun.tokenB (N + 2) 7 _ [] (by rw [bx_loc (by simpa using hn)]; rfl) (by rfl) 8 (by omega) rfl ?_
 rw [bx_set_loc (by simpa using hn)]
 change ARun _ _ _ _ _ _ ⟨B.set c (bxR L s4) ++ [[.d (.int .i64 0), .d (.str []), .d (.int .u64 0), .d (.int .i64 0), .d (.str []), .sl [] .full, .sl [] .full, .sl [] .full], wdL s.w, exK t0 [] T.length], T ++ [(0, 8)]⟩ _
 rw [ht]
 refine ARun.go 7 ?_
 simp only [W, seval, c157]
 refine ARun.after [_, _] _ (fun _ : Unit => (envS 198 [(0, .ptr c 0), (2, .ptr N 0), (10, .ptr (N + 2) 0)], ⟨B.set c (bxR L s0) ++ [[.d (.int .i64 0), .d (.str []), .d (.int .u64 0), .d (.int .i64 0), .d (.str []), .sl [] .full, .sl [] .full, .sl [] .full], wdL s.w, exK t0 xs0 t], T ++ [(xs0.length, 8)]⟩)) (fun _ => OkR L s0) ?_ ?_
 ·rintro ⟨⟩ hok0
  refine ARun.go 20 ?_
  simp only [W, seval, c157]
  first
   | refine PR.call0 (must_pr L hG s0 [125]) hc hok0 fun hok5 => ?_
   | refine PR.call (must_pr L hG s0 [125]) hc hok0 fun hok5 => ?_
  refine ARun.go 20 ?_
  simp only [W, seval, c157, hn, hi, exK]
  refine retc (v := ?_) Tryz.func157 (by rfl) ?_ ?_
  rotate_left
  ·simp only [W, seval, c157, hn, hi]
   exact rfl
  refine PF.ret (fun _ _ => rfl) ?_
  refine ⟨?_, 0, hok5, rfl⟩
  simp only [W, seval, c157, wk, wkL, exV, List.length_set, ht, Nat.lt_irrefl]
  rfl
 intro K' hend
 refine ARun.loopW (fun a : List ExT × Bool × Ps => (envS 198 [(0, .ptr c 0), (2, .ptr N 0), (10, .ptr (N + 2) 0), (11, .d (.bool a.2.1))], ⟨B.set c (bxR L a.2.2) ++ [[.d (.int .i64 0), .d (.str []), .d (.int .u64 0), .d (.int .i64 0), .d (.str []), .sl [] .full, .sl [] .full, .sl [] .full], wdL s.w, exK t0 a.1 t], T ++ [(a.1.length, 8)]⟩)) (fun a => OkR L a.2.2 ∧ mu a.2.2 ≤ mu s4 ∧ (a.2.1 = true → a.1.length + mu a.2.2 ≤ mu s ∧ ∃ k, mu a.2.2 < k ∧ (a.1 ++ (listL E [125] true k a.2.2).1, (listL E [125] true k a.2.2).2) = (xs0, s0)) ∧ (a.2.1 = false → (a.1, a.2.2) = (xs0, s0))) (fun a => if a.2.1 = true then mu a.2.2 + 1 else 0) ([], true, s4) ⟨hok4, Nat.le_refl _, fun _ => ⟨by simp; omega, m, by dsimp only; omega, by dsimp only; rw [hL, List.nil_append]⟩, fun h => absurd h (by simp)⟩ ?_ rfl ?_
 ·skip
  refine Agree.env _ ?_
  simp only [agw, seval, hn]
 rintro ⟨xs, b, s5⟩ ⟨hok5, hn2, hy, hno⟩ ih
 dsimp only at hok5 hn2 hy hno ih ⊢
 cases b
 case' false =>
  obtain ⟨rfl, rfl⟩ := Prod.mk.inj (hno rfl)
  refine ARun.goK (k := [_, _, _]) 40 ?_
  simp only [W, seval, c157, hn, hi]
  refine hend () hok5 _ _ ?_ rfl
  refine Agree.env _ ?_
  simp only [agw, seval, hn]
 case' true =>
  obtain ⟨hle, k, hk, hr⟩ := hy rfl
  cases k with
  | zero => omega
  | succ k =>
  rw [listL] at hr
  by_cases he5 : s5.e = 0
  case neg =>
   have e5 := decide_eq_false he5
   rw [if_neg (fun h => he5 h.1)] at hr
   dsimp only at hr
   rw [List.append_nil] at hr
   obtain ⟨rfl, rfl⟩ := Prod.mk.inj hr
   refine ARun.goK (k := [_, _, _]) 80 ?_
   simp only [W, seval, c157, hn, hi, bxR, e5]
   refine hend () hok5 _ _ ?_ rfl
   refine Agree.env _ ?_
   simp only [agw, seval, hn]
  have e5 := decide_eq_true he5
  refine ARun.goK (k := [_, _, _]) 80 ?_
  simp only [W, seval, c157, hn, hi, bxR, e5]
  refine PR.call (see_pr L s5 [125]) hc hok5 fun _ => ?_
  cases q7 : isP s5 [125]
  case' true =>
   rw [if_neg (fun h => by rw [q7] at h; exact absurd h.2 (by decide))] at hr
   dsimp only at hr
   rw [List.append_nil] at hr
   obtain ⟨rfl, rfl⟩ := Prod.mk.inj hr
   refine ARun.goK 80 ?_
   simp only [W, seval, c157, hn, hi]
   refine hend () hok5 _ _ ?_ rfl
   refine Agree.env _ ?_
   simp only [agw, seval, hn]
  case' false =>
   rw [if_pos ⟨he5, q7⟩] at hr
   obtain ⟨⟨x, s8⟩, hx8⟩ : ∃ r, E s5 = r := ⟨_, rfl⟩
   have hp8 := hE s5 (by omega)
   have hd8 := (hd.at hx8).le
   rw [hx8] at hp8 hr
   dsimp only at hp8 hr
   unfold exV at hp8
   have hcap2 : (xs.length + 1) * 128 ≤ 140737488355328 := by omega
   have hmap2 : xs.map exD ++ [exD x] = (xs ++ [x]).map exD := by simp
   have hlen2 : (xs ++ [x]).length = xs.length + 1 := by simp
   refine ARun.goK 7 ?_
   simp only [W, seval, c157, hn, hi]
   refine PR.wit hp8 hc hok5 (ha0 (by rfl)) fun hok8 => ?_
   refine ARun.drawE 6 [3, 5, 7] (fun S => S.boxes[N + 2]? = some (exK t0 xs t)) (by kernel_rfl) (by kernel_rfl) (by kernel_rfl) (by kernel_rfl) (by kernel_rfl) ?_
   simp only [W, seval, c157]
   refine lexC_q (v := ?_) (by rfl) (by kernel_rfl) (fun S hS => ?_) ?_
   rotate_left
   ·simp only [W, seval, c157]
    exact rfl
   simp only [W, seval, c157]
   refine lexC_q (v := ?_) (by rfl) (by kernel_rfl) (fun S hS => ?_) ?_
   rotate_left
   ·try dsimp only at hS
    simp only [W, seval, c157, hS, exK]
    exact rfl
   simp only [W, seval, c157]
   refine lexC_q (v := ?_) (by rfl) (by kernel_rfl) (fun S hS => ?_) ?_
   rotate_left
   ·simp only [W, seval, c157]
    exact rfl
   simp only [W, seval, c157]
   refine PR.lexc (hp8) hc hok5 hok8 ?_ (by rfl) (by kernel_rfl) ?_ ?_
   ·first | trivial | simp [bx_loc, bx_loc0, hn]
   ·simp only [W, seval, c157]
    exact ⟨_, _, rfl, rfl, by rfl, by simp only [W, seval, c157]⟩
   simp only [W, seval, c157]
   refine lexC_q (v := ?_) (by rfl) (by kernel_rfl) (fun S hS => ?_) ?_
   rotate_left
   ·simp only [W, seval, c157, mapD_nil, mapD_cons, Nat.reduceMul, rows8]
    exact rfl
   simp only [W, seval, c157]
   refine lexC_w (v := ?_) (S' := ?_) ?_ (by rfl) (by kernel_rfl) ?_ ?_
   rotate_left 2
   ·first | trivial | simp [bx_loc, bx_loc0, hn, ht, hcap2, hmap2, ex1, Nat.reduceMul]
   ·simp only [W, seval, c157, hn, ht, hcap2, hmap2, ex1, Nat.reduceMul]
    exact rfl
   simp only [W, seval, c157]
   refine lexC_end (by simp [bx_loc, hn]) ?_
   refine lexC_q (v := ?_) (by rfl) (by kernel_rfl) (fun S hS => ?_) ?_
   rotate_left
   ·simp only [W, seval, c157]
    exact rfl
   simp only [W, seval, c157]
   refine lexC_w (v := ?_) (S' := ?_) ?_ (by rfl) (by kernel_rfl) ?_ ?_
   rotate_left 2
   ·first | trivial | simp [bx_loc, bx_loc0, hn, exK]
   ·simp only [W, seval, c157, hn, exK]
    exact rfl
   simp only [W, seval, c157]
   refine lexC_end trivial ?_
   refine ARun.goK (k := [_, _, _, _]) 10 ?_
   simp only [W, seval, c157]
   obtain ⟨⟨b, s9⟩, hg_s9⟩ : ∃ r, gotP s8 [44] = r := ⟨_, rfl⟩
   have hp_s9 := take_pr L hG s8 [44]
   rw [hg_s9] at hp_s9
   dsimp only at hp_s9
   first
    | refine PR.call0 hp_s9 hc hok8 fun hok9 => ?_
    | refine PR.call hp_s9 hc hok8 fun hok9 => ?_
   rw [hg_s9] at hr
   have hd9 := (dn_got hg_s9).le
   cases b
   case' false =>
    dsimp only at hr
    obtain ⟨hr1, hr2⟩ := Prod.mk.inj hr
    refine ARun.goK 20 ?_
    simp only [W, seval, c157, hn, hi]
    refine ih (xs ++ [x], false, s9) ⟨hok9, by dsimp only; omega, fun h => absurd h (by simp), fun _ => by rw [hr1, hr2]⟩ (by simp) _ _ ?_ (by dsimp only; rw [hlen2]; rfl)
    refine Agree.env _ ?_
    simp only [agw, seval, hn]
   case' true =>
    have hlt := got_lt hg_s9
    dsimp only at hr
    rw [if_neg (by simp)] at hr
    refine ARun.goK 20 ?_
    simp only [W, seval, c157, hn, hi]
    refine ih (xs ++ [x], true, s9) ⟨hok9, by dsimp only; omega, fun _ => ⟨by dsimp only; omega, k, by dsimp only; omega, by rw [← hr]; simp⟩, fun h => absurd h (by simp)⟩ (by simp; omega) _ _ ?_ (by dsimp only; rw [hlen2]; rfl)
    refine Agree.env _ ?_
    simp only [agw, seval, hn]
set_option linter.defProp false
def c115 := by
 have c := KK_of Tryz.f115 (by conv => lhs; cbv)
 dsimp only [KK, KxP, doO, opO, List.map_cons, List.map_nil, List.toList_toArray] at c
 exact c
theorem b115 : FnIs Tryz.prog 115 Tryz.f115 127 := ⟨Tryz.func115, by kernel_rfl⟩
theorem prim_pr (L : List WordS) (hG : GoodL L) {E : EP} {n : Nat} (hE : EOr L E n) (hd : DnE E) (m : Nat) (hnm : n < m) (s : Ps) (hs : mu s ≤ n) :
 PR L 157 [] s (exV (primP false E m s).1) (primP false E m s).2 := by
 by_cases he : s.e = 0
 case neg => exact prim_A L m s he
 by_cases h2 : s.w.kind = 2
 ·exact prim_B L hG m s he h2
 by_cases h3 : s.w.kind = 1
 ·cases q4 : isP (nextP s) [40]
  ·cases hh : (nextP s).h
   ·cases q5 : isP (nextP s) [123]
    ·exact prim_G2 L hG m s he h3 q4 hh q5
    ·exact prim_H L hG hE hd m hnm s hs he h3 q4 hh q5
   ·exact prim_G L hG m s he h3 q4 hh
  ·exact prim_F L hG hE hd m hnm s hs he h3 q4
 cases q1 : isP s [116, 114, 117, 101]
 case' true => exact prim_C L hG m s q1
 cases q2 : isP s [102, 97, 108, 115, 101]
 case' true => exact prim_D L hG m s q1 q2
 cases q3 : isP s [40]
 case' true => exact prim_E L hG hE m s hs q1 q2 q3
 cases hkb : keyB s
 case' true => exact prim_J L hG hE hd m s hs he h2 h3 q1 q2 q3 hkb
 cases hh : s.h
 case' true => exact prim_M L hG m s he h2 h3 q1 q2 q3 hkb hh
 cases q6 : isP s [91]
 ·exact prim_N L hG m s he h2 h3 q1 q2 q3 hkb hh q6
 ·exact prim_K L hG hE hd m hnm s hs he h2 h3 q1 q2 q3 hkb hh q6
theorem is_un {s : Ps} {t u : List UInt8} (h : isP s t = true) (hu : ¬ t = u) : isP s u = false := by
 have hx := (is_live h).2.2
 unfold isP
 rw [hx, decide_eq_false hu, Bool.and_false]
set_option maxHeartbeats 8000000 in
theorem stmt_v (L : List WordS) {E : EP} {S : SP} {n : Nat} (hG : GoodL L) (m : Nat) (hm : n < m) (s : Ps) (hs : mu s < n + 1) (qv : isP s [118, 97, 114] = true) :
 PR L 115 [] s (stV (stmtP E S m s).1) (stmtP E S m s).2 := by
 intro c B T i hc hok
 obtain ⟨N, hn⟩ : ∃ N, B.length = N := ⟨_, rfl⟩
 have hi : c < N := by omega
 obtain ⟨K, hK⟩ : ∃ K, stmtP E S m s = K := ⟨_, rfl⟩
 rw [hK]
 unfold stmtP at hK
 rw [got_yes qv (by rfl) (by rfl)] at hK
 dsimp only at hK
 refine b115.go 20 rfl fun hsm => ?_
 simp only [smw] at hsm
 simp only [W, seval, c115, hn, hi]
 have gv := take_pr L hG s [118, 97, 114]
 rw [got_yes qv (by rfl) (by rfl)] at gv
 refine PR.call gv hc hok fun hok1 => ?_
 have hlt : mu (nextP s) < mu s := next_lt s (is_live qv).1 (by have := (is_live qv).2.1; omega)
 generalize hs1 : nextP s = s1 at *
 refine ARun.go 20 ?_
 simp only [W, seval, c115, hn, hi]
 obtain ⟨⟨tx, s2⟩, hg_s2⟩ : ∃ r, nameP s1 = r := ⟨_, rfl⟩
 have hp_s2 := name_pr L hG s1
 rw [hg_s2] at hp_s2
 dsimp only at hp_s2
 first
  | refine PR.call0 hp_s2 hc hok1 fun hok2 => ?_
  | refine PR.call hp_s2 hc hok1 fun hok2 => ?_
 have hd2 := (dn_name hg_s2).le
 have htp := typ_pr L hG m s2 (by omega)
 obtain ⟨⟨y, s3⟩, hy⟩ : ∃ r, typP m s2 = r := ⟨_, rfl⟩
 rw [hg_s2] at hK
 dsimp only at hK
 rw [hy] at hK htp
 dsimp only at hK htp
 subst hK
 unfold tyV at htp
 refine ARun.go 40 ?_
 simp only [W, seval, c115, hn, hi, mapD_nil, mapD_cons, Nat.reduceMul]
 refine PR.call htp hc hok2 fun hok3 => ?_
 refine ARun.go 60 ?_
 simp only [W, seval, c115, hn, hi]
 refine retc (v := ?_) Tryz.func115 (by rfl) ?_ ?_
 rotate_left
 ·simp only [W, seval, c115, hn, hi]
  exact rfl
 refine PF.retJ (fun _ _ => rfl) ?_
 exact ⟨rfl, 0, hok3, rfl⟩
set_option maxHeartbeats 8000000 in
theorem stmt_i (L : List WordS) {E : EP} {S : SP} {n : Nat} (hG : GoodL L) (hE : EOr L E (n + 1)) (hdE : DnE E) (hS : SOr L S n) (hdS : DnE S) (m : Nat) (hm : n < m) (s : Ps) (hs : mu s < n + 1) (qv : isP s [118, 97, 114] = false) (qi : isP s [105, 102] = true) :
 PR L 115 [] s (stV (stmtP E S m s).1) (stmtP E S m s).2 := by
 intro c B T i hc hok
 obtain ⟨N, hn⟩ : ∃ N, B.length = N := ⟨_, rfl⟩
 have hi : c < N := by omega
 obtain ⟨K, hK⟩ : ∃ K, stmtP E S m s = K := ⟨_, rfl⟩
 rw [hK]
 unfold stmtP at hK
 rw [got_fl qv] at hK
 dsimp only at hK
 rw [got_yes qi (by rfl) (by rfl)] at hK
 dsimp only at hK
 refine b115.go 20 rfl fun hsm => ?_
 simp only [smw] at hsm
 simp only [W, seval, c115, hn, hi]
 have gv := take_pr L hG s [118, 97, 114]
 rw [got_fl qv] at gv
 refine PR.call gv hc hok fun _ => ?_
 refine ARun.go 20 ?_
 simp only [W, seval, c115, hn, hi]
 have gi := take_pr L hG s [105, 102]
 rw [got_yes qi (by rfl) (by rfl)] at gi
 refine PR.call gi hc hok fun hok1 => ?_
 have hlt : mu (nextP s) < mu s := next_lt s (is_live qi).1 (by have := (is_live qi).2.1; omega)
 generalize hs1 : nextP s = s1 at *
 obtain ⟨⟨x, s3⟩, hx⟩ : ∃ r, headP E s1 = r := ⟨_, rfl⟩
 have hhp := head_pr L hE s1 (by omega)
 have hd3 := (dn_head hdE hx).le
 rw [hx] at hhp hK
 dsimp only at hhp hK
 obtain ⟨⟨b1, s4⟩, hb1⟩ : ∃ r, blockP S m s3 = r := ⟨_, rfl⟩
 have hbp := block_pr L hG hS m s3 (by omega) (by omega)
 have hd4 := (dn_block hdS hb1).le
 rw [hb1] at hbp hK
 dsimp only at hbp hK
 refine ARun.go 20 ?_
 simp only [W, seval, c115, hn, hi]
 refine PR.call hhp hc hok1 fun hok3 => ?_
 refine ARun.go 40 ?_
 simp only [W, seval, c115, hn, hi]
 refine PR.call hbp hc hok3 fun hok4 => ?_
 refine ARun.go 40 ?_
 simp only [W, seval, c115, hn, hi]
 obtain ⟨⟨b, s5⟩, hg_s5⟩ : ∃ r, gotP s4 [101, 108, 115, 101] = r := ⟨_, rfl⟩
 have hp_s5 := take_pr L hG s4 [101, 108, 115, 101]
 rw [hg_s5] at hp_s5
 dsimp only at hp_s5
 first
  | refine PR.call0 hp_s5 hc hok4 fun hok5 => ?_
  | refine PR.call hp_s5 hc hok4 fun hok5 => ?_
 rw [hg_s5] at hK
 have hd5 := (dn_got hg_s5).le
 cases b
 case' true =>
  dsimp only at hK
  obtain ⟨⟨b2, s6⟩, hb2⟩ : ∃ r, blockP S m s5 = r := ⟨_, rfl⟩
  have hbp := block_pr L hG hS m s5 (by omega) (by omega)
  rw [hb2] at hbp hK
  dsimp only at hbp hK
  subst hK
  refine ARun.go 40 ?_
  simp only [W, seval, c115, hn, hi]
  refine PR.call hbp hc hok5 fun hok6 => ?_
  refine ARun.go 60 ?_
  simp only [W, seval, c115, hn, hi]
  refine retc (v := ?_) Tryz.func115 (by rfl) ?_ ?_
  rotate_left
  ·simp only [W, seval, c115, hn, hi]
   exact rfl
  refine PF.retJ (fun _ _ => rfl) ?_
  exact ⟨rfl, 0, hok6, rfl⟩
 case' false =>
  dsimp only at hK
  subst hK
  refine ARun.go 60 ?_
  simp only [W, seval, c115, hn, hi]
  refine retc (v := ?_) Tryz.func115 (by rfl) ?_ ?_
  rotate_left
  ·simp only [W, seval, c115, hn, hi]
   exact rfl
  refine PF.retJ (fun _ _ => rfl) ?_
  exact ⟨rfl, 0, hok5, rfl⟩
set_option maxHeartbeats 8000000 in
theorem stmt_f (L : List WordS) {E : EP} {S : SP} {n : Nat} (hG : GoodL L) (hE : EOr L E (n + 1)) (hdE : DnE E) (hS : SOr L S n) (m : Nat) (hm : n < m) (s : Ps) (hs : mu s < n + 1) (qv : isP s [118, 97, 114] = false) (qi : isP s [105, 102] = false) (qf : isP s [102, 111, 114] = true) :
 PR L 115 [] s (stV (stmtP E S m s).1) (stmtP E S m s).2 := by
 intro c B T i hc hok
 obtain ⟨N, hn⟩ : ∃ N, B.length = N := ⟨_, rfl⟩
 have hi : c < N := by omega
 obtain ⟨K, hK⟩ : ∃ K, stmtP E S m s = K := ⟨_, rfl⟩
 rw [hK]
 unfold stmtP at hK
 rw [got_fl qv] at hK
 dsimp only at hK
 rw [got_fl qi] at hK
 dsimp only at hK
 rw [got_yes qf (by rfl) (by rfl)] at hK
 dsimp only at hK
 refine b115.go 20 rfl fun hsm => ?_
 simp only [smw] at hsm
 simp only [W, seval, c115, hn, hi]
 have gv := take_pr L hG s [118, 97, 114]
 rw [got_fl qv] at gv
 refine PR.call gv hc hok fun _ => ?_
 refine ARun.go 20 ?_
 simp only [W, seval, c115, hn, hi]
 have gi := take_pr L hG s [105, 102]
 rw [got_fl qi] at gi
 refine PR.call gi hc hok fun _ => ?_
 refine ARun.go 20 ?_
 simp only [W, seval, c115, hn, hi]
 have gf := take_pr L hG s [102, 111, 114]
 rw [got_yes qf (by rfl) (by rfl)] at gf
 refine PR.call gf hc hok fun hok1 => ?_
 have hlt : mu (nextP s) < mu s := next_lt s (is_live qf).1 (by have := (is_live qf).2.1; omega)
 generalize hs1 : nextP s = s1 at *
 obtain ⟨⟨x, s3⟩, hx⟩ : ∃ r, headP E s1 = r := ⟨_, rfl⟩
 have hhp := head_pr L hE s1 (by omega)
 have hd3 := (dn_head hdE hx).le
 rw [hx] at hhp hK
 dsimp only at hhp hK
 obtain ⟨⟨b1, s4⟩, hb1⟩ : ∃ r, blockP S m s3 = r := ⟨_, rfl⟩
 have hbp := block_pr L hG hS m s3 (by omega) (by omega)
 rw [hb1] at hbp hK
 dsimp only at hbp hK
 subst hK
 refine ARun.go 20 ?_
 simp only [W, seval, c115, hn, hi]
 refine PR.call hhp hc hok1 fun hok3 => ?_
 refine ARun.go 40 ?_
 simp only [W, seval, c115, hn, hi]
 refine PR.call hbp hc hok3 fun hok4 => ?_
 refine ARun.go 60 ?_
 simp only [W, seval, c115, hn, hi]
 refine retc (v := ?_) Tryz.func115 (by rfl) ?_ ?_
 rotate_left
 ·simp only [W, seval, c115, hn, hi]
  exact rfl
 refine PF.retJ (fun _ _ => rfl) ?_
 exact ⟨rfl, 0, hok4, rfl⟩
set_option maxHeartbeats 8000000 in
theorem stmt_r (L : List WordS) {E : EP} {S : SP} {n : Nat} (hG : GoodL L) (hE : EOr L E (n + 1)) (hdE : DnE E) (m : Nat) (hm : n < m) (s : Ps) (hs : mu s < n + 1) (qv : isP s [118, 97, 114] = false) (qi : isP s [105, 102] = false) (qf : isP s [102, 111, 114] = false) (qr : isP s [114, 101, 116, 117, 114, 110] = true) :
 PR L 115 [] s (stV (stmtP E S m s).1) (stmtP E S m s).2 := by
 intro c B T i hc hok
 obtain ⟨N, hn⟩ : ∃ N, B.length = N := ⟨_, rfl⟩
 have hi : c < N := by omega
 obtain ⟨K, hK⟩ : ∃ K, stmtP E S m s = K := ⟨_, rfl⟩
 rw [hK]
 unfold stmtP at hK
 rw [got_fl qv] at hK
 dsimp only at hK
 rw [got_fl qi] at hK
 dsimp only at hK
 rw [got_fl qf] at hK
 dsimp only at hK
 rw [got_fl (is_un qr (by decide) : isP s [115, 119, 105, 116, 99, 104] = false)] at hK
 dsimp only at hK
 rw [got_yes qr (by rfl) (by rfl)] at hK
 dsimp only at hK
 refine b115.go 20 rfl fun hsm => ?_
 simp only [smw] at hsm
 simp only [W, seval, c115, hn, hi]
 have gv := take_pr L hG s [118, 97, 114]
 rw [got_fl qv] at gv
 refine PR.call gv hc hok fun _ => ?_
 refine ARun.go 20 ?_
 simp only [W, seval, c115, hn, hi]
 have gi := take_pr L hG s [105, 102]
 rw [got_fl qi] at gi
 refine PR.call gi hc hok fun _ => ?_
 refine ARun.go 20 ?_
 simp only [W, seval, c115, hn, hi]
 have gf := take_pr L hG s [102, 111, 114]
 rw [got_fl qf] at gf
 refine PR.call gf hc hok fun _ => ?_
 refine ARun.go 20 ?_
 simp only [W, seval, c115, hn, hi]
 have gr := take_pr L hG s [114, 101, 116, 117, 114, 110]
 rw [got_yes qr (by rfl) (by rfl)] at gr
 refine PR.call gr hc hok fun hok1 => ?_
 have hlt : mu (nextP s) < mu s := next_lt s (is_live qr).1 (by have := (is_live qr).2.1; omega)
 generalize hs1 : nextP s = s1 at *
 obtain ⟨⟨l, s6⟩, hL⟩ : ∃ r, valsP E m s1 = r := ⟨_, rfl⟩
 have hvp := exprs_pr L hG hE hdE m s1 (by omega) (by omega)
 rw [hL] at hvp hK
 dsimp only at hvp hK
 subst hK
 refine ARun.go 20 ?_
 simp only [W, seval, c115, hn, hi]
 refine PR.call hvp hc hok1 fun hok6 => ?_
 refine ARun.go 60 ?_
 simp only [W, seval, c115, hn, hi]
 refine retc (v := ?_) Tryz.func115 (by rfl) ?_ ?_
 rotate_left
 ·simp only [W, seval, c115, hn, hi]
  exact rfl
 refine PF.retJ (fun _ _ => rfl) ?_
 exact ⟨rfl, 0, hok6, rfl⟩
set_option maxHeartbeats 8000000 in
theorem stmt_s (L : List WordS) {E : EP} {S : SP} {n : Nat} (hG : GoodL L) (hE : EOr L E (n + 1)) (hdE : DnE E) (m : Nat) (hm : n < m) (s : Ps) (hs : mu s < n + 1) (qv : isP s [118, 97, 114] = false) (qi : isP s [105, 102] = false) (qf : isP s [102, 111, 114] = false) (qr : isP s [114, 101, 116, 117, 114, 110] = false) (qw : isP s [115, 119, 105, 116, 99, 104] = false) :
 PR L 115 [] s (stV (stmtP E S m s).1) (stmtP E S m s).2 := by
 intro c B T i hc hok
 obtain ⟨N, hn⟩ : ∃ N, B.length = N := ⟨_, rfl⟩
 have hi : c < N := by omega
 obtain ⟨t, ht⟩ : ∃ t, T.length = t := ⟨_, rfl⟩
 have hi2 : c < N + 2 := by omega
 have hN1 : N < N + 2 := by omega
 have hN2 : N + 1 < N + 2 := by omega
 have ht1 : t < t + 1 := by omega
 have hmu := hok.mu_le hG
 obtain ⟨K, hK⟩ : ∃ K, stmtP E S m s = K := ⟨_, rfl⟩
 rw [hK]
 unfold stmtP at hK
 rw [got_fl qv] at hK
 dsimp only at hK
 rw [got_fl qi] at hK
 dsimp only at hK
 rw [got_fl qf] at hK
 dsimp only at hK
 rw [got_fl qw] at hK
 dsimp only at hK
 rw [got_fl qr] at hK
 dsimp only at hK
 unfold setP at hK
 obtain ⟨⟨l0, s0⟩, hL⟩ : ∃ r, leftL m m s = r := ⟨_, rfl⟩
 rw [hL] at hK
 dsimp only at hK
 refine b115.go 0 rfl fun hsm => ?_
 simp only [smw] at hsm
 simp only [W, seval, c115, hn, hi]
 refine ARun.fits fun hf => ?_
 refine ARun.go 20 ?_
 simp only [W, seval, c115, hn, hi]
 have gv := take_pr L hG s [118, 97, 114]
 rw [got_fl qv] at gv
 refine PR.call gv hc hok fun _ => ?_
 refine ARun.go 20 ?_
 simp only [W, seval, c115, hn, hi]
 have gi := take_pr L hG s [105, 102]
 rw [got_fl qi] at gi
 refine PR.call gi hc hok fun _ => ?_
 refine ARun.go 20 ?_
 simp only [W, seval, c115, hn, hi]
 have gf := take_pr L hG s [102, 111, 114]
 rw [got_fl qf] at gf
 refine PR.call gf hc hok fun _ => ?_
 refine ARun.go 20 ?_
 simp only [W, seval, c115, hn, hi]
 have gr := take_pr L hG s [114, 101, 116, 117, 114, 110]
 rw [got_fl qr] at gr
 refine PR.call gr hc hok fun _ => ?_
 refine ARun.go 20 ?_
 simp only [W, seval, c115, hn, hi]
 have gw := take_pr L hG s [115, 119, 105, 116, 99, 104]
 rw [got_fl qw] at gw
 refine PR.call gw hc hok fun _ => ?_
 refine ARun.go 7 ?_
 simp only [W, seval, c115, hn, hi]
 refine ARun.tokenB (N + 1) 5 _ [] (by rw [bx_loc (by simpa using hn)]; rfl) (by rfl) 8 (by omega) rfl ?_
 rw [bx_set_loc (by simpa using hn)]
 change ARun _ _ _ _ _ _ ⟨B.set c (bxR L s) ++ [ze10, setL [] T.length], T ++ [(0, 8)]⟩ _
 rw [ht]
 refine ARun.go 8 ?_
 simp only [W, seval, c115]
 refine ARun.after [_, _] _ (fun _ : Unit => (envS 127 [(0, .ptr c 0), (2, .ptr N 0), (3, .ptr (N + 1) 0)], ⟨B.set c (bxR L s0) ++ [ze10, setL l0 t], T ++ [(l0.length, 8)]⟩)) (fun _ => OkR L s0 ∧ mu s0 ≤ mu s) ?_ ?_
 ·rintro ⟨⟩ ⟨hok0, hm0⟩
  have hd1 := (dn_want s0 [61]).le
  have hvp := exprs_pr L hG hE hdE m (wantP s0 [61]) (by omega) (by omega)
  obtain ⟨⟨v, s1⟩, hV⟩ : ∃ r, valsP E m (wantP s0 [61]) = r := ⟨_, rfl⟩
  rw [hV] at hK hvp
  dsimp only at hK hvp
  subst hK
  refine ARun.go 20 ?_
  simp only [W, seval, c115]
  first
   | refine PR.call0 (must_pr L hG s0 [61]) hc hok0 fun hok1 => ?_
   | refine PR.call (must_pr L hG s0 [61]) hc hok0 fun hok1 => ?_
  refine ARun.go 20 ?_
  simp only [W, seval, c115]
  refine PR.call hvp hc hok1 fun hok2 => ?_
  refine ARun.go 40 ?_
  simp only [W, seval, c115, hn, hi, setL, ze10]
  refine retc (v := ?_) Tryz.func115 (by rfl) ?_ ?_
  rotate_left
  ·simp only [W, seval, c115, hn, hi]
   exact rfl
  refine PF.ret (fun _ _ => rfl) ?_
  refine ⟨?_, 0, hok2, rfl⟩
  simp only [W, seval, c115, wk, wkL, stV, List.length_set, ht, Nat.lt_irrefl]
  rfl
 intro K' hend
 refine ARun.loopA (fun a : List ExT × Bool × Ps => (envS 127 [(0, .ptr c 0), (2, .ptr N 0), (3, .ptr (N + 1) 0), (5, .d (.bool a.2.1))], ⟨B.set c (bxR L a.2.2) ++ [ze10, setL a.1 t], T ++ [(a.1.length, 8)]⟩)) (fun a => OkR L a.2.2 ∧ mu a.2.2 ≤ mu s ∧ (a.2.1 = true → a.1.length + mu a.2.2 ≤ mu s ∧ ∃ k, mu a.2.2 < k ∧ (a.1 ++ (leftL m k a.2.2).1, (leftL m k a.2.2).2) = (l0, s0)) ∧ (a.2.1 = false → (a.1, a.2.2) = (l0, s0))) (fun a => if a.2.1 = true then mu a.2.2 + 1 else 0) ([], true, s) ⟨hok, Nat.le_refl _, fun _ => ⟨by simp, m, by dsimp only; omega, by dsimp only; rw [hL, List.nil_append]⟩, fun h => absurd h (by simp)⟩ ?_ rfl ?_
 ·skip
  refine Agree.env _ ?_
  simp only [agw, seval, hn]
 rintro ⟨l, b, s1⟩ ⟨hok1, hn2, hy, hno⟩ ih0
 dsimp only at hok1 hn2 hy hno ih0 ⊢
 cases b
 case' false =>
  obtain ⟨rfl, rfl⟩ := Prod.mk.inj (hno rfl)
  refine ARun.goK (k := [_, _, _]) 20 ?_
  simp only [W, seval, c115, hn, hi]
  refine hend () ⟨hok1, hn2⟩ _ _ ?_ rfl
  refine Agree.env _ ?_
  simp only [agw, seval, hn]
 case' true =>
  obtain ⟨hle, k, hk, hr⟩ := hy rfl
  cases k with
  | zero => omega
  | succ k =>
  rw [leftL] at hr
  refine ARun.goK (k := [_, _, _]) 20 ?_
  simp only [W, seval, c115, hn, hi]
  obtain ⟨⟨tx, s2⟩, hg_s2⟩ : ∃ r, nameP s1 = r := ⟨_, rfl⟩
  have hp_s2 := name_pr L hG s1
  rw [hg_s2] at hp_s2
  dsimp only at hp_s2
  first
   | refine PR.call0 hp_s2 hc hok1 fun hok2 => ?_
   | refine PR.call hp_s2 hc hok1 fun hok2 => ?_
  have hd2 := (dn_name hg_s2).le
  rw [hg_s2] at hr
  dsimp only at hr
  refine ARun.goK 20 ?_
  simp only [W, seval, c115, hn, hi]
  refine ARun.plainJ 2 _ (exL (.mk 1 tx 0 noT [] [])) (by rfl) (.same (.same (.same (.same (.same (.sl (.sl (.sl .nil)))))))) ?_
  obtain ⟨⟨y0, s3⟩, hY⟩ : ∃ r, dotL m (.mk 1 tx 0 noT [] []) s2 = r := ⟨_, rfl⟩
  rw [hY] at hr
  dsimp only at hr
  have hd3 := (dn_dot m hY).le
  refine ARun.after [_, _] _ (fun _ : Unit => (envS 127 [(0, .ptr c 0), (2, .ptr N 0), (3, .ptr (N + 1) 0), (6, .ptr (N + 2) 0)], ⟨B.set c (bxR L s3) ++ [ze10, setL l t, exL y0], T ++ [(l.length, 8)]⟩)) (fun _ => OkR L s3) ?_ ?_
  case' refine_2 =>
   intro K2 hend2
   refine ARun.loopW (fun a : ExT × Ps => (envS 127 [(0, .ptr c 0), (2, .ptr N 0), (3, .ptr (N + 1) 0), (6, .ptr (N + 2) 0)], ⟨B.set c (bxR L a.2) ++ [ze10, setL l t, exL a.1], T ++ [(l.length, 8)]⟩)) (fun a => OkR L a.2 ∧ ∃ q, mu a.2 < q ∧ dotL q a.1 a.2 = (y0, s3)) (fun a => mu a.2) (.mk 1 tx 0 noT [] [], s2) ⟨hok2, m, by dsimp only; omega, hY⟩ ?_ rfl ?_
   ·skip
    refine Agree.env _ ?_
    simp only [agw, seval, hn]
   rintro ⟨x, s4⟩ ⟨hok4, q, hq, hr4⟩ ih
   dsimp only at hok4 hq hr4 ih ⊢
   cases q with
   | zero => omega
   | succ q =>
   rw [dotL] at hr4
   refine ARun.goK (k := [_, _, _]) 20 ?_
   simp only [W, seval, c115, hn, hi]
   obtain ⟨⟨b, s5⟩, hg_s5⟩ : ∃ r, gotP s4 [46] = r := ⟨_, rfl⟩
   have hp_s5 := take_pr L hG s4 [46]
   rw [hg_s5] at hp_s5
   dsimp only at hp_s5
   first
    | refine PR.call0 hp_s5 hc hok4 fun hok5 => ?_
    | refine PR.call hp_s5 hc hok4 fun hok5 => ?_
   rw [hg_s5] at hr4
   cases b
   case' false =>
    dsimp only at hr4
    obtain ⟨rfl, rfl⟩ := Prod.mk.inj hr4
    refine ARun.goK 20 ?_
    simp only [W, seval, c115, hn, hi]
    refine hend2 () hok5 _ _ ?_ rfl
    refine Agree.env _ ?_
    simp only [agw, seval, hn]
   case' true =>
    have hlt := got_lt hg_s5
    dsimp only at hr4
    obtain ⟨⟨ty, s6⟩, hnm6⟩ : ∃ r, nameP s5 = r := ⟨_, rfl⟩
    have hpn := name_pr L hG s5
    have hdn := (dn_name hnm6).le
    rw [hnm6] at hpn hr4
    dsimp only at hpn hr4
    refine ARun.goK 5 ?_
    simp only [W, seval, c115, hn, hi]
    refine PR.wit hpn hc hok5 (ha0 (by rfl)) fun hok6 => ?_
    refine ARun.drawE 5 [1, 5] (fun S => S.boxes[N + 2]? = some (exL x)) (by kernel_rfl) (by kernel_rfl) (by kernel_rfl) (by kernel_rfl) (by kernel_rfl) ?_
    simp only [W, seval, c115]
    refine lexC_q (v := ?_) (by rfl) (by kernel_rfl) (fun S hS => ?_) ?_
    rotate_left
    ·simp only [W, seval, c115]
     exact rfl
    simp only [W, seval, c115]
    refine PR.lexc (hpn) hc hok5 hok6 ?_ (by rfl) (by kernel_rfl) ?_ ?_
    ·first | trivial | simp [bx_loc, bx_loc0, hn]
    ·simp only [W, seval, c115]
     exact ⟨_, _, rfl, rfl, by rfl, by simp only [W, seval, c115]⟩
    simp only [W, seval, c115]
    refine lexC_q (v := ?_) (by rfl) (by kernel_rfl) (fun S hS => ?_) ?_
    rotate_left
    ·try dsimp only at hS
     simp only [W, seval, c115, hS, exL]
     exact rfl
    simp only [W, seval, c115]
    refine lexC_q (v := ?_) (by rfl) (by kernel_rfl) (fun S hS => ?_) ?_
    rotate_left
    ·simp only [W, seval, c115, mapD_nil, mapD_cons, Nat.reduceMul, rows8]
     exact rfl
    simp only [W, seval, c115]
    refine lexC_q (v := ?_) (by rfl) (by kernel_rfl) (fun S hS => ?_) ?_
    rotate_left
    ·simp only [W, seval, c115]
     exact rfl
    simp only [W, seval, c115]
    refine lexC_end (by simp [bx_loc, hn]) ?_
    refine lexC_w (v := ?_) (S' := ?_) ?_ (by rfl) (by kernel_rfl) ?_ ?_
    rotate_left 2
    ·first | trivial | simp [bx_loc, bx_loc0, hn, exL]
    ·simp only [W, seval, c115, hn, exL]
     exact rfl
    simp only [W, seval, c115]
    refine lexC_end trivial ?_
    refine ARun.plainJ 2 _ (exL (.mk 9 ty 0 noT [] [x])) (by rfl) (.same (.same (.same (.same (.same (.sl (.sl (.sl .nil)))))))) ?_
    refine ARun.goK (k := [_, _]) 5 ?_
    simp only [W, seval, c115]
    refine ih (.mk 9 ty 0 noT [] [x], s6) ⟨hok6, q, by dsimp only; omega, hr4⟩ (by dsimp only; omega) _ _ ?_ rfl
    refine Agree.env _ ?_
    simp only [agw, seval, hn]
  rintro ⟨⟩ hok3
  have hcap : (l.length + 1) * 128 ≤ 140737488355328 := by omega
  have hmap : l.map exD ++ [exD y0] = (l ++ [y0]).map exD := by simp
  have hlen : (l ++ [y0]).length = l.length + 1 := by simp
  refine ARun.goK (k := [_, _, _, _]) 40 ?_
  simp only [W, seval, c115, hn, hi, ht, setL, exL, mapD_nil, mapD_cons, Nat.reduceMul, rows8, hcap, hmap, ex1]
  obtain ⟨⟨b, s5⟩, hg_s5⟩ : ∃ r, gotP s3 [44] = r := ⟨_, rfl⟩
  have hp_s5 := take_pr L hG s3 [44]
  rw [hg_s5] at hp_s5
  dsimp only at hp_s5
  first
   | refine PR.call0 hp_s5 hc hok3 fun hok5 => ?_
   | refine PR.call hp_s5 hc hok3 fun hok5 => ?_
  rw [hg_s5] at hr
  have hd5 := (dn_got hg_s5).le
  have hfit : ∀ b5 : Ps, Fits ⟨B.set c (bxR L b5) ++ [ze10, setL (l ++ [y0]) t], T ++ [((l ++ [y0]).length, 8)]⟩ := fun b5 => fits_pf2 hf (fun _ _ => rfl) (by
   intro vs hvs
   simp only [List.mem_cons, List.not_mem_nil, or_false] at hvs
   rcases hvs with rfl | rfl
   ·rfl
   ·simp [setL, fit, ht])
  cases b
  case' false =>
   dsimp only at hr
   obtain ⟨hr1, hr2⟩ := Prod.mk.inj hr
   refine ARun.goK 20 ?_
   simp only [W, seval, c115, hn, hi]
   refine ARun_split (J := [_, _]) (J2 := [_]) ?_
   refine ih0 (l ++ [y0], false, s5) ⟨hok5, by dsimp only; omega, fun h => absurd h (by simp), fun _ => by rw [hr1, hr2]⟩ (by simp) _ _ _ _ _ (by dsimp only; rw [hlen]; rfl) ⟨by simp; omega, by simp; omega⟩ (by rw [← hlen]; exact hfit s5) ?_
   refine AgreeF.env _ ?_
   simp only [agf, seval, hn, ht, hi2, hN1, hN2, ht1, List.length_append, List.length_cons, List.length_nil, Nat.zero_add]
  case' true =>
   have hlt := got_lt hg_s5
   dsimp only at hr
   refine ARun.goK 20 ?_
   simp only [W, seval, c115, hn, hi]
   refine ARun_split (J := [_, _]) (J2 := [_]) ?_
   refine ih0 (l ++ [y0], true, s5) ⟨hok5, by dsimp only; omega, fun _ => ⟨by dsimp only; omega, k, by dsimp only; omega, by rw [← hr]; simp⟩, fun h => absurd h (by simp)⟩ (by simp; omega) _ _ _ _ _ (by dsimp only; rw [hlen]; rfl) ⟨by simp; omega, by simp; omega⟩ (by rw [← hlen]; exact hfit s5) ?_
   refine AgreeF.env _ ?_
   simp only [agf, seval, hn, ht, hi2, hN1, hN2, ht1, List.length_append, List.length_cons, List.length_nil, Nat.zero_add]
def c135 := by
 have c := KK_of Tryz.f135 (by conv => lhs; cbv)
 dsimp only [KK, KxP, doO, opO, List.map_cons, List.map_nil, List.toList_toArray] at c
 exact c
theorem b135 : FnIs Tryz.prog 135 Tryz.f135 18 := ⟨Tryz.func135, by kernel_rfl⟩
def c154 := by
 have c := KK_of Tryz.f154 (by conv => lhs; cbv)
 dsimp only [KK, KxP, doO, opO, List.map_cons, List.map_nil, List.toList_toArray] at c
 exact c
theorem b154 : FnIs Tryz.prog 154 Tryz.f154 25 := ⟨Tryz.func154, by kernel_rfl⟩
def c87 := by
 have c := KK_of Tryz.f87 (by conv => lhs; cbv)
 dsimp only [KK, KxP, doO, opO, List.map_cons, List.map_nil, List.toList_toArray] at c
 exact c
theorem b87 : FnIs Tryz.prog 87 Tryz.f87 20 := ⟨Tryz.func87, by kernel_rfl⟩
def c147 := by
 have c := KK_of Tryz.f147 (by conv => lhs; cbv)
 dsimp only [KK, KxP, doO, opO, List.map_cons, List.map_nil, List.toList_toArray] at c
 exact c
theorem b147 : FnIs Tryz.prog 147 Tryz.f147 17 := ⟨Tryz.func147, by kernel_rfl⟩
theorem in_ab (s : List UInt8) (l : List (List UInt8)) (B : List (List V)) (T : List (Nat × Nat)) : AFn Tryz.prog TabI 135 [.d (.str s), .d (.sl (ssD l))] ⟨B, T⟩ (Same (.d (.bool (l.contains s))) ⟨B, T⟩) := by
 refine b135.go 40 rfl fun hsm => ?_
 simp only [smw] at hsm
 simp only [W, seval, c135]
 refine ARun.loopW (fun i : Nat => (envS 18 [(0, .d (.str s)), (1, .d (.sl (ssD l))), (5, .d (.int .i64 (i : Int)))], ⟨B, T⟩)) (fun i => i ≤ l.length ∧ (l.drop i).contains s = l.contains s) (fun i => l.length - i) 0 ⟨by omega, rfl⟩ ?_ rfl ?_
 ·skip
  refine Agree.env _ ?_
  simp only [agw, seval]
 rintro i ⟨h1, h2⟩ ih
 dsimp only at h1 h2 ih ⊢
 by_cases hlt : i < l.length
 ·have hw := wrap_in ((i : Int) + 1) (by omega)
  have hg := List.getElem?_eq_getElem hlt
  rw [drop_get hlt, List.contains_cons] at h2
  have hlt' : decide ((i : Int) < (l.length : Int)) = true := decide_eq_true (by omega)
  cases hb : decide (l[i] = s)
  ·have hb' : (s == l[i]) = false := beq_eq_false_iff_ne.2 fun e => of_decide_eq_false hb e.symm
   rw [hb', Bool.false_or] at h2
   refine ARun.go 100 ?_
   simp only [W, seval, c135, hg, hlt', hw, hb]
   refine ih (i + 1) ⟨by omega, h2⟩ (by omega) _ _ ?_ rfl
   refine Agree.env _ ?_
   simp only [agw, seval]
  ·have hb' : (s == l[i]) = true := beq_iff_eq.2 (of_decide_eq_true hb).symm
   rw [hb', Bool.true_or] at h2
   refine ARun.go 100 ?_
   simp only [W, seval, c135, hg, hlt', hw, hb]
   refine ARun.ret Tryz.func135 rfl (Left.none ?_)
   rw [← h2]
   exact ⟨rfl, rfl⟩
 ·have hlt' : decide ((i : Int) < (l.length : Int)) = false := decide_eq_false (by omega)
  rw [List.drop_eq_nil_of_le (by omega)] at h2
  refine ARun.go 100 ?_
  simp only [W, seval, c135, hlt']
  refine ARun.ret Tryz.func135 rfl (Left.none ?_)
  rw [← h2]
  exact ⟨rfl, rfl⟩
def rankLs : List (List (List UInt8)) := [[[124, 124]], [[38, 38]], [[61, 61], [33, 61], [60], [60, 61], [62], [62, 61]], [[43], [45], [124], [94]], [[42], [47], [37], [60, 60], [62, 62], [38]]]
def rankF (s : List UInt8) : List (List (List UInt8)) → Nat → Int
 | [], _ => 0
 | l :: ls, i => if l.contains s = true then ((i + 1 : Nat) : Int) else rankF s ls (i + 1)
theorem rankF_eq (s : List UInt8) : rankF s rankLs 0 = rankS s := by
 rcases rank_in s with ⟨x, hx, rfl⟩ | h
 ·have : ∀ x ∈ rankT, rankF x.1 rankLs 0 = rankS x.1 := by decide
  exact this x hx
 ·have h2 : rankS s = 0 := rank_no s fun x hx e => by simpa [e] using h x hx
  rw [h2]
  simp only [rankT, List.mem_cons, List.not_mem_nil, or_false, forall_eq_or_imp, forall_eq, beq_eq_false_iff_ne] at h
  simp [rankF, rankLs, h]
def slD (ls : List (List (List UInt8))) : List (List D) := ls.map fun l => [.sl (ssD l)]
set_option maxHeartbeats 2000000 in
theorem rankR_ab (s : List UInt8) (B : List (List V)) (T : List (Nat × Nat)) : AFn Tryz.prog TabI 154 [.d (.str s)] ⟨B, T⟩ (Same (.d (.int .i64 (rankS s))) ⟨B, T⟩) := by
 rw [← rankF_eq]
 refine b154.go 60 rfl fun hsm => ?_
 simp only [smw] at hsm
 simp only [W, seval, c154, mapD_nil, mapD_cons, mapD_sl, Nat.reduceMul]
 refine ARun.loopW (fun i : Nat => (envS 25 [(0, .d (.str s)), (3, .sl (slD rankLs) .full), (4, .d (.int .i64 (i : Int)))], ⟨B, T⟩)) (fun i => i ≤ 5 ∧ rankF s (rankLs.drop i) i = rankF s rankLs 0) (fun i => 5 - i) 0 ⟨by omega, rfl⟩ ?_ rfl ?_
 ·skip
  refine Agree.env _ ?_
  simp only [agw, seval]
  rfl
 rintro i ⟨h1, h2⟩ ih
 dsimp only at h1 h2 ih ⊢
 have hlen : (slD rankLs).length = 5 := rfl
 by_cases hi : i < 5
 ·have hd : decide ((i : Int) < 5) = true := decide_eq_true (by omega)
  have hw := wrap_in ((i : Int) + 1) (by omega)
  obtain ⟨l, hl⟩ : ∃ l, rankLs[i]? = some l := ⟨_, List.getElem?_eq_getElem (show i < rankLs.length from hi)⟩
  have hg : (slD rankLs)[i]? = some [.sl (ssD l)] := by simp [slD, hl]
  have hdr : rankLs.drop i = l :: rankLs.drop (i + 1) := by
   obtain ⟨h3, h4⟩ := List.getElem?_eq_some_iff.1 hl
   rw [← h4]
   exact drop_get h3
  rw [hdr, rankF] at h2
  refine ARun.go 40 ?_
  simp only [W, seval, c154, hlen, hd, hg]
  refine callS_fn (in_ab s l _ _) ?_
  rintro _ _ ⟨rfl, rfl⟩
  cases hc : l.contains s
  ·rw [hc, if_neg (by simp)] at h2
   refine ARun.go 60 ?_
   simp only [W, seval, c154, hw]
   refine ih (i + 1) ⟨by omega, h2⟩ (by omega) _ _ ?_ rfl
   refine Agree.env _ ?_
   simp only [agw, seval]
  ·rw [hc, if_pos rfl] at h2
   refine ARun.go 60 ?_
   simp only [W, seval, c154, hw]
   refine ARun.ret Tryz.func154 rfl (Left.none ?_)
   rw [← h2]
   exact ⟨rfl, rfl⟩
 ·have h8 : i = 5 := by omega
  subst h8
  have h3 : (0 : Int) = rankF s rankLs 0 := h2
  refine ARun.go 60 ?_
  simp only [W, seval, c154, hlen]
  refine ARun.ret Tryz.func154 rfl (Left.none ?_)
  rw [← h3]
  exact ⟨rfl, rfl⟩
def plusM (a b : Int) : Int := if a < 0 ∨ b < 0 ∨ 60000 < a + b then -1 else a + b
set_option maxHeartbeats 1000000 in
theorem plus_ab (a b : Int) (ha : a ≤ 60000) (hb : b ≤ 60000) (B : List (List V)) (T : List (Nat × Nat)) : AFn Tryz.prog TabI 87 [.d (.int .i64 a), .d (.int .i64 b)] ⟨B, T⟩ (Same (.d (.int .i64 (plusM a b))) ⟨B, T⟩) := by
 unfold plusM
 by_cases h1 : a < 0
 ·have e1 := decide_eq_true h1
  rw [if_pos (.inl h1)]
  refine b87.go 60 rfl fun hsm => ?_
  simp only [smw] at hsm
  simp only [W, seval, c87, e1]
  refine ARun.ret Tryz.func87 rfl (Left.none ?_)
  exact ⟨rfl, rfl⟩
 have e1 := decide_eq_false h1
 by_cases h2 : b < 0
 ·have e2 := decide_eq_true h2
  rw [if_pos (.inr (.inl h2))]
  refine b87.go 60 rfl fun hsm => ?_
  simp only [smw] at hsm
  simp only [W, seval, c87, e1, e2]
  refine ARun.ret Tryz.func87 rfl (Left.none ?_)
  exact ⟨rfl, rfl⟩
 have e2 := decide_eq_false h2
 have hw := wrap_in (a + b) (by omega)
 by_cases h3 : 60000 < a + b
 ·have e3 := decide_eq_true h3
  rw [if_pos (.inr (.inr h3))]
  refine b87.go 60 rfl fun hsm => ?_
  simp only [smw] at hsm
  simp only [W, seval, c87, e1, e2, hw, e3]
  refine ARun.ret Tryz.func87 rfl (Left.none ?_)
  exact ⟨rfl, rfl⟩
 have e3 := decide_eq_false h3
 rw [if_neg (by omega)]
 refine b87.go 60 rfl fun hsm => ?_
 simp only [smw] at hsm
 simp only [W, seval, c87, e1, e2, hw, e3]
 refine ARun.ret Tryz.func87 rfl (Left.none ?_)
 exact ⟨rfl, rfl⟩
theorem none_ab (t : TyT) (B : List (List V)) (T : List (Nat × Nat)) : AFn Tryz.prog TabI 147 [tyV t] ⟨B, T⟩ (Same (.d (.bool (zeroS t))) ⟨B, T⟩) := by
 obtain ⟨N, hn⟩ : ∃ N, B.length = N := ⟨_, rfl⟩
 unfold tyV zeroS
 have hl0 : decide ((t.elem.length : Int) = 0) = decide (t.elem.length = 0) := by
  rw [decide_eq_decide]; omega
 cases e1 : decide (t.kind = 0) <;> cases e2 : decide (t.name = [])
 all_goals
  refine b147.go 60 rfl fun hsm => ?_
  simp only [smw] at hsm
  simp only [W, seval, c147, hn, e1, e2, hl0]
  refine ARun.ret Tryz.func147 rfl (Left.box ?_)
  first | exact ⟨rfl, rfl⟩ | (refine ⟨?_, rfl⟩; simp_all)
end Go.Proofs.YtnnnhlkmdnacaaaGreatDoor
namespace Go.Ab
open Go.RowKit Go.Av
theorem LessL.refl (vs : List V) : LessL vs vs := ⟨rfl, fun _ _ _ => .inl rfl⟩
theorem LessL.append {a b c d : List V} (h : LessL a b) (k : LessL c d) : LessL (a ++ c) (b ++ d) := by
 refine ⟨by simp [h.1, k.1], fun j hj hj' => ?_⟩
 by_cases hl : j < a.length
 ·have hl' : j < b.length := by rw [h.1]; exact hl
  rw [List.getElem_append_left hl, List.getElem_append_left hl']
  exact h.2 j hl hl'
 ·have hl' : ¬ j < b.length := by rw [h.1]; exact hl
  have e := h.1
  simp only [List.getElem_append_right (Nat.le_of_not_lt hl), List.getElem_append_right (Nat.le_of_not_lt hl'), e]
  exact k.2 _ _ _
theorem ARun.nilJ {P : Program} {I : Inv} {z : Nat × Nat} {fn : FuncId} {R : V → Mem → Prop} {k : List Item} {env : List V} {L : List (List V)} {T : List (Nat × Nat)} (h : ARun P I z fn k env ⟨L ++ [], T⟩ R) : ARun P I z fn k env ⟨L, T⟩ R := by rwa [List.append_nil] at h
theorem toD_bx (i n cap : Nat) : toD (.bx i n cap) = none := rfl
theorem lenB_bx (e a b : Nat) (g : Bool) (z : List V) (i n cap : Nat) : opLenB ⟨.slice e, a, b, g, z⟩ (.bx i n cap) = some (.d (.int .i64 (n : Int))) := rfl
theorem idxB_bx (P : Program) (e a b : Nat) (g : Bool) (z : List V) (i n cap : Nat) (k : Int) : opIdxB P ⟨.slice e, a, b, g, z⟩ (.bx i n cap) k = match tyOf P e with
 | some te => if 0 ≤ k ∧ k < (n : Int) then some (.ptr i (k.toNat * te.size)) else none
 | none => none := rfl
theorem BxIs.storeL {P : Program} {L G : List (List V)} {T : List (Nat × Nat)} {t : TypeId} {te : TyI} {rows : List (List D)} {v : V} {i k cap j : Nat} {r : List D} {vs : List V} (hte : tyOf P t = some te) (h : BxIs L.length te.size G rows v) (hv : v = .bx i k cap) (hj : j < rows.length) (hr : r.length = te.size) (hl : LessL vs (r.map .d)) :
 ∃ X Y G', opStore P ⟨L ++ G, T⟩ t (.ptr i (j * te.size)) (.agg vs) = some (.undef, ⟨(L ++ G).set i X, T⟩) ∧ ((L ++ G).set i X)[i]? = some X ∧ LessL X Y ∧ ((L ++ G).set i X).set i Y = L ++ G' ∧ BxIs L.length te.size G' (rows.set j r) v := by
 obtain ⟨G', h1, h2⟩ := h.store (P := P) (T := T) hte hv hj hr
 unfold opStore at h1
 simp only [hte, cellsV] at h1
 split at h1
 case h_2 => cases h1
 rename_i us hus
 have hi := (List.getElem?_eq_some_iff.1 hus).1
 split at h1
 case isFalse => cases h1
 rename_i hc
 obtain ⟨_, h3⟩ := Prod.mk.inj (Option.some.inj h1)
 obtain ⟨h4, _⟩ := Mem.mk.inj h3
 have hlen : vs.length = (r.map V.d).length := hl.1.symm
 refine ⟨us.take (j * te.size) ++ vs ++ us.drop (j * te.size + vs.length), us.take (j * te.size) ++ r.map .d ++ us.drop (j * te.size + (r.map V.d).length), G', ?_, ?_, ?_, ?_, h2⟩
 ·unfold opStore
  simp only [hte, cellsV, hus]
  rw [if_pos ⟨by rw [hlen]; exact hc.1, hc.2⟩]
 ·exact List.getElem?_set_self hi
 ·rw [hlen]
  exact ((LessL.refl _).append hl).append (.refl _)
 ·rw [List.set_set]
  exact h4
end Go.Ab
namespace Go.Proofs.YtnnnhlkmdnacaaaGreatDoor
open Go.RowKit Go.Av Go.Ab
set_option linter.unusedSimpArgs false
set_option maxRecDepth 100000
set_option linter.defProp false
def c155 := by
 have c := KK_of Tryz.f155 (by conv => lhs; cbv)
 dsimp only [KK, KxP, doO, opO, List.map_cons, List.map_nil, List.toList_toArray] at c
 exact c
theorem b155 : FnIs Tryz.prog 155 Tryz.f155 76 := ⟨Tryz.func155, by kernel_rfl⟩
def passG (r : Int) : List ExT → ExT → List (List UInt8) → SgL → List ExT × List (List UInt8)
 | pre, cur, left, [] => (pre ++ [cur], left)
 | pre, cur, left, (g, y) :: l => if rankS g = r then passG r pre (.mk 6 g 0 noT [] [cur, y]) left l else passG r (pre ++ [cur]) y (left ++ [g]) l
theorem passG_eq (r : Int) : ∀ (l : SgL) (pre : List ExT) (cur : ExT) (left : List (List UInt8)), passG r pre cur left l = (pre ++ (passT r cur l).1 :: (passT r cur l).2.map (·.2), left ++ (passT r cur l).2.map (·.1))
 | [], pre, cur, left => by simp [passG, passT_nil]
 | (g, y) :: l, pre, cur, left => by
  rw [passG]
  by_cases h : rankS g = r
  ·rw [if_pos h, passT_yes h, passG_eq r l]
  ·rw [if_neg h, passT_no h, passG_eq r l]
   simp
theorem passT_len (r : Int) : ∀ (l : SgL) (x : ExT), (passT r x l).2.length ≤ l.length
 | [], x => by simp [passT_nil]
 | (g, y) :: l, x => by
  by_cases h : rankS g = r
  ·rw [passT_yes h]
   have := passT_len r l (.mk 6 g 0 noT [] [x, y])
   simp only [List.length_cons]
   omega
  ·rw [passT_no h]
   have := passT_len r l y
   simp only [List.length_cons]
   omega
def ze8 : List V := [.d (.int .i64 0), .d (.str []), .d (.int .u64 0), .d (.int .i64 0), .d (.str []), .sl [] .full, .sl [] .full, .sl [] .full]
def opsD (x : ExT) (L : SgL) : List (List D) := (x :: L.map (·.2)).map exD
def sgsD (L : SgL) : List (List D) := ssD (L.map (·.1))
theorem fits_bx {G : List (List V)} {rows : List (List D)} {v : V} {T : List (Nat × Nat)} (h : BxIs 1 8 G rows v) : Fits ⟨ze8 :: G, T⟩ := by
 intro vs hvs
 rcases List.mem_cons.1 hvs with rfl | h'
 ·rfl
 ·exact all_mono (Nat.zero_le _) (Nat.zero_le _) (h.fits vs h')
set_option maxHeartbeats 8000000 in
theorem build_ab (x0 : ExT) (L0 : SgL) (hL0 : L0.length ≤ 200000) : AFn Tryz.prog TabI 155 [.d (.sl (opsD x0 L0)), .d (.sl (sgsD L0))] ⟨[], []⟩ (Same (exV (passK 5 x0 L0).1) ⟨[], []⟩) := by
 refine b155.go 20 rfl fun hsm => ?_
 simp only [smw] at hsm
 simp only [W, seval, c155]
 change ARun _ _ _ _ _ _ ⟨[ze8], []⟩ _
 refine ARun.after [_, _] _ (fun a : SgL => (envS 76 [(0, .d (.sl (opsD (passK 5 x0 L0).1 a))), (4, .ptr 0 0)], ⟨[ze8], []⟩)) (fun _ => True) ?_ ?_
 ·rintro L -
  have hg : (opsD (passK 5 x0 L0).1 L)[0]? = some (exD (passK 5 x0 L0).1) := rfl
  rw [exD_eq] at hg
  refine ARun.go 40 ?_
  simp only [W, seval, c155, hg, ze8]
  refine retc (v := ?_) Tryz.func155 (by rfl) ?_ ?_
  rotate_left
  ·simp only [W, seval, c155, ze8]
   exact rfl
  refine Left.empty ?_
  refine ⟨?_, rfl⟩
  simp only [W, seval, c155, wk, wkL, exV]
 intro K' hend
 refine ARun.loopA (fun k : Nat => (envS 76 [(0, .d (.sl (opsD (passK k x0 L0).1 (passK k x0 L0).2))), (1, .d (.sl (sgsD (passK k x0 L0).2))), (4, .ptr 0 0), (5, .d (.int .i64 (5 - (k : Int))))], ⟨[ze8], []⟩)) (fun k => k ≤ 5 ∧ (passK k x0 L0).2.length ≤ 200000) (fun k => 5 - k) 0 ⟨by omega, hL0⟩ ?_ rfl ?_
 ·skip
  refine Agree.env _ ?_
  simp only [agw, seval]
  all_goals first | rfl | exact ⟨rfl, rfl⟩
 rintro k ⟨hk5, hlen⟩ ih
 dsimp only at hk5 hlen ih ⊢
 obtain ⟨⟨x, L⟩, hx⟩ : ∃ r, passK k x0 L0 = r := ⟨_, rfl⟩
 rw [hx] at hlen ⊢
 dsimp only at hlen ⊢
 by_cases hk : k < 5
 case neg =>
  obtain rfl : k = 5 := by omega
  have h5 : (passK 5 x0 L0).1 = x := by rw [hx]
  rw [h5] at hend ⊢
  refine ARun.goK (k := [_, _, _]) 60 ?_
  simp only [W, seval, c155]
  refine hend L trivial _ _ ?_ rfl
  refine Agree.env _ ?_
  simp only [agw, seval]
 have hd : decide ((1 : Int) ≤ 5 - (k : Int)) = true := decide_eq_true (by omega)
 have hg : (opsD x L)[0]? = some (exD x) := rfl
 obtain ⟨⟨x', L'⟩, hxL⟩ : ∃ r, passT (5 - (k : Int)) x L = r := ⟨_, rfl⟩
 have hk1 : passK (k + 1) x0 L0 = (x', L') := by rw [passK, hx]; exact hxL
 have hpass : passG (5 - (k : Int)) [] x [] L = (x' :: L'.map (·.2), L'.map (·.1)) := by rw [passG_eq, hxL]; rfl
 have hlen' : L'.length ≤ L.length := by
  have := passT_len (5 - (k : Int)) L x
  rw [hxL] at this
  exact this
 have hr1 := wrap_in (5 - (k : Int) - 1) (by omega)
 refine ARun.goK (k := [_, _, _]) 25 ?_
 simp only [W, seval, c155, hd, hg, exD_eq x, mapD_nil, mapD_cons, Nat.reduceMul]
 refine OpR.step (ops := opsOf (kF Tryz.f155 20)) (i := 5) (o := opAt (opsOf (kF Tryz.f155 20)) 5) (by kernel_rfl) (.inl (by kernel_rfl)) (OpR.appB (L := [ze8]) (G := []) (s := .sl [] .full) (x := .sl [exD x] .full) (rows := []) (r := exD x) (so := .tmp 14) (xo := .tmp 18) (by kernel_rfl) ty41 rfl ty43 ty41 ⟨_, rfl⟩ (by rfl) (by rw [exD_eq]; rfl) (.inl ⟨rfl, rfl, rfl⟩) rfl (by rw [exD_eq]; rfl) (by decide) (by decide)) ?_
 rintro _ _ ⟨G1, rfl, hB1, j1, k1, cap1, rfl⟩
 have hd5 : (opAt (opsOf (kF Tryz.f155 20)) 5).dst = some 19 := by kernel_rfl
 rw [hd5]
 refine ARun.goK (k := [_, _, _, _, _, _]) 2 ?_
 simp only [W, seval, c155]
 refine ARun.token 7 [] (by rfl) 1 (by omega) rfl ?_
 simp only [envS_put]
 change ARun _ _ _ _ _ _ ⟨ze8 :: G1, [(0, 1)]⟩ _
 refine ARun.goK (k := [_, _, _, _, _]) 12 ?_
 simp only [W, seval, c155, List.length_nil]
 refine ARun.after [_, _] _ (fun a : List (List V) × V => (envS 76 [(4, .ptr 0 0), (5, .d (.int .i64 (5 - (k : Int)))), (6, a.2), (7, .sl (sgsD L') (.own 0))], ⟨ze8 :: a.1, [(L'.length, 1)]⟩)) (fun a => BxIs 1 8 a.1 (opsD x' L') a.2 ∧ ∃ i k cap, a.2 = .bx i k cap) ?_ ?_
 ·rintro ⟨G, v⟩ ⟨hB, j, kk, cap, hv⟩
  dsimp only at hB hv ⊢
  subst hv
  refine ARun.goK (k := [_, _, _, _, _]) 20 ?_
  simp only [W, seval, c155, hr1]
  have hj := hB.lt rfl
  have hkl := hB.len rfl
  have hjn : ¬ j < 1 := by
   rcases hB with ⟨_, h1, h2⟩ | ⟨G0, cap2, _, h2, _⟩
   ·cases h2
   ·cases h2; omega
  have hmem : ze8 :: G = [ze8] ++ (G ++ []) := by simp
  rw [hmem]
  refine ARun.freeze (by omega) (i := j) (sz := 8) (rows := opsD x' L') (len := kk) (cap := cap) hB ⟨by simp, by simp⟩ ?_
  rw [envS_map _ _ (by simp [frz])]
  simp only [List.map_cons, List.map_nil, frz, ze8, List.length_cons, List.length_nil, Nat.zero_add, hjn, if_false, hkl, and_self, if_true, Nat.lt_irrefl, Nat.lt_succ_self, Nat.zero_lt_one]
  refine ARun.plainS 1 (sgsD L') (.own 0) (by rfl) ?_
  simp only [envS_put]
  have h1 : passK (k + 1) x0 L0 = (x', L') := hk1
  refine ih (k + 1) ⟨by omega, by rw [hk1]; dsimp only; omega⟩ (by omega) _ [ze8] [] [] _ rfl ⟨by simp, by simp⟩ (fun vs hvs => by obtain rfl := List.mem_singleton.1 hvs; rfl) ?_
  rw [hk1]
  refine AgreeF.env _ ?_
  simp only [agf, seval, Nat.zero_lt_one, List.length_cons, List.length_nil]
  rw [show (5 - (k : Int) - 1) = 5 - ((k : Int) + 1) by omega]
 intro K2 hend2
 refine ARun.loopB (fun a : ((List ExT × ExT) × (List (List UInt8) × Nat)) × (List (List V) × V) => (envS 76 [(0, .d (.sl (opsD x L))), (1, .d (.sl (sgsD L))), (4, .ptr 0 0), (5, .d (.int .i64 (5 - (k : Int)))), (6, a.2.2), (7, .sl (ssD a.1.2.1) (.own 0)), (8, .d (.int .i64 (a.1.2.2 : Int)))], ⟨ze8 :: a.2.1, [(a.1.2.1.length, 1)]⟩))
  (fun a => a.1.2.2 ≤ L.length ∧ BxIs 1 8 a.2.1 ((a.1.1.1 ++ [a.1.1.2]).map exD) a.2.2 ∧ (∃ i k cap, a.2.2 = .bx i k cap) ∧ passG (5 - (k : Int)) a.1.1.1 a.1.1.2 a.1.2.1 (L.drop a.1.2.2) = (x' :: L'.map (·.2), L'.map (·.1)) ∧ a.1.1.1.length ≤ a.1.2.2 ∧ a.1.2.1.length ≤ a.1.2.2)
  (fun a => L.length - a.1.2.2) ((([], x), ([], 0)), (G1, .bx j1 k1 cap1)) ⟨by simp, by simpa using hB1, ⟨_, _, _, rfl⟩, hpass, by simp, by simp⟩ ?_ rfl ?_
 ·skip
  refine Agree.env _ ?_
  simp only [agw, seval]
  rfl
 rintro ⟨⟨⟨pre, cur⟩, left, i⟩, G, v⟩ ⟨hiL, hB, ⟨j, kk, cap, hv⟩, hp, hpl, hll⟩ ih2
 dsimp only at hiL hB hv hp hpl hll ih2 ⊢
 subst hv
 have hj := hB.lt rfl
 have hkl := hB.len rfl
 simp only [List.length_map, List.length_append, List.length_cons, List.length_nil, Nat.zero_add] at hkl
 subst hkl
 have hls : (sgsD L).length = L.length := by simp [sgsD, ssD]
 by_cases hlt : i < L.length
 case neg =>
  have e1 : decide ((i : Int) < (L.length : Int)) = false := decide_eq_false (by omega)
  rw [List.drop_eq_nil_of_le (by omega), passG] at hp
  obtain ⟨hp1, hp2⟩ := Prod.mk.inj hp
  subst hp2
  refine ARun.goK (k := [_, _, _]) 60 ?_
  simp only [W, seval, c155, hls, e1]
  refine hend2 (G, .bx j (pre.length + 1) cap) ⟨by dsimp only [opsD]; rw [← hp1]; exact hB, _, _, _, rfl⟩ _ _ ?_ (by simp)
  refine Agree.env _ ?_
  simp only [agw, seval]
  rfl
 have e1 : decide ((i : Int) < (L.length : Int)) = true := decide_eq_true (by omega)
 obtain ⟨⟨g, y⟩, hLi⟩ : ∃ z, L[i]? = some z := ⟨_, List.getElem?_eq_getElem hlt⟩
 have hdr : L.drop i = (g, y) :: L.drop (i + 1) := by
  obtain ⟨h3, h4⟩ := List.getElem?_eq_some_iff.1 hLi
  rw [← h4]
  exact drop_get h3
 have hg1 : (sgsD L)[i]? = some [.str g] := by simp [sgsD, ssD, hLi]
 have hg2 : (opsD x L)[i + 1]? = some (exD y) := by simp [opsD, hLi]
 have hw1 := wrap_in ((i : Int) + 1) (by omega)
 have hti : ((i : Int) + 1).toNat = i + 1 := by omega
 have h0i : (0 : Int) ≤ (i : Int) + 1 := by omega
 rw [hdr, passG] at hp
 refine ARun.goK (k := [_, _, _]) 40 ?_
 simp only [W, seval, c155, hls, e1, hg1]
 refine callS_fn (rankR_ab g _ _) ?_
 rintro _ _ ⟨rfl, rfl⟩
 by_cases hrk : rankS g = 5 - (k : Int)
 case pos =>
  rw [if_pos hrk] at hp
  have hdk := decide_eq_true hrk
  have hwk : IntKind.i64.wrap ((pre.length : Int) + 1 - 1) = (pre.length : Int) := by rw [wrap_in _ (by omega)]; omega
  have h0p : (0 : Int) ≤ (pre.length : Int) := by omega
  have hlp : (pre.length : Int) < (pre.length : Int) + 1 := by omega
  refine ARun.goK (k := [_, _, _, _, _, _]) 11 ?_
  simp only [W, seval, c155, hdk, toD_bx, lenB_bx, idxB_bx, hwk, h0p, hlp, and_self, if_true, Int.toNat_natCast]
  have hload := BxIs.load (P := Tryz.prog) (L := [ze8]) (T := [(left.length, 1)]) (r := exD cur) (j := pre.length) ty43 rfl hB rfl (by simp)
  rw [exD_eq cur] at hload
  refine ARun.op (ops := opsOf (kF Tryz.f155 38)) (i := 5) (o := opAt (opsOf (kF Tryz.f155 38)) 5) (by kernel_rfl) (.inl (by kernel_rfl)) (Eq.trans (by kernel_rfl) (congrArg (Option.map fun v => (v, (⟨ze8 :: G, [(left.length, 1)]⟩ : Mem))) hload)) ?_
  have hd38 : (opAt (opsOf (kF Tryz.f155 38)) 5).dst = some 38 := by kernel_rfl
  rw [hd38]
  obtain ⟨Bx, hBx⟩ : ∃ Bx, ze8 :: G = Bx := ⟨_, rfl⟩
  obtain ⟨N, hN⟩ : ∃ N, Bx.length = N := ⟨_, rfl⟩
  rw [hBx]
  refine ARun.goK (k := [_, _, _, _, _, _]) 6 ?_
  simp only [W, seval, c155, hN, List.map_cons, List.map_nil]
  change ARun _ _ _ _ _ _ ⟨Bx ++ [exL cur], [(left.length, 1)]⟩ _
  refine ARun.drawE 17 [17] (fun S => S.boxes[N]? = some (exL cur)) (by kernel_rfl) (by kernel_rfl) (by kernel_rfl) (by kernel_rfl) (by kernel_rfl) ?_
  simp only [W, seval, c155]
  refine lexC_q (v := ?_) (by rfl) (by kernel_rfl) (fun S hS => ?_) ?_
  rotate_left
  ·simp only [W, seval, c155]
   exact rfl
  simp only [W, seval, c155]
  refine lexC_q (v := ?_) (by rfl) (by kernel_rfl) (fun S hS => ?_) ?_
  rotate_left
  ·simp only [W, seval, c155]
   exact rfl
  simp only [W, seval, c155]
  refine lexC_q (v := ?_) (by rfl) (by kernel_rfl) (fun S hS => ?_) ?_
  rotate_left
  ·simp only [W, seval, c155, toD_bx, lenB_bx]
   exact rfl
  simp only [W, seval, c155]
  refine lexC_q (v := ?_) (by rfl) (by kernel_rfl) (fun S hS => ?_) ?_
  rotate_left
  ·simp only [W, seval, c155, hwk]
   exact rfl
  simp only [W, seval, c155]
  refine lexC_q (v := ?_) (by rfl) (by kernel_rfl) (fun S hS => ?_) ?_
  rotate_left
  ·simp only [W, seval, c155]
   exact rfl
  simp only [W, seval, c155]
  refine lexC_q (v := ?_) (by rfl) (by kernel_rfl) (fun S hS => ?_) ?_
  rotate_left
  ·simp only [W, seval, c155]
   exact rfl
  simp only [W, seval, c155]
  refine lexC_q (v := ?_) (by rfl) (by kernel_rfl) (fun S hS => ?_) ?_
  rotate_left
  ·simp only [W, seval, c155, hg1]
   exact rfl
  simp only [W, seval, c155]
  refine lexC_q (v := ?_) (by rfl) (by kernel_rfl) (fun S hS => ?_) ?_
  rotate_left
  ·simp only [W, seval, c155]
   exact rfl
  simp only [W, seval, c155]
  refine lexC_q (v := ?_) (by rfl) (by kernel_rfl) (fun S hS => ?_) ?_
  rotate_left
  ·try dsimp only at hS
   simp only [W, seval, c155, hS, exL]
   exact rfl
  simp only [W, seval, c155]
  refine lexC_q (v := ?_) (by rfl) (by kernel_rfl) (fun S hS => ?_) ?_
  rotate_left
  ·simp only [W, seval, c155]
   exact rfl
  simp only [W, seval, c155]
  refine lexC_q (v := ?_) (by rfl) (by kernel_rfl) (fun S hS => ?_) ?_
  rotate_left
  ·simp only [W, seval, c155]
   exact rfl
  simp only [W, seval, c155]
  refine lexC_q (v := ?_) (by rfl) (by kernel_rfl) (fun S hS => ?_) ?_
  rotate_left
  ·simp only [W, seval, c155, hw1]
   exact rfl
  simp only [W, seval, c155]
  refine lexC_q (v := ?_) (by rfl) (by kernel_rfl) (fun S hS => ?_) ?_
  rotate_left
  ·simp only [W, seval, c155, hti, h0i, hg2, exD_eq y]
   exact rfl
  simp only [W, seval, c155]
  refine lexC_q (v := ?_) (by rfl) (by kernel_rfl) (fun S hS => ?_) ?_
  rotate_left
  ·simp only [W, seval, c155]
   exact rfl
  simp only [W, seval, c155]
  refine lexC_q (v := ?_) (by rfl) (by kernel_rfl) (fun S hS => ?_) ?_
  rotate_left
  ·simp only [W, seval, c155, mapD_nil, mapD_cons, Nat.reduceMul, rows8]
   exact rfl
  simp only [W, seval, c155]
  refine lexC_q (v := ?_) (by rfl) (by kernel_rfl) (fun S hS => ?_) ?_
  rotate_left
  ·simp only [W, seval, c155]
   exact rfl
  simp only [W, seval, c155]
  refine lexC_q (v := ?_) (by rfl) (by kernel_rfl) (fun S hS => ?_) ?_
  rotate_left
  ·simp only [W, seval, c155, toD_bx, idxB_bx, h0p, hlp, and_self, if_true, Int.toNat_natCast]
   exact rfl
  simp only [W, seval, c155]
  refine lexC_end (by simp [bx_loc0 hN]) ?_
  have hjB : j < Bx.length := by rw [← hBx]; simp only [List.length_cons]; omega
  have hcr : exD (.mk 6 g 0 noT [] [cur, y]) = [.int .i64 6, .str g, .int .u64 0, .int .i64 0, .str [], .sl [], .sl [], .sl [exD cur, exD y]] := by rw [exD_eq (.mk 6 g 0 noT [] [cur, y])]; rfl
  obtain ⟨cur', hc'⟩ : ∃ c, ExT.mk 6 g 0 noT [] [cur, y] = c := ⟨_, rfl⟩
  rw [hc'] at hcr hp
  obtain ⟨X, Y, G', hs1, hs2, hs3, hs4, hs5⟩ := BxIs.storeL (P := Tryz.prog) (L := [ze8]) (T := [(left.length, 1)]) (j := pre.length) (r := exD cur') (vs := [.d (.int .i64 6), .d (.str g), .d (.int .u64 0), .d (.int .i64 0), .d (.str []), .sl [] .full, .sl [] .full, .sl [exD cur, exD y] .full]) ty43 hB rfl (by simp) (by rw [hcr]; rfl) (by rw [hcr]; exact .same (.same (.same (.same (.same (.sl (.sl (.sl .nil))))))))
  have hst := opStore_app (J := [exL cur]) hs1
  rw [show [ze8] ++ G = Bx from hBx] at hst hs2 hs4
  refine lexC_w (v := .undef) trivial (by rfl) (by kernel_rfl) (Eq.trans (by kernel_rfl) hst) ?_
  simp only [W, seval, c155]
  refine lexC_end trivial ?_
  refine ARun.plainB j X Y (by rw [List.getElem?_append_left (by simpa using hjB)]; exact hs2) hs3 ?_
  rw [List.set_append_left _ _ (by simpa using hjB), hs4]
  have hset : ((pre ++ [cur]).map exD).set pre.length (exD cur') = (pre ++ [cur']).map exD := by
   rw [List.map_append, List.set_append_right _ _ (by simp)]
   simp
  rw [hset] at hs5
  have hj5 : j < 1 + G'.length := hs5.lt rfl
  refine ARun.goK (k := [_, _, _, _]) 12 ?_
  simp only [W, seval, c155, hw1]
  refine ih2 (((pre, cur'), (left, i + 1)), (G', .bx j (pre.length + 1) cap)) ⟨by dsimp only; omega, hs5, ⟨_, _, _, rfl⟩, hp, by dsimp only; omega, by dsimp only; omega⟩ (by dsimp only; omega) _ (ze8 :: G') [exL cur] _ rfl ⟨by simp, by simp⟩ (fits_bx hs5) ?_
  have hj6 : j < G'.length + 1 := by omega
  refine AgreeF.env _ ?_
  simp only [agf, seval, List.length_cons, List.length_nil, hj6, Nat.zero_lt_one, Nat.zero_add, Nat.succ_pos]
  done
 rw [if_neg hrk] at hp
 have hdk := decide_eq_false hrk
 have hcap : (left.length + 1) * 16 ≤ 140737488355328 := by omega
 refine ARun.goK (k := [_, _, _, _, _, _]) 13 ?_
 simp only [W, seval, c155, hdk, hw1, hti, h0i, hg2, exD_eq y, mapD_nil, mapD_cons, Nat.reduceMul]
 refine OpR.step (ops := opsOf (kF Tryz.f155 41)) (i := 7) (o := opAt (opsOf (kF Tryz.f155 41)) 7) (by kernel_rfl) (.inl (by kernel_rfl)) (OpR.appB (L := [ze8]) (G := G) (s := .bx j (pre.length + 1) cap) (x := .sl [exD y] .full) (rows := (pre ++ [cur]).map exD) (r := exD y) (so := .tmp 56) (xo := .tmp 62) (by kernel_rfl) ty41 rfl ty43 ty41 ⟨_, rfl⟩ (by rfl) (by rw [exD_eq]; rfl) hB rfl (by rw [exD_eq]; rfl) (by simp; omega) (by decide)) ?_
 rintro _ _ ⟨G', rfl, hB', j', k', cap', rfl⟩
 have hd63 : (opAt (opsOf (kF Tryz.f155 41)) 7).dst = some 63 := by kernel_rfl
 rw [hd63]
 have hlen2 : (left ++ [g]).length = left.length + 1 := by simp
 have hB2 : BxIs 1 8 G' ((pre ++ [cur] ++ [y]).map exD) (.bx j' k' cap') := by
  have : (pre ++ [cur]).map exD ++ [exD y] = (pre ++ [cur] ++ [y]).map exD := by simp
  rw [← this]
  exact hB'
 have hj7 : j' < G'.length + 1 := by
  have := hB2.lt rfl
  omega
 refine ARun.goK (k := [_, _, _, _, _, _]) 40 ?_
 simp only [W, seval, c155, hw1, hg1, hcap, ss1, ssD_snoc, ssD_length, mapD_nil, mapD_cons, Nat.reduceMul]
 refine ARun.nilJ (L := ze8 :: G') ?_
 refine ih2 (((pre ++ [cur], y), (left ++ [g], i + 1)), (G', .bx j' k' cap')) ⟨by dsimp only; omega, hB2, ⟨_, _, _, rfl⟩, hp, by simp; omega, by simp; omega⟩ (by dsimp only; omega) _ (ze8 :: G') [] [(left.length + 1, 1)] (by dsimp only; rw [hlen2]) ⟨by simp, by simp⟩ (fits_bx hB2) ?_
 refine AgreeF.env _ ?_
 simp only [agf, seval, List.length_cons, List.length_nil, hj7, Nat.zero_lt_one, Nat.zero_add, Nat.succ_pos]
 done
end Go.Proofs.YtnnnhlkmdnacaaaGreatDoor
namespace Go.Proofs.YtnnnhlkmdnacaaaGreatDoor
open Go.RowKit Go.Av Go.Ab
set_option linter.unusedSimpArgs false
set_option maxRecDepth 100000
set_option linter.defProp false
def c146 := by
 have c := KK_of Tryz.f146 (by conv => lhs; cbv)
 dsimp only [KK, KxP, doO, opO, List.map_cons, List.map_nil, List.toList_toArray] at c
 exact c
theorem b146 : FnIs Tryz.prog 146 Tryz.f146 42 := ⟨Tryz.func146, by kernel_rfl⟩
theorem fty1 : fieldTy Tryz.prog 77 1 = some (9, 1) := by kernel_rfl
set_option maxHeartbeats 8000000 in
theorem expr_pr (L : List WordS) (hG : GoodL L) {O : EP} {n : Nat} (hO : ∀ s, mu s ≤ n → PR L 153 [] s (exV (O s).1) (O s).2) (hd : DnE O) (m : Nat) (hm : n < m) (s : Ps) (hs : mu s ≤ n) :
 PR L 146 [] s (exV (climbP O m 5 s).1) (climbP O m 5 s).2 := by
 intro c B T i hc hok
 obtain ⟨N, hn⟩ : ∃ N, B.length = N := ⟨_, rfl⟩
 obtain ⟨t, ht⟩ : ∃ t, T.length = t := ⟨_, rfl⟩
 have hi : c < N := by omega
 have hmu := hok.mu_le hG
 obtain ⟨⟨x, s0⟩, hx⟩ : ∃ r, O s = r := ⟨_, rfl⟩
 obtain ⟨⟨l0, sF⟩, hF⟩ : ∃ r, flatL O 1 m s0 = r := ⟨_, rfl⟩
 have hcl := (climb_flat hd m 5 s (by omega) x s0 l0 sF hx hF).1
 rw [hcl]
 dsimp only
 have hdx := (hd.at hx).le
 have hpx := hO s hs
 rw [hx] at hpx
 dsimp only at hpx
 unfold exV at hpx
 refine b146.go 20 rfl fun hsm => ?_
 simp only [smw] at hsm
 simp only [W, seval, c146, hn, hi]
 refine PR.call hpx hc hok fun hok1 => ?_
 refine ARun.go 9 ?_
 simp only [W, seval, c146, hn, hi, mapD_nil, mapD_cons, Nat.reduceMul, rows8]
 refine ARun.token 3 [exD x] (by rfl) 8 (by omega) (by rw [exD_eq]; rfl) ?_
 simp only [envS_put]
 refine ARun.token 4 [] (by rfl) 1 (by omega) rfl ?_
 simp only [envS_put, List.length_append, List.length_cons, List.length_nil, Nat.zero_add, ht]
 change ARun _ _ _ _ _ _ ⟨B.set c (bxR L s0) ++ [ze8], (T ++ [(1, 8)]) ++ [(0, 1)]⟩ _
 rw [List.append_assoc]
 refine ARun.go 5 ?_
 simp only [W, seval, c146]
 refine ARun.after [_, _] _ (fun _ : Unit => (envS 42 [(0, .ptr c 0), (2, .ptr N 0), (3, .sl (opsD x l0) (.own t)), (4, .sl (sgsD l0) (.own (t + 1)))], ⟨B.set c (bxR L sF) ++ [ze8], T ++ [(l0.length + 1, 8), (l0.length, 1)]⟩)) (fun _ => OkR L sF ∧ l0.length ≤ 200000) ?_ ?_
 ·rintro ⟨⟩ ⟨hokF, hll⟩
  have hb := AFn.sameW (build_ab x l0 hll).only (args := [.sl (opsD x l0) (.own t), .sl (sgsD l0) (.own (t + 1))]) (by simp [wkL, wk]) rfl ⟨B.set c (bxR L sF) ++ [ze8], T ++ [(l0.length + 1, 8), (l0.length, 1)]⟩
  unfold exV at hb ⊢
  refine ARun.go 20 ?_
  simp only [W, seval, c146, hn, hi]
  refine callS_fn hb ?_
  rintro _ _ ⟨rfl, rfl⟩
  refine ARun.go 20 ?_
  simp only [W, seval, c146, hn, hi, ze8]
  refine retc (v := ?_) Tryz.func146 (by rfl) ?_ ?_
  rotate_left
  ·simp only [W, seval, c146, hn, hi]
   exact rfl
  refine PF.ret (fun _ _ => rfl) ?_
  refine ⟨?_, 0, hokF, rfl⟩
  simp only [W, seval, c146, wk, wkL]
 intro K' hend
 refine ARun.loopW (fun a : SgL × Ps => (envS 42 [(0, .ptr c 0), (2, .ptr N 0), (3, .sl (opsD x a.1) (.own t)), (4, .sl (sgsD a.1) (.own (t + 1)))], ⟨B.set c (bxR L a.2) ++ [ze8], T ++ [(a.1.length + 1, 8), (a.1.length, 1)]⟩)) (fun a => OkR L a.2 ∧ mu a.2 ≤ mu s0 ∧ a.1.length + mu a.2 ≤ mu s ∧ ∃ q, mu a.2 < q ∧ (a.1 ++ (flatL O 1 q a.2).1, (flatL O 1 q a.2).2) = (l0, sF)) (fun a => mu a.2) ([], s0) ⟨hok1, Nat.le_refl _, by simp; omega, m, by dsimp only; omega, by dsimp only; rw [hF, List.nil_append]⟩ ?_ rfl ?_
 ·skip
  refine Agree.env _ ?_
  simp only [agw, seval, hn]
  exact ⟨rfl, rfl⟩
 rintro ⟨l, s1⟩ ⟨hok1, hm1, hle, q, hq, hr⟩ ih
 dsimp only at hok1 hm1 hle hq hr ih ⊢
 cases q with
 | zero => omega
 | succ q =>
 rw [flatL] at hr
 have hout : ¬ (s1.e = 0 ∧ s1.w.kind = 3 ∧ 1 ≤ rankS s1.w.text) → l = l0 ∧ s1 = sF := fun hno => by
  rw [if_neg hno] at hr
  dsimp only at hr
  rw [List.append_nil] at hr
  exact Prod.mk.inj hr
 by_cases he : s1.e = 0
 case neg =>
  have e1 := decide_eq_false he
  obtain ⟨rfl, rfl⟩ := hout fun h => he h.1
  refine ARun.goK (k := [_, _, _]) 60 ?_
  simp only [W, seval, c146, hn, hi, bxR, e1]
  refine hend () ⟨hok1, by omega⟩ _ _ ?_ rfl
  refine Agree.env _ ?_
  simp only [agw, seval, hn]
 have e1 := decide_eq_true he
 have hw := hok1.w he
 refine ARun.goK (k := [_, _, _]) 60 ?_
 simp only [W, seval, c146, hn, hi, bxR, e1]
 refine PR.now hc hok1 ?_
 rw [← hw]
 have hk3 := dec_nat s1.w.kind 3
 simp only [Int.cast_ofNat_Int] at hk3
 by_cases hk : s1.w.kind = 3
 case neg =>
  rw [decide_eq_false hk] at hk3
  obtain ⟨rfl, rfl⟩ := hout fun h => hk h.2.1
  refine ARun.goK 60 ?_
  simp only [W, seval, c146, hn, hi, wdL, hk3, opFieldV, fty0]
  refine hend () ⟨hok1, by omega⟩ _ _ ?_ rfl
  refine Agree.env _ ?_
  simp only [agw, seval, hn]
 rw [decide_eq_true hk] at hk3
 refine ARun.goK 60 ?_
 simp only [W, seval, c146, hn, hi, wdL, hk3, opFieldV, fty0]
 refine PR.now hc hok1 ?_
 rw [← hw]
 refine ARun.goK 60 ?_
 simp only [W, seval, c146, hn, hi, wdL, opFieldV, fty1]
 refine callS_fn (rankR_ab s1.w.text _ _) ?_
 rintro _ _ ⟨rfl, rfl⟩
 by_cases hrk : 1 ≤ rankS s1.w.text
 case neg =>
  have hd0 : decide ((0 : Int) < rankS s1.w.text) = false := decide_eq_false (by omega)
  obtain ⟨rfl, rfl⟩ := hout fun h => hrk h.2.2
  refine ARun.goK 60 ?_
  simp only [W, seval, c146, hn, hi, hd0]
  refine hend () ⟨hok1, by omega⟩ _ _ ?_ rfl
  refine Agree.env _ ?_
  simp only [agw, seval, hn]
 have hd0 : decide ((0 : Int) < rankS s1.w.text) = true := decide_eq_true (by omega)
 rw [if_pos ⟨he, hk, hrk⟩] at hr
 have hnl := next_lt s1 he (by omega)
 obtain ⟨⟨y, s2⟩, hy⟩ : ∃ r, O (nextP s1) = r := ⟨_, rfl⟩
 have hpy := hO (nextP s1) (by omega)
 have hdy := (hd.at hy).le
 rw [hy] at hr hpy
 dsimp only at hr hpy
 obtain ⟨⟨l2, s3⟩, h5⟩ : ∃ r, flatL O 1 q s2 = r := ⟨_, rfl⟩
 rw [h5] at hr
 dsimp only at hr
 have hcap : (l.length + 1) * 16 ≤ 140737488355328 := by omega
 have hcap2 : (l.length + 1 + 1) * 128 ≤ 140737488355328 := by omega
 have hsg : sgsD l ++ [[D.str s1.w.text]] = sgsD (l ++ [(s1.w.text, y)]) := by simp [sgsD, ssD]
 have hop : opsD x l ++ [exD y] = opsD x (l ++ [(s1.w.text, y)]) := by simp [opsD]
 have hsl : (sgsD l).length = l.length := by simp [sgsD, ssD]
 have hol : (opsD x l).length = l.length + 1 := by simp [opsD]
 refine ARun.goK 60 ?_
 simp only [W, seval, c146, hn, hi, hd0]
 refine PR.now hc hok1 ?_
 rw [← hw]
 refine ARun.goK 60 ?_
 simp only [W, seval, c146, hn, hi, ht, wdL, opFieldV, fty1, mapD_nil, mapD_cons, Nat.reduceMul, hcap, hsg, hsl, ss1]
 refine PR.call (step_pr L hG s1 fun _ => by omega) hc hok1 fun hok2 => ?_
 unfold exV at hpy
 refine ARun.goK 60 ?_
 simp only [W, seval, c146, hn, hi]
 refine PR.call hpy hc hok2 fun hok3 => ?_
 refine ARun.goK 60 ?_
 simp only [W, seval, c146, hn, hi, ht, mapD_nil, mapD_cons, Nat.reduceMul, rows8, hcap2, hop, hol, ex1]
 refine ih (l ++ [(s1.w.text, y)], s2) ⟨hok3, by dsimp only; omega, by simp; omega, q, by dsimp only; omega, by dsimp only; rw [h5, ← hr]; simp⟩ (by dsimp only; omega) _ _ ?_ (by simp)
 refine Agree.env _ ?_
 simp only [agw, seval, hn]
theorem num_int {L : List WordS} (hG : GoodL L) {s : Ps} (hok : OkR L s) (he : s.e = 0 ∨ s.e = 50) : ((nowW L (idxR L s)).int : Int) = (numP s).1 := by
 have hlt := hok.lt
 have hmem := nowW_mem hlt
 unfold numP
 rcases he with he | he
 ·have hw := hok.w he
  by_cases hk : s.w.kind = 2
  ·rw [if_pos ⟨he, hk⟩, hw]
  ·rw [if_neg fun h => hk h.2]
   rw [hw] at hk
   have := hG.num _ hmem hk
   show ((nowW L (idxR L s)).int : Int) = 0
   omega
 ·rw [if_neg fun h => by have := h.1; omega]
  have hi : idxR L s = L.length - 1 := if_pos he
  have h9 := (hG.last (idxR L s) hlt).2 (by omega)
  rw [← nowW_get hlt] at h9
  have := hG.num _ hmem (by omega)
  show ((nowW L (idxR L s)).int : Int) = 0
  omega
theorem next_e {s : Ps} (h : s.e = 0) : (nextP s).e = 0 ∨ (nextP s).e = 50 := by
 unfold nextP
 rw [if_pos h]
 split
 ·exact .inr rfl
 ·exact .inl rfl
theorem fty2 : fieldTy Tryz.prog 77 2 = some (36, 2) := by kernel_rfl
set_option maxHeartbeats 8000000 in
theorem stmt_w (L : List WordS) {E : EP} {S : SP} {n : Nat} (hG : GoodL L) (hE : EOr L E (n + 1)) (hdE : DnE E) (hS : SOr L S n) (hdS : DnE S) (m : Nat) (hm : n < m) (s : Ps) (hs : mu s < n + 1) (qv : isP s [118, 97, 114] = false) (qi : isP s [105, 102] = false) (qf : isP s [102, 111, 114] = false) (qr : isP s [114, 101, 116, 117, 114, 110] = false) (qw : isP s [115, 119, 105, 116, 99, 104] = true) :
 PR L 115 [] s (stV (stmtP E S m s).1) (stmtP E S m s).2 := by
 intro c B T i hc hok
 obtain ⟨N, hn⟩ : ∃ N, B.length = N := ⟨_, rfl⟩
 have hi : c < N := by omega
 obtain ⟨t, ht⟩ : ∃ t, T.length = t := ⟨_, rfl⟩
 have hi2 : c < N + 2 := by omega
 have hN1 : N < N + 2 := by omega
 have hN2 : N + 1 < N + 2 := by omega
 have ht1 : t < t + 1 := by omega
 have hmu := hok.mu_le hG
 obtain ⟨K, hK⟩ : ∃ K, stmtP E S m s = K := ⟨_, rfl⟩
 rw [hK]
 unfold stmtP at hK
 rw [got_fl qv] at hK
 dsimp only at hK
 rw [got_fl qi] at hK
 dsimp only at hK
 rw [got_fl qf] at hK
 dsimp only at hK
 rw [got_yes qw (by rfl) (by rfl)] at hK
 dsimp only at hK
 have hlt : mu (nextP s) < mu s := next_lt s (is_live qw).1 (by have := (is_live qw).2.1; omega)
 refine b115.go 0 rfl fun hsm => ?_
 simp only [smw] at hsm
 simp only [W, seval, c115, hn, hi]
 refine ARun.fits fun hf => ?_
 refine ARun.go 20 ?_
 simp only [W, seval, c115, hn, hi]
 have gv := take_pr L hG s [118, 97, 114]
 rw [got_fl qv] at gv
 refine PR.call gv hc hok fun _ => ?_
 refine ARun.go 20 ?_
 simp only [W, seval, c115, hn, hi]
 have gi := take_pr L hG s [105, 102]
 rw [got_fl qi] at gi
 refine PR.call gi hc hok fun _ => ?_
 refine ARun.go 20 ?_
 simp only [W, seval, c115, hn, hi]
 have gf := take_pr L hG s [102, 111, 114]
 rw [got_fl qf] at gf
 refine PR.call gf hc hok fun _ => ?_
 refine ARun.go 20 ?_
 simp only [W, seval, c115, hn, hi]
 have gr := take_pr L hG s [114, 101, 116, 117, 114, 110]
 rw [got_fl qr] at gr
 refine PR.call gr hc hok fun _ => ?_
 refine ARun.go 20 ?_
 simp only [W, seval, c115, hn, hi]
 have gw := take_pr L hG s [115, 119, 105, 116, 99, 104]
 rw [got_yes qw (by rfl) (by rfl)] at gw
 refine PR.call gw hc hok fun hok1 => ?_
 generalize hs1 : nextP s = s1 at *
 obtain ⟨⟨x, s3⟩, hx⟩ : ∃ r, headP E s1 = r := ⟨_, rfl⟩
 have hhp := head_pr L hE s1 (by omega)
 have hd3 := (dn_head hdE hx).le
 rw [hx] at hhp hK
 dsimp only at hhp hK
 obtain ⟨⟨cs, s6⟩, hC⟩ : ∃ r, casL S m m (wantP s3 [123]) = r := ⟨_, rfl⟩
 obtain ⟨⟨el, s7⟩, hEl⟩ : ∃ r, elseP S m s6 = r := ⟨_, rfl⟩
 rw [hC] at hK
 dsimp only at hK
 rw [hEl] at hK
 dsimp only at hK
 subst hK
 have hdw := (dn_want s3 [123]).le
 refine ARun.go 20 ?_
 simp only [W, seval, c115, hn, hi]
 refine PR.call hhp hc hok1 fun hok3 => ?_
 refine ARun.go 20 ?_
 simp only [W, seval, c115, hn, hi]
 first
  | refine PR.call0 (must_pr L hG s3 [123]) hc hok3 fun hok4 => ?_
  | refine PR.call (must_pr L hG s3 [123]) hc hok3 fun hok4 => ?_
 generalize wantP s3 [123] = s4 at *
 refine ARun.go 2 ?_
 simp only [W, seval, c115]
 refine ARun.tokenB (N + 1) 9 _ [] (by rw [bx_loc (by simpa using hn)]; rfl) (by rfl) 2 (by omega) rfl ?_
 rw [bx_set_loc (by simpa using hn)]
 change ARun _ _ _ _ _ _ ⟨B.set c (bxR L s4) ++ [ze10, swT x [] T.length], T ++ [(0, 2)]⟩ _
 rw [ht]
 refine ARun.go 5 ?_
 simp only [W, seval, c115]
 have hfit : ∀ (b5 : Ps) (l : List CaT), Fits ⟨B.set c (bxR L b5) ++ [ze10, swT x l t], T ++ [(l.length, 2)]⟩ := fun b5 l => fits_pf2 hf (fun _ _ => rfl) (by
  intro vs hvs
  simp only [List.mem_cons, List.not_mem_nil, or_false] at hvs
  rcases hvs with rfl | rfl
  ·rfl
  ·simp [swT, fit, ht])
 refine ARun.after [_, _] _ (fun _ : Unit => (envS 127 [(0, .ptr c 0), (2, .ptr N 0), (3, .ptr (N + 1) 0)], ⟨B.set c (bxR L s6) ++ [ze10, swT x cs t], T ++ [(cs.length, 2)]⟩)) (fun _ => OkR L s6 ∧ mu s6 ≤ mu s4) ?_ ?_
 ·rintro ⟨⟩ ⟨hok6, hm6⟩
  unfold elseP at hEl
  refine ARun.go 20 ?_
  simp only [W, seval, c115]
  obtain ⟨⟨b, s8⟩, hg_s8⟩ : ∃ r, gotP s6 [100, 101, 102, 97, 117, 108, 116] = r := ⟨_, rfl⟩
  have hp_s8 := take_pr L hG s6 [100, 101, 102, 97, 117, 108, 116]
  rw [hg_s8] at hp_s8
  dsimp only at hp_s8
  first
   | refine PR.call0 hp_s8 hc hok6 fun hok8 => ?_
   | refine PR.call hp_s8 hc hok6 fun hok8 => ?_
  rw [hg_s8] at hEl
  have hdx8 := (dn_got hg_s8).le
  cases b
  case' false =>
   dsimp only at hEl
   obtain ⟨rfl, rfl⟩ := Prod.mk.inj hEl
   refine ARun.go 20 ?_
   simp only [W, seval, c115]
   first
    | refine PR.call0 (must_pr L hG s8 [125]) hc hok8 fun hok9 => ?_
    | refine PR.call (must_pr L hG s8 [125]) hc hok8 fun hok9 => ?_
   refine ARun.go 20 ?_
   simp only [W, seval, c115, hn, hi, swT]
   refine retc (v := ?_) Tryz.func115 (by rfl) ?_ ?_
   rotate_left
   ·simp only [W, seval, c115, hn, hi]
    exact rfl
   refine PF.ret (fun _ _ => rfl) ?_
   refine ⟨?_, 0, hok9, rfl⟩
   simp only [W, seval, c115, wk, wkL, stV, List.length_set, ht, Nat.lt_irrefl]
   rfl
  case' true =>
   dsimp only at hEl
   have hdw8 := (dn_want s8 [58]).le
   have hsp := stmts_pr L hG hS m (wantP s8 [58]) (by omega) (by omega)
   rw [hEl] at hsp
   dsimp only at hsp
   refine ARun.go 20 ?_
   simp only [W, seval, c115]
   first
    | refine PR.call0 (must_pr L hG s8 [58]) hc hok8 fun hok9 => ?_
    | refine PR.call (must_pr L hG s8 [58]) hc hok8 fun hok9 => ?_
   refine ARun.go 20 ?_
   simp only [W, seval, c115]
   refine PR.call hsp hc hok9 fun hok10 => ?_
   refine ARun.go 20 ?_
   simp only [W, seval, c115, hn, hi, swT]
   first
    | refine PR.call0 (must_pr L hG s7 [125]) hc hok10 fun hok11 => ?_
    | refine PR.call (must_pr L hG s7 [125]) hc hok10 fun hok11 => ?_
   refine ARun.go 20 ?_
   simp only [W, seval, c115, hn, hi, swT]
   refine retc (v := ?_) Tryz.func115 (by rfl) ?_ ?_
   rotate_left
   ·simp only [W, seval, c115, hn, hi]
    exact rfl
   refine PF.ret (fun _ _ => rfl) ?_
   refine ⟨?_, 0, hok11, rfl⟩
   simp only [W, seval, c115, wk, wkL, stV, List.length_set, ht, Nat.lt_irrefl]
   rfl
 intro K' hend
 refine ARun.loopA (fun a : List CaT × Ps => (envS 127 [(0, .ptr c 0), (2, .ptr N 0), (3, .ptr (N + 1) 0)], ⟨B.set c (bxR L a.2) ++ [ze10, swT x a.1 t], T ++ [(a.1.length, 2)]⟩)) (fun a => OkR L a.2 ∧ mu a.2 ≤ mu s4 ∧ a.1.length + mu a.2 ≤ mu s ∧ ∃ q, mu a.2 < q ∧ (a.1 ++ (casL S m q a.2).1, (casL S m q a.2).2) = (cs, s6)) (fun a => mu a.2) ([], s4) ⟨hok4, Nat.le_refl _, by simp; omega, m, by dsimp only; omega, by dsimp only; rw [hC, List.nil_append]⟩ ?_ rfl ?_
 ·skip
  refine Agree.env _ ?_
  simp only [agw, seval, hn]
 rintro ⟨l, s5⟩ ⟨hok5, hm5, hle, q, hq, hr⟩ ih0
 dsimp only at hok5 hm5 hle hq hr ih0 ⊢
 cases q with
 | zero => omega
 | succ q =>
 rw [casL] at hr
 refine ARun.goK (k := [_, _, _]) 20 ?_
 simp only [W, seval, c115, hn, hi]
 cases q1 : isP s5 [99, 97, 115, 101]
 case' false =>
  have hg := take_pr L hG s5 [99, 97, 115, 101]
  rw [got_fl q1] at hg hr
  dsimp only at hr
  rw [List.append_nil] at hr
  obtain ⟨rfl, rfl⟩ := Prod.mk.inj hr
  refine PR.call hg hc hok5 fun _ => ?_
  refine ARun.goK 20 ?_
  simp only [W, seval, c115, hn, hi]
  refine hend () ⟨hok5, by omega⟩ _ _ ?_ rfl
  refine Agree.env _ ?_
  simp only [agw, seval, hn]
 case' true =>
  have hg := take_pr L hG s5 [99, 97, 115, 101]
  have hlv := is_live q1
  rw [got_yes q1 (by rfl) (by rfl)] at hg hr
  have hl8 : mu (nextP s5) < mu s5 := next_lt s5 hlv.1 (by have := hlv.2.1; omega)
  have he8 := next_e hlv.1
  generalize nextP s5 = s8 at *
  dsimp only at hr
  refine PR.call hg hc hok5 fun hok8 => ?_
  have hni := num_int hG hok8 he8
  obtain ⟨⟨k, s9⟩, hg9⟩ : ∃ r, numP s8 = r := ⟨_, rfl⟩
  have hd9 := (dn_num hg9).le
  rw [hg9] at hr hni
  dsimp only at hr hni
  refine ARun.goK 20 ?_
  simp only [W, seval, c115, hn, hi]
  refine PR.now hc hok8 ?_
  refine ARun.goK 9 ?_
  simp only [W, seval, c115, hn, hi, wdL, hni, opFieldV, fty2]
  refine ARun.after [_, _] _ (fun _ : Unit => (envS 127 [(0, .ptr c 0), (2, .ptr N 0), (3, .ptr (N + 1) 0), (4, .ptr (N + 2) 0)], ⟨B.set c (bxR L s9) ++ [ze10, swT x l t, [.d (.int .u64 k), .sl [] .full]], T ++ [(l.length, 2)]⟩)) (fun _ => OkR L s9) ?_ ?_
  case' refine_2 =>
   intro K2 hend2
   have hno : ¬ (s8.e = 0 ∧ s8.w.kind = 2) → s9 = failP s8 51 := fun h => by
    unfold numP at hg9
    rw [if_neg h] at hg9
    exact (Prod.mk.inj hg9).2.symm
   by_cases he : s8.e = 0
   ·have e1 := decide_eq_true he
    have hw := hok8.w he
    refine ARun.goK (k := [_, _]) 20 ?_
    simp only [W, seval, c115, hn, hi, bxR, e1]
    refine PR.now hc hok8 ?_
    rw [← hw]
    cases h2 : decide ((s8.w.kind : Int) = 2)
    ·have h2' := of_decide_eq_false h2
     obtain rfl := hno fun h => h2' (by omega)
     refine ARun.goK 20 ?_
     simp only [W, seval, c115, hn, hi, wdL, h2, opFieldV, fty0]
     refine PR.call (bad_pr L s8) hc hok8 fun hok9 => ?_
     refine ARun.goK 20 ?_
     simp only [W, seval, c115, hn, hi]
     refine hend2 () hok9 _ _ ?_ rfl
     refine Agree.env _ ?_
     simp only [agw, seval, hn]
    ·have h2' := of_decide_eq_true h2
     have hs9 : nextP s8 = s9 := by
      unfold numP at hg9
      rw [if_pos ⟨he, by omega⟩] at hg9
      exact (Prod.mk.inj hg9).2
     have hst := step_pr L hG s8 fun _ => by omega
     rw [hs9] at hst
     refine ARun.goK 20 ?_
     simp only [W, seval, c115, hn, hi, wdL, h2, opFieldV, fty0]
     refine PR.call hst hc hok8 fun hok9 => ?_
     refine ARun.goK 20 ?_
     simp only [W, seval, c115, hn, hi]
     refine hend2 () hok9 _ _ ?_ rfl
     refine Agree.env _ ?_
     simp only [agw, seval, hn]
   ·have e1 := decide_eq_false he
    obtain rfl := hno fun h => he h.1
    refine ARun.goK (k := [_, _]) 20 ?_
    simp only [W, seval, c115, hn, hi, bxR, e1]
    refine PR.call (bad_pr L s8) hc hok8 fun hok9 => ?_
    refine ARun.goK 20 ?_
    simp only [W, seval, c115, hn, hi]
    refine hend2 () hok9 _ _ ?_ rfl
    refine Agree.env _ ?_
    simp only [agw, seval, hn]
  rintro ⟨⟩ hok9
  have hdw9 := (dn_want s9 [58]).le
  have hsp := stmts_pr L hG hS m (wantP s9 [58]) (by omega) (by omega)
  obtain ⟨⟨b, s10⟩, hb⟩ : ∃ r, stmtsL S m (wantP s9 [58]) = r := ⟨_, rfl⟩
  have hd10 := (dn_stmts hdS m hb).le
  rw [hb] at hsp hr
  dsimp only at hsp hr
  refine ARun.goK (k := [_, _, _, _]) 20 ?_
  simp only [W, seval, c115]
  first
   | refine PR.call0 (must_pr L hG s9 [58]) hc hok9 fun hok10 => ?_
   | refine PR.call (must_pr L hG s9 [58]) hc hok9 fun hok10 => ?_
  refine ARun.goK 20 ?_
  simp only [W, seval, c115, hn, hi]
  refine PR.call hsp hc hok10 fun hok11 => ?_
  obtain ⟨⟨l8, s11⟩, h8⟩ : ∃ r, casL S m q s10 = r := ⟨_, rfl⟩
  rw [h8] at hr
  dsimp only at hr
  have hcap : (l.length + 1) * 32 ≤ 140737488355328 := by omega
  have hmap : l.map caD ++ [caD (.mk k b)] = (l ++ [CaT.mk k b]).map caD := by simp
  have hlen : (l ++ [CaT.mk k b]).length = l.length + 1 := by simp
  refine ARun.goK 40 ?_
  simp only [W, seval, c115, hn, hi, ht, swT, mapD_nil, mapD_cons, Nat.reduceMul, rows2, hcap, hmap, ca1]
  refine ARun_split (J := [_, _]) (J2 := [_]) ?_
  refine ih0 (l ++ [.mk k b], s10) ⟨hok11, by dsimp only; omega, by dsimp only; omega, q, by dsimp only; omega, by rw [← hr]; dsimp only; rw [h8]; simp⟩ (by dsimp only; omega) _ _ _ _ _ (by dsimp only; rw [hlen]; rfl) ⟨by simp; omega, by simp; omega⟩ (by rw [← hlen]; exact hfit s10 _) ?_
  refine AgreeF.env _ ?_
  simp only [agf, seval, hn, ht, hi2, hN1, hN2, ht1, List.length_append, List.length_cons, List.length_nil, Nat.zero_add]
theorem stmt_pr (L : List WordS) (hG : GoodL L) {E : EP} {S : SP} {n : Nat} (hE : EOr L E (n + 1)) (hdE : DnE E) (hS : SOr L S n) (hdS : DnE S) (m : Nat) (hm : n < m) (s : Ps) (hs : mu s < n + 1) :
 PR L 115 [] s (stV (stmtP E S m s).1) (stmtP E S m s).2 := by
 cases qv : isP s [118, 97, 114]
 case' true => exact stmt_v L hG m hm s hs qv
 cases qi : isP s [105, 102]
 case' true => exact stmt_i L hG hE hdE hS hdS m hm s hs qv qi
 cases qf : isP s [102, 111, 114]
 case' true => exact stmt_f L hG hE hdE hS m hm s hs qv qi qf
 cases qr : isP s [114, 101, 116, 117, 114, 110]
 case' true => exact stmt_r L hG hE hdE m hm s hs qv qi qf qr
 cases qw : isP s [115, 119, 105, 116, 99, 104]
 case' true => exact stmt_w L hG hE hdE hS hdS m hm s hs qv qi qf qr qw
 exact stmt_s L hG hE hdE m hm s hs qv qi qf qr qw
end Go.Proofs.YtnnnhlkmdnacaaaGreatDoor
namespace Go.Proofs.YtnnnhlkmdnacaaaGreatDoor
open Go.RowKit Go.Av
theorem valD_acc (l : List UInt8) : ∀ n : Nat, l.foldl (fun n c => n * 10 + (c.toNat - 48)) n = n * 10 ^ l.length + valD l := by
 induction l with
 | nil => intro n; simp [valD]
 | cons c l ih =>
  intro n
  unfold valD
  rw [List.foldl_cons, List.foldl_cons, ih, ih, List.length_cons, Nat.pow_succ, Nat.add_mul, Nat.add_mul, Nat.mul_assoc, Nat.mul_comm 10]
  omega
theorem valD_cons (c : UInt8) (l : List UInt8) : valD (c :: l) = (c.toNat - 48) * 10 ^ l.length + valD l := by
 conv => lhs; unfold valD
 rw [List.foldl_cons, valD_acc]
 simp
theorem valD_lt : ∀ l : List UInt8, (∀ c ∈ l, digitB c = true) → valD l < 10 ^ l.length
 | [], _ => by simp [valD]
 | c :: l, h => by
  have ih := valD_lt l (fun d hd => h d (List.mem_cons_of_mem _ hd))
  have hc := of_decide_eq_true (h c (List.mem_cons_self ..))
  rw [valD_cons, List.length_cons, Nat.pow_succ]
  have : (c.toNat - 48) * 10 ^ l.length ≤ 9 * 10 ^ l.length := Nat.mul_le_mul_right _ (by omega)
  omega
theorem less_val : ∀ x y : List UInt8, x.length = y.length → (∀ c ∈ x, digitB c = true) → (∀ c ∈ y, digitB c = true) → (Op.bytesLess x y = true ↔ valD x < valD y)
 | [], [], _, _, _ => by simp [Op.bytesLess]
 | [], _ :: _, h, _, _ => by simp at h
 | _ :: _, [], h, _, _ => by simp at h
 | a :: x, b :: y, h, hx, hy => by
  have hl : x.length = y.length := by simpa using h
  have hx' : ∀ c ∈ x, digitB c = true := fun d hd => hx d (List.mem_cons_of_mem _ hd)
  have hy' : ∀ c ∈ y, digitB c = true := fun d hd => hy d (List.mem_cons_of_mem _ hd)
  have ih := less_val x y hl hx' hy'
  have ha := of_decide_eq_true (hx a (List.mem_cons_self ..))
  have hb := of_decide_eq_true (hy b (List.mem_cons_self ..))
  have h1 := valD_lt x hx'
  have h2 := valD_lt y hy'
  rw [valD_cons, valD_cons, hl]
  rw [hl] at h1
  generalize 10 ^ y.length = P at *
  simp only [Op.bytesLess, Bool.or_eq_true, Bool.and_eq_true, decide_eq_true_eq, beq_iff_eq, UInt8.lt_iff_toNat_lt]
  obtain ⟨p, hp⟩ : ∃ p, a.toNat = 48 + p := ⟨a.toNat - 48, by omega⟩
  obtain ⟨q, hq⟩ : ∃ q, b.toNat = 48 + q := ⟨b.toNat - 48, by omega⟩
  have hab : a = b ↔ p = q := by
   constructor
   ·rintro rfl; omega
   ·intro e; exact UInt8.toNat.inj (by omega)
  rw [hab, hp, hq, ih, Nat.add_sub_cancel_left, Nat.add_sub_cancel_left]
  have key : ∀ u v : Nat, u < v → u * P + P ≤ v * P := fun u v h => by
   have := Nat.mul_le_mul_right P (show u + 1 ≤ v from h)
   rw [Nat.add_mul] at this
   omega
  rcases Nat.lt_trichotomy p q with h | h | h
  ·have := key p q h
   constructor
   ·intro _; omega
   ·intro _; left; omega
  ·subst h
   constructor
   ·rintro (h | ⟨_, h⟩)
    ·omega
    ·omega
   ·intro h
    right
    exact ⟨rfl, by omega⟩
  ·have := key q p h
   constructor
   ·rintro (h' | ⟨h', _⟩) <;> omega
   ·intro _; omega
theorem same_val : ∀ x y : List UInt8, x.length = y.length → (∀ c ∈ x, digitB c = true) → (∀ c ∈ y, digitB c = true) → valD x = valD y → x = y
 | [], [], _, _, _, _ => rfl
 | [], _ :: _, h, _, _, _ => by simp at h
 | _ :: _, [], h, _, _, _ => by simp at h
 | a :: x, b :: y, h, hx, hy, hv => by
  have hl : x.length = y.length := by simpa using h
  have hx' : ∀ c ∈ x, digitB c = true := fun d hd => hx d (List.mem_cons_of_mem _ hd)
  have hy' : ∀ c ∈ y, digitB c = true := fun d hd => hy d (List.mem_cons_of_mem _ hd)
  have ha := of_decide_eq_true (hx a (List.mem_cons_self ..))
  have hb := of_decide_eq_true (hy b (List.mem_cons_self ..))
  have h1 := valD_lt x hx'
  have h2 := valD_lt y hy'
  have ih := same_val x y hl hx' hy'
  rw [valD_cons, valD_cons, hl] at hv
  rw [hl] at h1
  generalize 10 ^ y.length = P at *
  obtain ⟨p, hp⟩ : ∃ p, a.toNat = 48 + p := ⟨a.toNat - 48, by omega⟩
  obtain ⟨q, hq⟩ : ∃ q, b.toNat = 48 + q := ⟨b.toNat - 48, by omega⟩
  rw [hp, hq, Nat.add_sub_cancel_left, Nat.add_sub_cancel_left] at hv
  have key : ∀ u v : Nat, u < v → u * P + P ≤ v * P := fun u v h => by
   have := Nat.mul_le_mul_right P (show u + 1 ≤ v from h)
   rw [Nat.add_mul] at this
   omega
  rcases Nat.lt_trichotomy p q with h | h | h
  ·have := key p q h; omega
  ·subst h
   rw [show a = b from UInt8.toNat.inj (by omega), ih (by omega)]
  ·have := key q p h; omega
def maxS : List UInt8 := [49, 56, 52, 52, 54, 55, 52, 52, 48, 55, 51, 55, 48, 57, 53, 53, 49, 54, 49, 53]
theorem maxS_val : valD maxS = maxU := by decide
theorem maxS_dig : ∀ c ∈ maxS, digitB c = true := by decide
def overS (ds : List UInt8) : Bool := !(Op.bytesLess ds maxS || ds == maxS)
theorem overS_val (ds : List UInt8) (hl : ds.length = 20) (hd : ∀ c ∈ ds, digitB c = true) : overS ds = !decide (valD ds ≤ maxU) := by
 unfold overS
 congr 1
 rw [Bool.eq_iff_iff, Bool.or_eq_true, beq_iff_eq, decide_eq_true_iff, less_val ds maxS hl hd maxS_dig, maxS_val]
 constructor
 ·rintro (h | rfl)
  ·omega
  ·rw [maxS_val]; omega
 ·intro h
  rcases Nat.lt_or_ge (valD ds) maxU with h' | h'
  ·exact .inl h'
  ·exact .inr (same_val ds maxS hl hd maxS_dig (by rw [maxS_val]; omega))
theorem digits_at (bs : List UInt8) (k : Nat) (hk : k ≤ bs.length) :
 (digitsAt bs k).length = runAt digitB bs k - k ∧ (∀ j : Nat, j < runAt digitB bs k - k → ∃ a, (digitsAt bs k)[j]? = some a ∧ digitB a = true ∧ bs[k + j]? = some a) ∧ (∀ c ∈ digitsAt bs k, digitB c = true) := by
 have hre := runAt_le digitB bs k hk
 have hpre := List.takeWhile_prefix digitB (l := bs.drop k)
 have hlen : ((bs.drop k).takeWhile digitB).length = runAt digitB bs k - k := by unfold runAt; omega
 have heq : digitsAt bs k = (bs.drop k).takeWhile digitB := by
  unfold digitsAt
  rw [← hlen]
  exact (List.prefix_iff_eq_take.1 hpre).symm
 have hall := List.all_eq_true.1 (List.all_takeWhile (p := digitB) (l := bs.drop k))
 refine ⟨by rw [heq, hlen], ?_, by rw [heq]; exact hall⟩
 intro j hj
 have hkj : k + j < bs.length := by omega
 have hget : bs[k + j]? = some bs[k + j] := List.getElem?_eq_getElem hkj
 have hel : (digitsAt bs k)[j]? = some bs[k + j] := by
  unfold digitsAt
  rw [List.getElem?_take, if_pos hj, List.getElem?_drop, hget]
 exact ⟨bs[k + j], hel, hall _ (by rw [← heq]; exact List.mem_of_getElem? hel), hget⟩
theorem number_rule (bs : List UInt8) (k : Nat) (hk : k < bs.length) (h0 : digitB (bs.getD k 0) = true) :
 numberOk bs k = !((decide (runAt digitB bs k < bs.length) && letterB (bs.getD (runAt digitB bs k) 0)) || (decide (bs.getD k 0 = 48) && decide (k + 1 < runAt digitB bs k)) || decide (20 < runAt digitB bs k - k) ||
  (decide (runAt digitB bs k - k = 20) && overS (digitsAt bs k))) := by
 obtain ⟨hl, hat, hall⟩ := digits_at bs k (by omega)
 have hgt := runAt_gt digitB bs k hk h0
 unfold numberOk
 cases hA : (decide (runAt digitB bs k < bs.length) && letterB (bs.getD (runAt digitB bs k) 0))
 ·by_cases hB : bs.getD k 0 = 48 ∧ k + 1 < runAt digitB bs k
  ·rw [decide_eq_true hB.1, decide_eq_true hB.2]
   simp
  ·have hB1 : (decide (k + 1 < runAt digitB bs k) && decide (bs.getD k 0 = 48)) = false := by
    rw [Bool.and_eq_false_iff, decide_eq_false_iff_not, decide_eq_false_iff_not]
    by_cases h : k + 1 < runAt digitB bs k
    ·exact .inr fun h' => hB ⟨h', h⟩
    ·exact .inl h
   rw [hB1, Bool.and_comm (decide (bs.getD k 0 = 48)), hB1]
   have hmx : maxU < 10 ^ 20 := by decide
   have hmn : 10 ^ 19 < maxU := by decide
   have hv := valD_lt _ hall
   rw [hl] at hv
   rcases Nat.lt_trichotomy (runAt digitB bs k - k) 20 with h | h | h
   ·have h1 : valD (digitsAt bs k) ≤ maxU := by
     have : 10 ^ (runAt digitB bs k - k) ≤ 10 ^ 19 := Nat.pow_le_pow_right (by omega) (by omega)
     omega
    rw [decide_eq_true h1, decide_eq_false (show ¬ 20 < runAt digitB bs k - k by omega), decide_eq_false (show ¬ runAt digitB bs k - k = 20 by omega)]
    rfl
   ·rw [decide_eq_false (show ¬ 20 < runAt digitB bs k - k by omega), decide_eq_true h, overS_val _ (by omega) hall]
    simp
   ·have h1 : ¬ valD (digitsAt bs k) ≤ maxU := by
     have hget : bs[k]? = some (bs.getD k 0) := by rw [List.getD_eq_getElem?_getD, List.getElem?_eq_getElem hk]; rfl
     obtain ⟨a, ha, had, hba⟩ := hat 0 (by omega)
     have ha2 : a = bs.getD k 0 := by
      rw [Nat.add_zero, hget] at hba
      exact (Option.some.inj hba).symm
     have hn48 : ¬ a = 48 := fun h' => hB ⟨by rw [← ha2]; exact h', by omega⟩
     obtain ⟨r, hr⟩ : ∃ r, digitsAt bs k = a :: r := by
      cases hds : digitsAt bs k with
      | nil => rw [hds] at ha; cases ha
      | cons x r =>
       rw [hds] at ha
       obtain rfl : x = a := by simpa using ha
       exact ⟨r, rfl⟩
     have hrl : r.length + 1 = runAt digitB bs k - k := by rw [← hl, hr]; rfl
     have hb := of_decide_eq_true had
     have h48 : ¬ a.toNat = 48 := fun h' => hn48 (UInt8.toNat.inj h')
     rw [hr, valD_cons]
     have h2 : 10 ^ 20 ≤ 10 ^ r.length := Nat.pow_le_pow_right (by omega) (by omega)
     have h3 : 1 * 10 ^ r.length ≤ (a.toNat - 48) * 10 ^ r.length := Nat.mul_le_mul_right _ (by omega)
     omega
    rw [decide_eq_false h1, decide_eq_true h]
    simp
 ·simp
theorem number_le (bs : List UInt8) (k : Nat) (h : numberOk bs k = true) : valD (digitsAt bs k) ≤ maxU := by
 unfold numberOk at h
 rw [Bool.and_eq_true, Bool.and_eq_true, decide_eq_true_iff] at h
 exact h.1.1
end Go.Proofs.YtnnnhlkmdnacaaaGreatDoor
namespace Go.Proofs.YtnnnhlkmdnacaaaGreatDoor
open Go.RowKit Go.Av Go.Ab
set_option linter.unusedSimpArgs false
set_option maxRecDepth 100000
set_option linter.defProp false
def c111 := by
 have c := KK_of Tryz.f111 (by conv => lhs; cbv)
 dsimp only [KK, KxP, doO, opO, List.map_cons, List.map_nil, List.toList_toArray] at c
 exact c
theorem b111 : FnIs Tryz.prog 111 Tryz.f111 21 := ⟨Tryz.func111, by kernel_rfl⟩
def c112 := by
 have c := KK_of Tryz.f112 (by conv => lhs; cbv)
 dsimp only [KK, KxP, doO, opO, List.map_cons, List.map_nil, List.toList_toArray] at c
 exact c
theorem b112 : FnIs Tryz.prog 112 Tryz.f112 9 := ⟨Tryz.func112, by kernel_rfl⟩
def c110 := by
 have c := KK_of Tryz.f110 (by conv => lhs; cbv)
 dsimp only [KK, KxP, doO, opO, List.map_cons, List.map_nil, List.toList_toArray] at c
 exact c
theorem b110 : FnIs Tryz.prog 110 Tryz.f110 26 := ⟨Tryz.func110, by kernel_rfl⟩
def c114 := by
 have c := KK_of Tryz.f114 (by conv => lhs; cbv)
 dsimp only [KK, KxP, doO, opO, List.map_cons, List.map_nil, List.toList_toArray] at c
 exact c
theorem b114 : FnIs Tryz.prog 114 Tryz.f114 37 := ⟨Tryz.func114, by kernel_rfl⟩
theorem letterR_ab (c : UInt8) (S : Mem) : AFn Tryz.prog TabI 111 [.d (.int .u8 (c.toNat : Int))] S (Same (.d (.bool (letterB c))) S) := by
 refine b111.go 60 rfl fun hsm => ?_
 simp only [smw] at hsm
 simp only [W, seval, c111]
 repeat' ((first | refine guardB_of (fun h => ?_) (fun h => ?_) | refine condS_of (fun h => ?_) (fun h => ?_)) <;> simp only [W, seval, c111, h])
 all_goals
  refine ARun.ret Tryz.func111 rfl (Left.none ?_)
  refine ⟨?_, rfl⟩
  simp only [W, seval, c111, wk]
  congr 2
  rw [Bool.eq_iff_iff]
  simp only [letterB, decide_eq_true_eq, decide_eq_false_iff_not, eq_self, true_iff, false_iff, Bool.false_eq_true] at *
  omega
theorem digitR_ab (c : UInt8) (S : Mem) : AFn Tryz.prog TabI 112 [.d (.int .u8 (c.toNat : Int))] S (Same (.d (.bool (digitB c))) S) := by
 refine b112.go 60 rfl fun hsm => ?_
 simp only [smw] at hsm
 simp only [W, seval, c112]
 repeat' ((first | refine guardB_of (fun h => ?_) (fun h => ?_) | refine condS_of (fun h => ?_) (fun h => ?_)) <;> simp only [W, seval, c112, h])
 all_goals
  refine ARun.ret Tryz.func112 rfl (Left.none ?_)
  refine ⟨?_, rfl⟩
  simp only [W, seval, c112, wk]
  congr 2
  rw [Bool.eq_iff_iff]
  simp only [digitB, decide_eq_true_eq, decide_eq_false_iff_not, eq_self, true_iff, false_iff, Bool.false_eq_true] at *
  omega
theorem reservedR_ab (s : List UInt8) (S : Mem) : AFn Tryz.prog TabI 113 [.d (.str s)] S (Same (.d (.bool (reservedS s))) S) := by
 refine AFn.of_calls Tryz.func113 rfl (by kernel_rfl) fun c w xs h1 h2 h3 hI => ?_
 have hv := h2 0 (by simp)
 obtain ⟨x, rfl⟩ : ∃ x, xs = #[x] := ⟨xs[0]'(by simp at h1; omega), by
  apply Array.ext
  ·simpa using h1
  ·intro j hj hj'
   have : j = 0 := by simp at hj'; omega
   subst this; rfl⟩
 simp at hv
 cases hv with
 | d _ _ hv => cases hv with
  | str _ hl =>
   refine (rReserved ⟨s.toArray⟩ w).mono ?_
   rintro e w' ⟨rfl, rfl⟩
   exact ⟨_, _, rfl, ⟨rfl, rfl⟩, .refl _ _, .d _ _ (.bool _)⟩
theorem fromB (bs : List UInt8) (i n : Nat) : fromBytes (((byD bs).drop i).take n) = some ((bs.drop i).take n) := by
 unfold byD
 rw [← List.map_drop, ← List.map_take]
 exact fromBytes_map _
theorem byD_len (bs : List UInt8) : (byD bs).length = bs.length := by simp [byD]
theorem byD_get {bs : List UInt8} {i : Nat} {c : UInt8} (h : bs[i]? = some c) : (byD bs)[i]? = some [.int .u8 (c.toNat : Int)] := by simp [byD, h, byteRow]
theorem has_ab (bs s : List UInt8) (i : Nat) (hi : i ≤ bs.length) (hl : bs.length ≤ 100000) (hs : s.length ≤ 100) (B : List (List V)) (T : List (Nat × Nat)) : AFn Tryz.prog TabI 110 [.d (.sl (byD bs)), .d (.int .i64 (i : Int)), .d (.str s)] ⟨B, T⟩ (Same (.d (.bool (hasPre (bs.drop i) s))) ⟨B, T⟩) := by
 have hw := wrap_in ((i : Int) + (s.length : Int)) (by omega)
 have hbl := byD_len bs
 by_cases h : i + s.length ≤ bs.length
 ·have hd : decide ((i : Int) + (s.length : Int) ≤ (bs.length : Int)) = true := decide_eq_true (by omega)
  have h1 : (0 : Int) ≤ (i : Int) ∧ (i : Int) ≤ (i : Int) + (s.length : Int) ∧ (i : Int) + (s.length : Int) ≤ (bs.length : Int) := by omega
  have h2 : ((i : Int) + (s.length : Int)).toNat - i = s.length := by omega
  have hfb := fromB bs i s.length
  have hz : rowsSz 1 (byD bs) = true := rowsSz_map byteRow (fun _ => rfl) bs
  have hp : decide ((bs.drop i).take s.length = s) = hasPre (bs.drop i) s := by rw [← take_beq, Bool.eq_iff_iff]; simp
  refine b110.go 100 rfl fun hsm => ?_
  simp only [smw] at hsm
  simp only [W, seval, c110, hw, hbl, hd, h1, h2, hz, hfb, hp, Int.toNat_natCast, and_self, true_and, Nat.zero_lt_one, if_true]
  refine ARun.ret Tryz.func110 rfl (Left.none ?_)
  exact ⟨rfl, rfl⟩
 ·have hd : decide ((i : Int) + (s.length : Int) ≤ (bs.length : Int)) = false := decide_eq_false (by omega)
  have hp : hasPre (bs.drop i) s = false := by
   rw [← take_beq]
   refine beq_eq_false_iff_ne.2 fun e => h ?_
   have := congrArg List.length e
   simp only [List.length_take, List.length_drop] at this
   omega
  rw [hp]
  refine b110.go 100 rfl fun hsm => ?_
  simp only [smw] at hsm
  simp only [W, seval, c110, hw, hbl, hd]
  refine ARun.ret Tryz.func110 rfl (Left.none ?_)
  exact ⟨rfl, rfl⟩
def twoL : List (List UInt8) := [[38, 38], [124, 124], [61, 61], [33, 61], [60, 61], [62, 61], [60, 60], [62, 62]]
def oneS : List UInt8 := [40, 41, 123, 125, 91, 93, 44, 46, 58, 61, 60, 62, 43, 45, 42, 47, 37, 38, 124, 94, 33]
theorem signs_two : signsL = twoL ++ oneS.map fun c => [c] := rfl
def signLen (l : List UInt8) : Int := match signAt l with
 | some s => (s.length : Int)
 | none => 0
theorem pre_one (c d : UInt8) (r : List UInt8) : hasPre (c :: r) [d] = decide (d.toNat = c.toNat) := by
 unfold hasPre
 simp only [List.isPrefixOf, Bool.and_true]
 rw [Bool.eq_iff_iff, beq_iff_eq, decide_eq_true_iff]
 exact ⟨fun h => by rw [h], fun h => UInt8.toNat_inj.1 h⟩
set_option maxHeartbeats 4000000 in
theorem sign_ab (bs : List UInt8) (i : Nat) (hi : i < bs.length) (hl : bs.length ≤ 100000) (B : List (List V)) (T : List (Nat × Nat)) : AFn Tryz.prog TabI 114 [.d (.sl (byD bs)), .d (.int .i64 (i : Int))] ⟨B, T⟩ (Same (.d (.int .i64 (signLen (bs.drop i)))) ⟨B, T⟩) := by
 obtain ⟨c, hc⟩ : ∃ c, bs[i]? = some c := ⟨_, List.getElem?_eq_getElem hi⟩
 have hdr := drop_cons_of hc
 have hbg := byD_get hc
 refine b114.go 60 rfl fun hsm => ?_
 simp only [smw] at hsm
 simp only [W, seval, c114, mapD_nil, mapD_cons, Nat.reduceMul]
 refine ARun.after [_, _] _ (fun _ : Unit => (envS 37 [(0, .d (.sl (byD bs))), (1, .d (.int .i64 (i : Int)))], ⟨B, T⟩)) (fun _ => twoL.find? (hasPre (bs.drop i)) = none) ?_ ?_
 case refine_2 =>
  intro K' hend
  refine ARun.loopW (fun k : Nat => (envS 37 [(0, .d (.sl (byD bs))), (1, .d (.int .i64 (i : Int))), (5, .sl (ssD twoL) .full), (6, .d (.int .i64 (k : Int)))], ⟨B, T⟩)) (fun k => k ≤ 8 ∧ (twoL.drop k).find? (hasPre (bs.drop i)) = twoL.find? (hasPre (bs.drop i))) (fun k => 8 - k) 0 ⟨by omega, rfl⟩ ?_ rfl ?_
  ·skip
   refine Agree.env _ ?_
   simp only [agw, seval]
   rfl
  rintro k ⟨hk, hf⟩ ih
  dsimp only at hk hf ih ⊢
  have hlen : (ssD twoL).length = 8 := rfl
  by_cases hk8 : k < 8
  ·have hd : decide ((k : Int) < 8) = true := decide_eq_true (by omega)
   have hw := wrap_in ((k : Int) + 1) (by omega)
   obtain ⟨q, hq⟩ : ∃ q, twoL[k]? = some q := ⟨_, List.getElem?_eq_getElem (show k < twoL.length from hk8)⟩
   have hql : q.length = 2 := by
    have h3 : ∀ q ∈ twoL, q.length = 2 := by decide
    exact h3 q (List.mem_of_getElem? hq)
   have hdq : twoL.drop k = q :: twoL.drop (k + 1) := by
    obtain ⟨h3, h4⟩ := List.getElem?_eq_some_iff.1 hq
    rw [← h4]
    exact List.drop_eq_getElem_cons h3
   rw [hdq, List.find?_cons] at hf
   refine ARun.goK (k := [_, _, _]) 60 ?_
   simp only [W, seval, c114, hlen, hd, hq, ssD_get]
   refine callS_fn (has_ab bs q i (by omega) hl (by omega) _ _) ?_
   rintro _ _ ⟨rfl, rfl⟩
   cases hh : hasPre (bs.drop i) q
   ·rw [hh] at hf
    refine ARun.goK (k := [_, _, _, _, _, _]) 60 ?_
    simp only [W, seval, c114, hw]
    refine ih (k + 1) ⟨by omega, hf⟩ (by omega) _ _ ?_ rfl
    refine Agree.env _ ?_
    simp only [agw, seval]
   ·rw [hh] at hf
    have hs : signLen (bs.drop i) = 2 := by
     unfold signLen signAt
     rw [signs_two, List.find?_append, ← hf]
     show ((q.length : Nat) : Int) = 2
     omega
    rw [hs]
    refine ARun.go 60 ?_
    simp only [W, seval, c114]
    refine ARun.ret Tryz.func114 rfl (Left.none ?_)
    exact ⟨rfl, rfl⟩
  ·obtain rfl : k = 8 := by omega
   have hf : none = twoL.find? (hasPre (bs.drop i)) := hf
   refine ARun.goK (k := [_, _, _]) 60 ?_
   simp only [W, seval, c114, hlen]
   refine hend () hf.symm _ _ ?_ rfl
   refine Agree.env _ ?_
   simp only [agw, seval]
 rintro ⟨⟩ hno
 have hs0 : signLen (bs.drop i) = match (oneS.map fun c => [c]).find? (hasPre (bs.drop i)) with
  | some s => (s.length : Int)
  | none => 0 := by
  unfold signLen signAt
  rw [signs_two, List.find?_append, hno]
  rfl
 rw [hs0]
 generalize hres : (match (oneS.map fun c => [c]).find? (hasPre (bs.drop i)) with
  | some s => (s.length : Int)
  | none => 0) = res
 refine ARun.go 60 ?_
 simp only [W, seval, c114]
 refine ARun.loopW (fun k : Nat => (envS 37 [(0, .d (.sl (byD bs))), (1, .d (.int .i64 (i : Int))), (7, .d (.str oneS)), (8, .d (.int .i64 (k : Int)))], ⟨B, T⟩)) (fun k => k ≤ 21 ∧ (match ((oneS.drop k).map fun c => [c]).find? (hasPre (bs.drop i)) with
  | some s => (s.length : Int)
  | none => 0) = res) (fun k => 21 - k) 0 ⟨by omega, hres⟩ ?_ rfl ?_
 ·skip
  refine Agree.env _ ?_
  simp only [agw, seval]
  rfl
 rintro k ⟨hk, hf⟩ ih
 dsimp only at hk hf ih ⊢
 have hlen : oneS.length = 21 := rfl
 by_cases hk8 : k < 21
 ·have hd : decide ((k : Int) < 21) = true := decide_eq_true (by omega)
  have hw := wrap_in ((k : Int) + 1) (by omega)
  obtain ⟨q, hq⟩ : ∃ q, oneS[k]? = some q := ⟨_, List.getElem?_eq_getElem (show k < oneS.length from hk8)⟩
  have hk0 : (0 : Int) ≤ (k : Int) := by omega
  have hdq := drop_cons_of hq
  rw [hdq, List.map_cons, List.find?_cons, hdr, pre_one] at hf
  have hqc : decide ((q.toNat : Int) = (c.toNat : Int)) = decide (q.toNat = c.toNat) := by rw [decide_eq_decide]; omega
  refine ARun.go 60 ?_
  simp only [W, seval, c114, hlen, hd]
  cases hh : decide (q.toNat = c.toNat)
  ·rw [hh] at hf hqc
   refine ARun.draw (by kernel_rfl) (by kernel_rfl) (lexQ_ok 60 _ _ ?_)
   simp only [W, seval, c114, hq, hbg, hqc, hk0, Int.toNat_natCast, if_true]
   refine ARun.go 60 ?_
   simp only [W, seval, c114, hw]
   refine ih (k + 1) ⟨by omega, by rw [hdr]; exact hf⟩ (by omega) _ _ ?_ rfl
   refine Agree.env _ ?_
   simp only [agw, seval]
  ·rw [hh] at hf hqc
   have hf : (1 : Int) = res := hf
   rw [← hf]
   refine ARun.draw (by kernel_rfl) (by kernel_rfl) (lexQ_ok 60 _ _ ?_)
   simp only [W, seval, c114, hq, hbg, hqc, hk0, Int.toNat_natCast, if_true]
   refine ARun.go 60 ?_
   simp only [W, seval, c114]
   refine ARun.ret Tryz.func114 rfl (Left.none ?_)
   exact ⟨rfl, rfl⟩
 ·obtain rfl : k = 21 := by omega
  have hf : (0 : Int) = res := hf
  rw [← hf]
  refine ARun.go 60 ?_
  simp only [W, seval, c114, hlen]
  refine ARun.ret Tryz.func114 rfl (Left.none ?_)
  exact ⟨rfl, rfl⟩
def c83 := by
 have c := KK_of Tryz.f83 (by conv => lhs; cbv)
 dsimp only [KK, KxP, doO, opO, List.map_cons, List.map_nil, List.toList_toArray] at c
 exact c
theorem b83 : FnIs Tryz.prog 83 Tryz.f83 226 := ⟨Tryz.func83, by kernel_rfl⟩
def ze5 : List V := [.d (.int .i64 0), .d (.str []), .d (.int .u64 0), .d (.int .i64 0), .d (.int .i64 0)]
abbrev TkR (B : List (List V)) (T : List (Nat × Nat)) (r : WordS × Nat) : V → Mem → Prop := Ab.Left ⟨B, T⟩ (Same (.tup [.agg (wdL r.1), .d (.int .i64 (r.2 : Int))]) ⟨B, T⟩)
theorem sl_bytes (bs : List UInt8) (p k : Nat) : fromBytes (((byD bs).drop p).take (k - p)) = some (textAt bs p k) := fromB bs p (k - p)
set_option maxHeartbeats 4000000 in
theorem tk_letter (bs : List UInt8) (hl : bs.length ≤ 100000) (p : Nat) (c : UInt8) (hc : bs[p]? = some c) (hlt : letterB c = true) (N : Nat) (B : List (List V)) (hn : B.length = N) (T : List (Nat × Nat)) (k : List Item) :
 ARun Tryz.prog TabI (B.length, T.length) 83 (.code (kF Tryz.f83 48) :: k) (envS 226 [(0, .d (.sl (byD bs))), (1, .d (.int .i64 (p : Int))), (4, .ptr N 0), (6, .d (.int .i64 (p : Int)))]) ⟨B ++ [ze5], T⟩ (TkR B T (takeAt bs p)) := by
 have hp := (List.getElem?_eq_some_iff.1 hc).1
 have hbl := byD_len bs
 have hgd : bs.getD p 0 = c := by rw [List.getD_eq_getElem?_getD, hc]; rfl
 have hz : rowsSz 1 (byD bs) = true := rowsSz_map byteRow (fun _ => rfl) bs
 obtain ⟨hr1, hr2⟩ := runAt_le wordB bs p (by omega)
 obtain ⟨e, he⟩ : ∃ e, runAt wordB bs p = e := ⟨_, rfl⟩
 rw [he] at hr1 hr2
 have hta : takeAt bs p = (⟨if reservedS (textAt bs p e) = true then 4 else 1, textAt bs p e, 0, p, e⟩, 0) := by
  unfold takeAt
  rw [if_neg (by omega), hgd, if_pos hlt, he]
 rw [hta]
 refine ARun.goK (k := [_]) 5 ?_
 simp only [W, seval, c83]
 refine ARun.after [_, _] _ (fun _ : Unit => (envS 226 [(0, .d (.sl (byD bs))), (1, .d (.int .i64 (p : Int))), (4, .ptr N 0), (6, .d (.int .i64 (e : Int)))], ⟨B ++ [ze5], T⟩)) (fun _ => True) ?_ ?_
 case refine_2 =>
  intro K' hend
  refine ARun.loopW (fun q : Nat => (envS 226 [(0, .d (.sl (byD bs))), (1, .d (.int .i64 (p : Int))), (4, .ptr N 0), (6, .d (.int .i64 (q : Int)))], ⟨B ++ [ze5], T⟩)) (fun q => q ≤ bs.length ∧ runAt wordB bs q = e) (fun q => bs.length - q) p ⟨by omega, he⟩ ?_ rfl ?_
  ·skip
   refine Agree.env _ ?_
   simp only [agw, seval]
  rintro q ⟨hq, hrq⟩ ih
  dsimp only at hq hrq ih ⊢
  by_cases hql : q < bs.length
  case neg =>
   have hd : decide ((q : Int) < (bs.length : Int)) = false := decide_eq_false (by omega)
   rw [runAt_end wordB bs q (by omega)] at hrq
   subst hrq
   refine ARun.goK (k := [_, _, _]) 60 ?_
   simp only [W, seval, c83, hbl, hd]
   refine hend () trivial _ _ ?_ rfl
   refine Agree.env _ ?_
   simp only [agw, seval]
  have hd : decide ((q : Int) < (bs.length : Int)) = true := decide_eq_true (by omega)
  have hw := wrap_in ((q : Int) + 1) (by omega)
  obtain ⟨x, hx⟩ : ∃ x, bs[q]? = some x := ⟨_, List.getElem?_eq_getElem hql⟩
  have hbg := byD_get hx
  have hq0 : (0 : Int) ≤ (q : Int) := by omega
  refine ARun.goK (k := [_, _, _]) 60 ?_
  simp only [W, seval, c83, hbl, hd, hbg, hq0]
  refine callS_fn (letterR_ab x _) ?_
  rintro _ _ ⟨rfl, rfl⟩
  have hnext : wordB x = true → runAt wordB bs (q + 1) = e := fun h => by rw [← runAt_next wordB bs q x hx h]; exact hrq
  cases hlx : letterB x
  ·refine ARun.goK 60 ?_
   simp only [W, seval, c83, hbl, hd, hbg, hq0]
   refine callS_fn (digitR_ab x _) ?_
   rintro _ _ ⟨rfl, rfl⟩
   cases hdx : digitB x
   ·have hno : ¬ wordB x = true := by simp [wordB, hlx, hdx]
    rw [runAt_stop wordB bs q x hx hno] at hrq
    subst hrq
    refine ARun.goK 60 ?_
    simp only [W, seval, c83]
    refine hend () trivial _ _ ?_ rfl
    refine Agree.env _ ?_
    simp only [agw, seval]
   ·refine ARun.goK 60 ?_
    simp only [W, seval, c83, hw]
    refine ih (q + 1) ⟨by omega, hnext (by simp [wordB, hdx])⟩ (by omega) _ _ ?_ rfl
    refine Agree.env _ ?_
    simp only [agw, seval]
  ·refine ARun.goK 60 ?_
   simp only [W, seval, c83, hw]
   refine ih (q + 1) ⟨by omega, hnext (by simp [wordB, hlx])⟩ (by omega) _ _ ?_ rfl
   refine Agree.env _ ?_
   simp only [agw, seval]
 rintro ⟨⟩ -
 have hsl := sl_bytes bs p e
 have h1 : (0 : Int) ≤ (p : Int) ∧ (p : Int) ≤ (e : Int) ∧ (e : Int) ≤ (bs.length : Int) := by omega
 refine ARun.goK (k := [_]) 40 ?_
 simp only [W, seval, c83, hn, hbl, hz, hsl, h1, Int.toNat_natCast, and_self, true_and, Nat.zero_lt_one, if_true]
 refine callS_fn (reservedR_ab (textAt bs p e) _) ?_
 rintro _ _ ⟨rfl, rfl⟩
 cases hrs : reservedS (textAt bs p e)
 all_goals
  refine ARun.goK 60 ?_
  simp only [W, seval, c83, hn, ze5]
  refine retc2 (v := ?_) Tryz.func83 (by rfl) ?_ ?_
  rotate_left
  ·simp only [W, seval, c83, hn]
   exact rfl
  refine Left.box ?_
  simp only [W, seval, c83, wk, wkL]
  exact ⟨rfl, rfl⟩
theorem gtr_over (ds : List UInt8) : (!(Op.bytesLess ds maxS || decide (ds = maxS))) = overS ds := by
 unfold overS
 congr 2
 rw [Bool.eq_iff_iff]
 simp
set_option maxHeartbeats 8000000 in
theorem tk_number (bs : List UInt8) (hl : bs.length ≤ 100000) (p : Nat) (c : UInt8) (hc : bs[p]? = some c) (hlt : letterB c = false) (hdg : digitB c = true) (N : Nat) (B : List (List V)) (hn : B.length = N) (T : List (Nat × Nat)) (k : List Item) :
 ARun Tryz.prog TabI (B.length, T.length) 83 (.code (kF Tryz.f83 75) :: k) (envS 226 [(0, .d (.sl (byD bs))), (1, .d (.int .i64 (p : Int))), (4, .ptr N 0), (6, .d (.int .i64 (p : Int)))]) ⟨B ++ [ze5], T⟩ (TkR B T (takeAt bs p)) := by
 have hp := (List.getElem?_eq_some_iff.1 hc).1
 have hbl := byD_len bs
 have hgd : bs.getD p 0 = c := by rw [List.getD_eq_getElem?_getD, hc]; rfl
 have hz : rowsSz 1 (byD bs) = true := rowsSz_map byteRow (fun _ => rfl) bs
 obtain ⟨hr1, hr2⟩ := runAt_le digitB bs p (by omega)
 have hrule := number_rule bs p hp (by rw [hgd]; exact hdg)
 have hgt := runAt_gt digitB bs p hp (by rw [hgd]; exact hdg)
 obtain ⟨hdl, hdat, hdall⟩ := digits_at bs p (by omega)
 have hval := number_le bs p
 have htx : textAt bs p (runAt digitB bs p) = digitsAt bs p := rfl
 have hnw : numberW bs p = ⟨2, digitsAt bs p, valD (digitsAt bs p), p, runAt digitB bs p⟩ := rfl
 obtain ⟨e, he⟩ : ∃ e, runAt digitB bs p = e := ⟨_, rfl⟩
 rw [he] at hr1 hr2 hrule hgt hdl hdat htx hnw
 have hta : takeAt bs p = if numberOk bs p = true then (numberW bs p, 0) else (WordS.zero, 50) := by
  unfold takeAt
  rw [if_neg (by omega), hgd, if_neg (by rw [hlt]; simp), if_pos hdg]
 rw [hta]
 refine ARun.goK (k := [_]) 5 ?_
 simp only [W, seval, c83]
 refine ARun.after [_, _] _ (fun _ : Unit => (envS 226 [(0, .d (.sl (byD bs))), (1, .d (.int .i64 (p : Int))), (4, .ptr N 0), (6, .d (.int .i64 (e : Int)))], ⟨B ++ [ze5], T⟩)) (fun _ => True) ?_ ?_
 case refine_2 =>
  intro K' hend
  refine ARun.loopW (fun q : Nat => (envS 226 [(0, .d (.sl (byD bs))), (1, .d (.int .i64 (p : Int))), (4, .ptr N 0), (6, .d (.int .i64 (q : Int)))], ⟨B ++ [ze5], T⟩)) (fun q => q ≤ bs.length ∧ runAt digitB bs q = e) (fun q => bs.length - q) p ⟨by omega, he⟩ ?_ rfl ?_
  ·skip
   refine Agree.env _ ?_
   simp only [agw, seval]
  rintro q ⟨hq, hrq⟩ ih
  dsimp only at hq hrq ih ⊢
  by_cases hql : q < bs.length
  case neg =>
   have hd : decide ((q : Int) < (bs.length : Int)) = false := decide_eq_false (by omega)
   rw [runAt_end digitB bs q (by omega)] at hrq
   subst hrq
   refine ARun.goK (k := [_, _, _]) 60 ?_
   simp only [W, seval, c83, hbl, hd]
   refine hend () trivial _ _ ?_ rfl
   refine Agree.env _ ?_
   simp only [agw, seval]
  have hd : decide ((q : Int) < (bs.length : Int)) = true := decide_eq_true (by omega)
  have hw := wrap_in ((q : Int) + 1) (by omega)
  obtain ⟨x, hx⟩ : ∃ x, bs[q]? = some x := ⟨_, List.getElem?_eq_getElem hql⟩
  have hbg := byD_get hx
  have hq0 : (0 : Int) ≤ (q : Int) := by omega
  refine ARun.goK (k := [_, _, _]) 60 ?_
  simp only [W, seval, c83, hbl, hd, hbg, hq0]
  refine callS_fn (digitR_ab x _) ?_
  rintro _ _ ⟨rfl, rfl⟩
  cases hdx : digitB x
  ·rw [runAt_stop digitB bs q x hx (by rw [hdx]; simp)] at hrq
   subst hrq
   refine ARun.goK 60 ?_
   simp only [W, seval, c83]
   refine hend () trivial _ _ ?_ rfl
   refine Agree.env _ ?_
   simp only [agw, seval]
  ·refine ARun.goK 60 ?_
   simp only [W, seval, c83, hw]
   refine ih (q + 1) ⟨by omega, by rw [← runAt_next digitB bs q x hx hdx]; exact hrq⟩ (by omega) _ _ ?_ rfl
   refine Agree.env _ ?_
   simp only [agw, seval]
 rintro ⟨⟩ -
 have hsl := sl_bytes bs p e
 rw [htx] at hsl
 have h1 : (0 : Int) ≤ (p : Int) ∧ (p : Int) ≤ (e : Int) ∧ (e : Int) ≤ (bs.length : Int) := by omega
 have hbp := byD_get hc
 have hp0 : (0 : Int) ≤ (p : Int) := by omega
 have hw1 := wrap_in ((p : Int) + 1) (by omega)
 have hw2 := wrap_in ((e : Int) - (p : Int)) (by omega)
 -- what stands behind
 obtain ⟨L1, hL1⟩ : ∃ b, (decide (e < bs.length) && letterB (bs.getD e 0)) = b := ⟨_, rfl⟩
 obtain ⟨L2, hL2⟩ : ∃ b, (decide (bs.getD p 0 = 48) && decide (p + 1 < e)) = b := ⟨_, rfl⟩
 have hc48 : decide ((c.toNat : Int) = 48) = decide (c = 48) := by
  rw [decide_eq_decide]
  constructor
  ·intro h; exact UInt8.toNat_inj.1 (by show c.toNat = 48; omega)
  ·rintro rfl; rfl
 have hpe : decide ((p : Int) + 1 < (e : Int)) = decide (p + 1 < e) := by rw [decide_eq_decide]; omega
 have h20 : decide ((20 : Int) < (e : Int) - (p : Int)) = decide (20 < e - p) := by rw [decide_eq_decide]; omega
 have he20 : decide ((e : Int) - (p : Int) = 20) = decide (e - p = 20) := by rw [decide_eq_decide]; omega
 have hov := gtr_over (digitsAt bs p)
 unfold maxS at hov
 rw [hgd] at hL2
 rw [hgd, hL1, hL2] at hrule
 refine ARun.goK (k := [_]) 2 ?_
 simp only [W, seval, c83]
 refine ARun.after [_] _ (fun _ : Unit => (envS 226 [(0, .d (.sl (byD bs))), (1, .d (.int .i64 (p : Int))), (4, .ptr N 0), (6, .d (.int .i64 (e : Int))), (182, .d (.bool (!numberOk bs p)))], ⟨B ++ [ze5], T⟩)) (fun _ => True) ?_ ?_
 case refine_2 =>
  intro K' hend
  have hq0 : (0 : Int) ≤ (e : Int) := by omega
  clear hval htx hnw hdat hdall hr1 hr2 hta
  generalize decide (c = 48) = b1 at *
  generalize decide (p + 1 < e) = b2 at *
  generalize decide (20 < e - p) = b3 at *
  generalize decide (e - p = 20) = b4 at *
  by_cases hel : e < bs.length
  ·have hd : decide ((e : Int) < (bs.length : Int)) = true := decide_eq_true (by omega)
   obtain ⟨y, hy⟩ : ∃ y, bs[e]? = some y := ⟨_, List.getElem?_eq_getElem hel⟩
   have hgy : bs.getD e 0 = y := by rw [List.getD_eq_getElem?_getD, hy]; rfl
   have hbe := byD_get hy
   rw [hgy, decide_eq_true hel, Bool.true_and] at hL1
   refine ARun.goK (k := [_]) 60 ?_
   simp only [W, seval, c83, hbl, hd, hbe, hq0]
   refine callS_fn (letterR_ab y _) ?_
   rintro _ _ ⟨rfl, rfl⟩
   rw [hL1]
   subst hL2
   cases L1 <;> cases b1 <;> cases b2 <;> cases b3 <;> cases b4
   all_goals
    refine ARun.goK 60 ?_
    simp only [W, seval, c83, hbl, hbp, hp0, hc48, hpe, hw1, hw2, h20, he20, hz, hsl, h1, hov, Int.toNat_natCast, and_self, true_and, Nat.zero_lt_one, if_true]
    refine hend () trivial _ _ ?_ rfl
    refine Agree.env _ ?_
    simp only [agw, seval, hrule, Bool.not_not, Bool.true_or, Bool.false_or, Bool.or_false, Bool.or_true, Bool.true_and, Bool.false_and, Bool.and_self, Bool.and_false, Bool.not_true, Bool.not_false]
  ·have hd : decide ((e : Int) < (bs.length : Int)) = false := decide_eq_false (by omega)
   rw [decide_eq_false hel, Bool.false_and] at hL1
   subst hL1 hL2
   cases b1 <;> cases b2 <;> cases b3 <;> cases b4
   all_goals
    refine ARun.goK (k := [_]) 100 ?_
    simp only [W, seval, c83, hbl, hd, hbp, hp0, hc48, hpe, hw1, hw2, h20, he20, hz, hsl, h1, hov, Int.toNat_natCast, and_self, true_and, Nat.zero_lt_one, if_true]
    refine hend () trivial _ _ ?_ rfl
    refine Agree.env _ ?_
    simp only [agw, seval, hrule, Bool.not_not, Bool.true_or, Bool.false_or, Bool.or_false, Bool.or_true, Bool.true_and, Bool.false_and, Bool.and_self, Bool.and_false, Bool.not_true, Bool.not_false]
 rintro ⟨⟩ -
 cases hok : numberOk bs p
 ·rw [if_neg (by simp)]
  refine ARun.goK (k := [_, _]) 60 ?_
  simp only [W, seval, c83, hok, Bool.not_false, hn, ze5]
  refine retc2 (v := ?_) Tryz.func83 (by rfl) ?_ ?_
  rotate_left
  ·simp only [W, seval, c83, hn]
   exact rfl
  refine Left.box ?_
  simp only [W, seval, c83, wk, wkL]
  exact ⟨rfl, rfl⟩
 ·rw [if_pos rfl, hnw]
  have hmax := hval hok
  refine ARun.goK (k := [_, _]) 60 ?_
  simp only [W, seval, c83, hok, Bool.not_true]
  refine ARun.after [_, _] _ (fun _ : Unit => (envS 226 [(0, .d (.sl (byD bs))), (1, .d (.int .i64 (p : Int))), (4, .ptr N 0), (6, .d (.int .i64 (e : Int))), (8, .d (.int .u64 (valD (digitsAt bs p) : Nat)))], ⟨B ++ [ze5], T⟩)) (fun _ => True) ?_ ?_
  ·rintro ⟨⟩ -
   refine ARun.goK (k := [_]) 60 ?_
   simp only [W, seval, c83, hn, hbl, hz, hsl, h1, ze5, Int.toNat_natCast, and_self, true_and, Nat.zero_lt_one, if_true]
   refine retc2 (v := ?_) Tryz.func83 (by rfl) ?_ ?_
   rotate_left
   ·simp only [W, seval, c83, hn]
    exact rfl
   refine Left.box ?_
   simp only [W, seval, c83, wk, wkL]
   exact ⟨rfl, rfl⟩
  intro K' hend
  refine ARun.loopW (fun m : Nat => (envS 226 [(0, .d (.sl (byD bs))), (1, .d (.int .i64 (p : Int))), (4, .ptr N 0), (6, .d (.int .i64 (e : Int))), (8, .d (.int .u64 (valD ((digitsAt bs p).take (m - p)) : Nat))), (9, .d (.int .i64 (m : Int)))], ⟨B ++ [ze5], T⟩)) (fun m => p ≤ m ∧ m ≤ e) (fun m => e - m) p ⟨Nat.le_refl _, by omega⟩ ?_ rfl ?_
  ·skip
   refine Agree.env _ ?_
   simp only [agw, seval, Nat.sub_self, List.take_zero]
   rfl
  rintro m ⟨hpm, hme⟩ ih
  dsimp only at hpm hme ih ⊢
  by_cases hml : m < e
  case neg =>
   have hd : decide ((m : Int) < (e : Int)) = false := decide_eq_false (by omega)
   have hall : (digitsAt bs p).take (m - p) = digitsAt bs p := List.take_of_length_le (by omega)
   rw [hall]
   refine ARun.goK (k := [_, _, _]) 60 ?_
   simp only [W, seval, c83, hd]
   refine hend () trivial _ _ ?_ rfl
   refine Agree.env _ ?_
   simp only [agw, seval]
  have hd : decide ((m : Int) < (e : Int)) = true := decide_eq_true (by omega)
  have hw := wrap_in ((m : Int) + 1) (by omega)
  obtain ⟨a, ha1, ha2, ha3⟩ := hdat (m - p) (by omega)
  rw [show p + (m - p) = m by omega] at ha3
  have hbg := byD_get ha3
  have hm0 : (0 : Int) ≤ (m : Int) := by omega
  have had := of_decide_eq_true ha2
  have htk : (digitsAt bs p).take (m + 1 - p) = (digitsAt bs p).take (m - p) ++ [a] := by
   rw [show m + 1 - p = (m - p) + 1 by omega, List.take_add_one, ha1]
   rfl
  have hv1 := valD_take_le (digitsAt bs p) (m + 1 - p)
  rw [htk, valD_snoc] at hv1
  have hnx : valD ((digitsAt bs p).take (m + 1 - p)) = valD ((digitsAt bs p).take (m - p)) * 10 + (a.toNat - 48) := by rw [htk, valD_snoc]
  have hmu : maxU = 18446744073709551615 := rfl
  generalize hvn : valD ((digitsAt bs p).take (m - p)) = vn at *
  have hwm : IntKind.u64.wrap ((vn : Int) * 10) = (vn : Int) * 10 := by
   unfold IntKind.wrap
   simp [IntKind.signed, IntKind.bits]
   omega
  have hws : IntKind.u8.wrap ((a.toNat : Int) - 48) = (a.toNat : Int) - 48 := by
   unfold IntKind.wrap
   simp [IntKind.signed, IntKind.bits]
   omega
  have hwc : IntKind.u64.wrap ((a.toNat : Int) - 48) = (a.toNat : Int) - 48 := by
   unfold IntKind.wrap
   simp [IntKind.signed, IntKind.bits]
   omega
  have hwa : IntKind.u64.wrap ((vn : Int) * 10 + ((a.toNat : Int) - 48)) = ((vn * 10 + (a.toNat - 48) : Nat) : Int) := by
   unfold IntKind.wrap
   simp [IntKind.signed, IntKind.bits]
   omega
  refine ARun.goK (k := [_, _, _]) 60 ?_
  simp only [W, seval, c83, hd, hbg, hm0, hwm, hws, hwc, hwa, hw, Int.toNat_natCast]
  refine ih (m + 1) ⟨by omega, by omega⟩ (by omega) _ _ ?_ rfl
  rw [hnx]
  refine Agree.env _ ?_
  simp only [agw, seval]
set_option maxHeartbeats 4000000 in
theorem tk_rest (bs : List UInt8) (hl : bs.length ≤ 100000) (p : Nat) (hp : p ≤ bs.length) (N : Nat) (B : List (List V)) (hn : B.length = N) (T : List (Nat × Nat)) (k : List Item) :
 ARun Tryz.prog TabI (B.length, T.length) 83 (.code (kF Tryz.f83 34) :: k) (envS 226 [(0, .d (.sl (byD bs))), (1, .d (.int .i64 (p : Int))), (4, .ptr N 0)]) ⟨B ++ [ze5], T⟩ (TkR B T (takeAt bs p)) := by
 have hbl := byD_len bs
 by_cases hpe : p = bs.length
 ·have hd : decide ((p : Int) = (bs.length : Int)) = true := decide_eq_true (by omega)
  have hta : takeAt bs p = (⟨0, [], 0, p, p⟩, 0) := if_pos hpe
  rw [hta]
  refine ARun.goK (k := [_]) 60 ?_
  simp only [W, seval, c83, hn, hbl, hd, ze5]
  refine retc2 (v := ?_) Tryz.func83 (by rfl) ?_ ?_
  rotate_left
  ·simp only [W, seval, c83, hn]
   exact rfl
  refine Left.box ?_
  simp only [W, seval, c83, wk, wkL]
  exact ⟨rfl, rfl⟩
 have hd : decide ((p : Int) = (bs.length : Int)) = false := decide_eq_false (by omega)
 obtain ⟨c, hc⟩ : ∃ c, bs[p]? = some c := ⟨_, List.getElem?_eq_getElem (by omega)⟩
 have hgd : bs.getD p 0 = c := by rw [List.getD_eq_getElem?_getD, hc]; rfl
 have hbg := byD_get hc
 have hp0 : (0 : Int) ≤ (p : Int) := by omega
 refine ARun.goK (k := [_]) 60 ?_
 simp only [W, seval, c83, hbl, hd, hbg, hp0]
 refine callS_fn (letterR_ab c _) ?_
 rintro _ _ ⟨rfl, rfl⟩
 cases hlt : letterB c
 case true =>
  refine ARun.goK 2 ?_
  simp only [W, seval, c83]
  refine ARun.weak ?_ (tk_letter bs hl p c hc hlt N B hn T _)
  refine Agree.env _ ?_
  simp only [agw, seval]
 refine ARun.goK (k := [_, _, _]) 60 ?_
 simp only [W, seval, c83, hbg, hp0]
 refine callS_fn (digitR_ab c _) ?_
 rintro _ _ ⟨rfl, rfl⟩
 cases hdg : digitB c
 case true =>
  refine ARun.goK 2 ?_
  simp only [W, seval, c83]
  refine ARun.weak ?_ (tk_number bs hl p c hc hlt hdg N B hn T _)
  refine Agree.env _ ?_
  simp only [agw, seval]
 have hta : takeAt bs p = match signAt (bs.drop p) with
  | some s => (⟨3, s, 0, p, p + s.length⟩, 0)
  | none => (WordS.zero, 50) := by
  unfold takeAt
  rw [if_neg hpe, hgd, if_neg (by rw [hlt]; simp), if_neg (by rw [hdg]; simp)]
  cases signAt (bs.drop p) <;> rfl
 rw [hta]
 have hsg := sign_ab bs p (by omega) hl
 refine ARun.goK (k := [_, _, _]) 60 ?_
 simp only [W, seval, c83]
 refine callS_fn (hsg _ _) ?_
 rintro _ _ ⟨rfl, rfl⟩
 unfold signLen
 cases hs : signAt (bs.drop p) with
 | none =>
  dsimp only
  refine ARun.goK (k := [_, _]) 60 ?_
  simp only [W, seval, c83, hn, ze5]
  refine retc2 (v := ?_) Tryz.func83 (by rfl) ?_ ?_
  rotate_left
  ·simp only [W, seval, c83, hn]
   exact rfl
  refine Left.box ?_
  simp only [W, seval, c83, wk, wkL]
  exact ⟨rfl, rfl⟩
 | some q =>
  dsimp only
  have hpre : hasPre (bs.drop p) q = true := List.find?_some hs
  have hmem := List.mem_of_find?_eq_some hs
  have hq0 : ¬ (q.length : Int) = 0 := by
   have h3 : ∀ q ∈ signsL, ¬ q.length = 0 := by decide
   have := h3 q hmem
   omega
  have hqd : decide ((q.length : Int) = 0) = false := decide_eq_false hq0
  have htq : (bs.drop p).take q.length = q := by
   rw [← take_beq] at hpre
   exact beq_iff_eq.1 hpre
  have hle : p + q.length ≤ bs.length := by
   have := congrArg List.length htq
   simp only [List.length_take, List.length_drop] at this
   omega
  have hsl := fromB bs p q.length
  rw [htq] at hsl
  have hz : rowsSz 1 (byD bs) = true := rowsSz_map byteRow (fun _ => rfl) bs
  have hw := wrap_in ((p : Int) + (q.length : Int)) (by omega)
  have h1 : (0 : Int) ≤ (p : Int) ∧ (p : Int) ≤ (p : Int) + (q.length : Int) ∧ (p : Int) + (q.length : Int) ≤ (bs.length : Int) := by omega
  have h2 : ((p : Int) + (q.length : Int)).toNat - p = q.length := by omega
  refine ARun.goK (k := [_, _]) 80 ?_
  simp only [W, seval, c83, hn, hbl, hqd, hw, h1, h2, hz, hsl, ze5, Int.toNat_natCast, and_self, true_and, Nat.zero_lt_one, if_true]
  refine retc2 (v := ?_) Tryz.func83 (by rfl) ?_ ?_
  rotate_left
  ·simp only [W, seval, c83, hn]
   exact rfl
  refine Left.box ?_
  simp only [W, seval, c83, wk, wkL]
  exact ⟨rfl, rfl⟩
set_option maxHeartbeats 4000000 in
theorem takeR_ab (bs : List UInt8) (hl : bs.length ≤ 100000) (i : Nat) (hi : i ≤ bs.length) (B : List (List V)) (T : List (Nat × Nat)) : AFn Tryz.prog TabI 83 [.d (.sl (byD bs)), .d (.int .i64 (i : Int))] ⟨B, T⟩ (Same (.tup [.agg (wdL (takeS bs i).1), .d (.int .i64 ((takeS bs i).2 : Nat))]) ⟨B, T⟩) := by
 obtain ⟨N, hn⟩ : ∃ N, B.length = N := ⟨_, rfl⟩
 have hbl := byD_len bs
 have hr : takeS bs i = takeAt bs (whiteAt bs i) := by
  unfold takeS
  rw [if_neg (by omega)]
  rfl
 rw [hr]
 have d0 : decide ((i : Int) < 0) = false := decide_eq_false (by omega)
 have d1 : decide ((bs.length : Int) < (i : Int)) = false := decide_eq_false (by omega)
 refine b83.go 60 rfl fun hsm => ?_
 simp only [smw] at hsm
 simp only [W, seval, c83, hn, hbl, d0, d1]
 change ARun _ _ _ _ _ _ ⟨B ++ [ze5], T⟩ _
 refine ARun.after [_, _] _ (fun _ : Unit => (envS 226 [(0, .d (.sl (byD bs))), (1, .d (.int .i64 (whiteAt bs i : Int))), (4, .ptr N 0)], ⟨B ++ [ze5], T⟩)) (fun _ => True) ?_ ?_
 ·rintro ⟨⟩ -
  have := tk_rest bs hl (whiteAt bs i) (whiteAt_le bs i) N B hn T []
  rw [hn] at this
  exact this
 intro K' hend
 refine ARun.loopW (fun j : Nat => (envS 226 [(0, .d (.sl (byD bs))), (1, .d (.int .i64 (j : Int))), (4, .ptr N 0)], ⟨B ++ [ze5], T⟩)) (fun j => j ≤ bs.length ∧ skipM false (bs.drop i) = skipM false (bs.drop j)) (fun j => bs.length - j) i ⟨hi, rfl⟩ ?_ rfl ?_
 ·skip
  refine Agree.env _ ?_
  simp only [agw, seval]
 rintro j ⟨hj, hsk⟩ ih
 dsimp only at hj hsk ih ⊢
 by_cases hjl : j < bs.length
 case neg =>
  have hd : decide ((j : Int) < (bs.length : Int)) = false := decide_eq_false (by omega)
  have hwt : whiteAt bs i = j := whiteAt_of bs i j hj (by rw [hsk, List.drop_eq_nil_of_le (by omega)]; rfl)
  rw [hwt] at hend ⊢
  refine ARun.goK (k := [_, _, _]) 100 ?_
  simp only [W, seval, c83, hbl, hd]
  refine hend () trivial _ _ ?_ rfl
  refine Agree.env _ ?_
  simp only [agw, seval]
 have hd : decide ((j : Int) < (bs.length : Int)) = true := decide_eq_true (by omega)
 have hw := wrap_in ((j : Int) + 1) (by omega)
 obtain ⟨c, hc⟩ : ∃ c, bs[j]? = some c := ⟨_, List.getElem?_eq_getElem hjl⟩
 have hdr := drop_cons_of hc
 have hbg := byD_get hc
 have hj0 : (0 : Int) ≤ (j : Int) := by omega
 have hsl := pre_slash (bs.drop j) c (bs.drop (j + 1)) hdr
 have hhas := has_ab bs [47, 47] j (by omega) hl (by simp)
 by_cases hwc : whiteB c = true
 ·have hcs := of_decide_eq_true hwc
  have hno : hasPre (bs.drop j) [47, 47] = false := by
   rw [Bool.eq_false_iff]
   intro h
   have := (hsl.1 h).1
   omega
  rw [hno] at hhas
  rw [hdr, skip_white c _ hwc] at hsk
  rcases hcs with h | h | h | h
  all_goals
   rw [h] at hbg
   refine ARun.goK (k := [_, _, _]) 100 ?_
   simp only [W, seval, c83, hbl, hd, hbg, hj0, Int.cast_ofNat_Int]
   refine callS_fn (hhas _ _) ?_
   rintro _ _ ⟨rfl, rfl⟩
   refine ARun.goK 60 ?_
   simp only [W, seval, c83, hw]
   refine ih (j + 1) ⟨by omega, hsk⟩ (by omega) _ _ ?_ rfl
   refine Agree.env _ ?_
   simp only [agw, seval]
 have hnw : whiteB c = false := by simpa using hwc
 have hnw' := of_decide_eq_false hnw
 have f32 : decide ((c.toNat : Int) = 32) = false := decide_eq_false (by omega)
 have f9 : decide ((c.toNat : Int) = 9) = false := decide_eq_false (by omega)
 have f10 : decide ((c.toNat : Int) = 10) = false := decide_eq_false (by omega)
 have f13 : decide ((c.toNat : Int) = 13) = false := decide_eq_false (by omega)
 refine ARun.goK (k := [_, _, _]) 100 ?_
 simp only [W, seval, c83, hbl, hd, hbg, hj0, f32, f9, f10, f13]
 refine callS_fn (hhas _ _) ?_
 rintro _ _ ⟨rfl, rfl⟩
 cases hh : hasPre (bs.drop j) [47, 47]
 ·have hno : ¬ (c.toNat = 47 ∧ (bs.drop (j + 1)).head? = some 47) := fun h => by rw [hsl.2 h] at hh; cases hh
  have hwt : whiteAt bs i = j := whiteAt_of bs i j hj (by rw [hsk, hdr, skip_stop c _ hwc hno])
  rw [hwt] at hend ⊢
  refine ARun.goK 60 ?_
  simp only [W, seval, c83]
  refine hend () trivial _ _ ?_ rfl
  refine Agree.env _ ?_
  simp only [agw, seval]
 obtain ⟨h47, h48⟩ := hsl.1 hh
 rw [hh] at hhas
 rw [hdr, skip_open c _ h47 h48, ← hdr] at hsk
 refine ARun.goK 60 ?_
 simp only [W, seval, c83]
 refine callS_fn (hhas _ _) ?_
 rintro _ _ ⟨rfl, rfl⟩
 refine ARun.goK 5 ?_
 simp only [W, seval, c83]
 refine ARun.after [_, _] _ (fun m : Nat => (envS 226 [(0, .d (.sl (byD bs))), (1, .d (.int .i64 (m : Int))), (4, .ptr N 0)], ⟨B ++ [ze5], T⟩)) (fun m => j < m ∧ m ≤ bs.length ∧ skipM false (bs.drop i) = skipM false (bs.drop m)) ?_ ?_
 ·rintro m ⟨h1, h2, h3⟩
  refine ARun.goK (k := [_, _, _]) 10 ?_
  simp only [W, seval, c83]
  refine ih m ⟨h2, h3⟩ (by omega) _ _ ?_ rfl
  refine Agree.env _ ?_
  simp only [agw, seval]
 intro K2 hend2
 refine ARun.loopW (fun m : Nat => (envS 226 [(0, .d (.sl (byD bs))), (1, .d (.int .i64 (m : Int))), (4, .ptr N 0)], ⟨B ++ [ze5], T⟩)) (fun m => j ≤ m ∧ m ≤ bs.length ∧ skipM false (bs.drop i) = skipM true (bs.drop m)) (fun m => bs.length - m) j ⟨Nat.le_refl _, hj, hsk⟩ ?_ rfl ?_
 ·skip
  refine Agree.env _ ?_
  simp only [agw, seval]
 rintro m ⟨h1, h2, h3⟩ ih2
 dsimp only at h1 h2 h3 ih2 ⊢
 by_cases hml : m < bs.length
 case neg =>
  have hdm : decide ((m : Int) < (bs.length : Int)) = false := decide_eq_false (by omega)
  refine ARun.goK (k := [_, _, _]) 60 ?_
  simp only [W, seval, c83, hbl, hdm]
  refine hend2 m ⟨by omega, h2, by rw [h3, List.drop_eq_nil_of_le (by omega)]; rfl⟩ _ _ ?_ rfl
  refine Agree.env _ ?_
  simp only [agw, seval]
 have hdm : decide ((m : Int) < (bs.length : Int)) = true := decide_eq_true (by omega)
 have hwm := wrap_in ((m : Int) + 1) (by omega)
 obtain ⟨x, hx⟩ : ∃ x, bs[m]? = some x := ⟨_, List.getElem?_eq_getElem hml⟩
 have hdx := drop_cons_of hx
 have hbx := byD_get hx
 have hm0 : (0 : Int) ≤ (m : Int) := by omega
 rw [hdx] at h3
 by_cases hx10 : x.toNat = 10
 ·have hxd : decide ((x.toNat : Int) = 10) = true := decide_eq_true (by omega)
  have hjm : j < m := by
   rcases Nat.lt_or_ge j m with h | h
   ·exact h
   ·obtain rfl : m = j := by omega
    rw [hx] at hc
    obtain rfl := Option.some.inj hc
    omega
  rw [skip_line x _ hx10, ← hdx] at h3
  refine ARun.goK (k := [_, _, _]) 60 ?_
  simp only [W, seval, c83, hbl, hdm, hbx, hm0, hxd, Bool.not_true]
  refine hend2 m ⟨hjm, h2, h3⟩ _ _ ?_ rfl
  refine Agree.env _ ?_
  simp only [agw, seval]
 ·have hxd : decide ((x.toNat : Int) = 10) = false := decide_eq_false (by omega)
  rw [skip_in x _ hx10] at h3
  refine ARun.goK (k := [_, _, _]) 60 ?_
  simp only [W, seval, c83, hbl, hdm, hbx, hm0, hxd, hwm, Bool.not_false]
  refine ih2 (m + 1) ⟨by omega, by omega, h3⟩ (by omega) _ _ ?_ rfl
  refine Agree.env _ ?_
  simp only [agw, seval]
def c53 := by
 have c := KK_of Tryz.f53 (by conv => lhs; cbv)
 dsimp only [KK, KxP, doO, opO, List.map_cons, List.map_nil, List.toList_toArray] at c
 exact c
theorem b53 : FnIs Tryz.prog 53 Tryz.f53 31 := ⟨Tryz.func53, by kernel_rfl⟩
theorem exprR_ok (L : List WordS) (hG : GoodL L) : ∀ n : Nat, EOr L (exprF false n) n
 | 0 => fun s h => absurd h (Nat.not_lt_zero _)
 | n + 1 => by
  have ih := exprR_ok L hG n
  have hd := dn_expr false n
  intro s hs
  refine expr_pr L hG (O := operP false (exprF false n) (n + 1)) (n := n) (fun s hs => ?_) (DnE.of fun h => dn_oper hd h) (n + 1) (by omega) s (by omega)
  exact oper_pr L hG (P := primP false (exprF false n) (n + 1)) (fun s hs => prim_pr L hG ih hd (n + 1) (by omega) s hs) (DnE.of fun h => dn_prim hd h) ih hd (n + 1) (by omega) s hs
theorem stmtR_ok (L : List WordS) (hG : GoodL L) : ∀ n : Nat, SOr L (stmtF false n) n
 | 0 => ⟨fun s h => absurd h (Nat.not_lt_zero _), fun s h => absurd h (Nat.not_lt_zero _)⟩
 | n + 1 => by
  have ih := stmtR_ok L hG n
  refine ⟨fun s hs => stmt_pr L hG (exprR_ok L hG (n + 1)) (dn_expr false (n + 1)) ih (dn_stmtF false n) (n + 1) (by omega) s hs, fun s hs hp => ?_⟩
  exact stmt_lt (dn_expr false (n + 1)) (dn_stmtF false n) (m := n + 1) (by omega) (x := (stmtF false (n + 1) s).1) rfl hp
theorem take_zero (bs : List UInt8) (i : Nat) (hi : i ≤ bs.length) (h : ¬ (takeS bs i).2 = 0) : (takeS bs i).1 = WordS.zero := by
 have hr : takeS bs i = takeAt bs (whiteAt bs i) := by
  unfold takeS
  rw [if_neg (by omega)]
  rfl
 rw [hr] at h ⊢
 unfold takeAt at h ⊢
 split
 ·rename_i h1; rw [if_pos h1] at h; exact absurd rfl h
 ·rename_i h1
  rw [if_neg h1] at h
  split
  ·rename_i h2; rw [if_pos h2] at h; exact absurd rfl h
  ·rename_i h2
   rw [if_neg h2] at h
   split
   ·rename_i h3
    rw [if_pos h3] at h
    split
    ·rename_i h4; rw [if_pos h4] at h; exact absurd rfl h
    ·rfl
   ·rename_i h3
    rw [if_neg h3] at h
    split
    ·rename_i h4; rw [h4] at h; exact absurd rfl h
    ·rfl
theorem rows5 (x : WordS) : [D.int .i64 x.kind, .str x.text, .int .u64 x.int, .int .i64 x.at', .int .i64 x.next] = wdD x := rfl
theorem wd1 (x : WordS) : rowsSz 5 [wdD x] = true := rfl
set_option maxHeartbeats 8000000 in
theorem words_ab (bs : List UInt8) (hl : bs.length ≤ 100000) (B : List (List V)) (T : List (Nat × Nat)) : AFn Tryz.prog TabI 53 [.d (.sl (byD bs))] ⟨B, T⟩ (Same (.d (.sl ((wordsAt bs 0).map wdD))) ⟨B, T⟩) := by
 obtain ⟨N, hn⟩ : ∃ N, B.length = N := ⟨_, rfl⟩
 obtain ⟨t, ht⟩ : ∃ t, T.length = t := ⟨_, rfl⟩
 have hwl := wordsAt_len bs 0
 obtain ⟨L, hL⟩ : ∃ L, wordsAt bs 0 = L := ⟨_, rfl⟩
 rw [hL] at hwl ⊢
 refine b53.go 8 rfl fun hsm => ?_
 simp only [smw] at hsm
 simp only [W, seval, c53, hn]
 refine ARun.fits fun hf => ?_
 refine ARun.token 3 [] (by rfl) 5 (by omega) rfl ?_
 simp only [envS_put, ht, List.length_nil]
 refine ARun.go 20 ?_
 simp only [W, seval, c53]
 refine ARun.loopB (fun a : List WordS × Nat => (envS 31 [(0, .d (.sl (byD bs))), (3, .sl (a.1.map wdD) (.own t)), (4, .d (.int .i64 (a.2 : Int)))], ⟨B, T ++ [(a.1.length, 5)]⟩)) (fun a => a.2 ≤ bs.length ∧ a.1 ++ wordsAt bs a.2 = L) (fun a => bs.length - a.2) ([], 0) ⟨Nat.zero_le _, hL⟩ ?_ rfl ?_
 ·skip
  refine Agree.env _ ?_
  simp only [agw, seval]
  rfl
 rintro ⟨l, i⟩ ⟨hi, hw⟩ ih
 dsimp only at hi hw ih ⊢
 have hle : l.length + 1 ≤ L.length := by
  rw [← hw, wordsAt_eq bs i hi]
  simp only [List.length_append]
  split
  ·split <;> simp
  ·simp
 have hcap : (l.length + 1) * 48 ≤ 140737488355328 := by omega
 have htk := takeR_ab bs hl i hi B (T ++ [(l.length, 5)])
 refine ARun.goK (k := [_, _]) 20 ?_
 simp only [W, seval, c53]
 refine callS_fn htk ?_
 rintro _ _ ⟨rfl, rfl⟩
 rw [wordsAt_eq bs i hi] at hw
 by_cases he : (takeS bs i).2 = 0
 case neg =>
  have hz := take_zero bs i hi he
  rw [if_neg he] at hw
  have hd : decide (((takeS bs i).2 : Int) = 0) = false := decide_eq_false (by omega)
  rw [hz]
  have hmap : l.map wdD ++ [wdD w9] = L.map wdD := by rw [← hw]; simp
  have hw9 : [D.int .i64 9, .str [], .int .u64 0, .int .i64 0, .int .i64 0] = wdD w9 := rfl
  unfold wdL
  refine ARun.goK 80 ?_
  simp only [W, seval, c53, hn, ht, hd, WordS.zero, Int.natCast_zero, mapD_nil, mapD_cons, Nat.reduceMul, hw9, wd1, hcap, hmap]
  refine ARun.ret Tryz.func53 rfl (Left.all ?_)
  refine ⟨?_, rfl⟩
  simp only [W, seval, c53, wk, ht, Nat.lt_irrefl]
 rw [if_pos he] at hw
 have hd : decide (((takeS bs i).2 : Int) = 0) = true := decide_eq_true (by omega)
 have hk4 := take_kind bs i
 obtain ⟨x, hx⟩ : ∃ x, (takeS bs i).1 = x := ⟨_, rfl⟩
 have hnx := take_next bs i hi he
 rw [hx] at hw hk4 hnx ⊢
 have h9 : decide ((x.kind : Int) = 9) = false := decide_eq_false (by omega)
 by_cases hk : x.kind = 0
 case pos =>
  rw [if_pos hk] at hw
  have h0 : decide ((x.kind : Int) = 0) = true := decide_eq_true (by omega)
  have hmap : l.map wdD ++ [wdD x] = L.map wdD := by rw [← hw]; simp
  unfold wdL
  refine ARun.goK 80 ?_
  simp only [W, seval, c53, hn, ht, hd, mapD_nil, mapD_cons, Nat.reduceMul, rows5, wd1, hcap, hmap, h0]
  refine ARun.ret Tryz.func53 rfl (Left.all ?_)
  refine ⟨?_, rfl⟩
  simp only [W, seval, c53, wk, ht, Nat.lt_irrefl]
 have h0 : decide ((x.kind : Int) = 0) = false := decide_eq_false (by omega)
 rw [if_neg hk] at hw
 have hnx := hnx hk
 have hmap : l.map wdD ++ [wdD x] = (l ++ [x]).map wdD := by simp
 have hlen : (l ++ [x]).length = l.length + 1 := by simp
 unfold wdL
 refine ARun.goK 80 ?_
 simp only [W, seval, c53, hn, ht, hd, mapD_nil, mapD_cons, Nat.reduceMul, rows5, wd1, hcap, hmap, h0, h9]
 have ht1 : t < t + 1 := by omega
 refine ih (l ++ [x], x.next) ⟨hnx.2, by rw [← hw]; simp⟩ (by dsimp only; omega) _ B _ (T ++ [(l.length + 1, 5)]) (by dsimp only; rw [hlen]) ⟨by omega, by simp [ht]⟩ ?_ ?_
 ·have := Fits.more (X := []) (Y := [(l.length + 1, 5)]) hf (by simp)
  simpa using this
 ·refine AgreeF.env _ ?_
  simp only [agf, seval, ht, ht1, List.length_append, List.length_cons, List.length_nil, Nat.zero_add]
def c23 := by
 have c := KK_of Tryz.f23 (by conv => lhs; cbv)
 dsimp only [KK, KxP, doO, opO, List.map_cons, List.map_nil, List.toList_toArray] at c
 exact c
def c7 := by
 have c := KK_of Tryz.f7 (by conv => lhs; cbv)
 dsimp only [KK, KxP, doO, opO, List.map_cons, List.map_nil, List.toList_toArray] at c
 exact c
theorem b7 : FnIs Tryz.prog 7 Tryz.f7 72 := ⟨Tryz.func7, by kernel_rfl⟩
theorem wordsF_last (bs : List UInt8) : ∀ (f i j : Nat) (h : j < (wordsF bs f i).length), ((wordsF bs f i)[j].kind = 0 ∨ (wordsF bs f i)[j].kind = 9) ↔ j + 1 = (wordsF bs f i).length
 | 0, i, j, h => by
  have : j = 0 := by simp [wordsF] at h; exact h
  subst this
  simp [wordsF, w9]
 | f + 1, i, j, h => by
  have ih := wordsF_last bs f (takeS bs i).1.next
  have hk4 := take_kind bs i
  unfold wordsF at h ⊢
  by_cases he : (takeS bs i).2 = 0
  ·simp only [if_pos he] at h ⊢
   by_cases hk : (takeS bs i).1.kind = 0
   ·simp only [if_pos hk] at h ⊢
    have : j = 0 := by simpa using h
    subst this
    simp [hk]
   ·simp only [if_neg hk] at h ⊢
    cases j with
    | zero =>
     have hpos : 0 < (wordsF bs f (takeS bs i).1.next).length := by
      cases f with
      | zero => simp [wordsF]
      | succ f =>
       unfold wordsF
       split
       ·split <;> simp
       ·simp
     simp only [List.getElem_cons_zero, List.length_cons]
     omega
    | succ j =>
     have := ih j (by simpa using h)
     simp only [List.getElem_cons_succ, List.length_cons]
     rw [this]
     omega
  ·simp only [if_neg he] at h ⊢
   have : j = 0 := by simpa using h
   subst this
   simp [w9]
theorem wordsF_mem (bs : List UInt8) : ∀ (f i : Nat), ∀ w ∈ wordsF bs f i, w = w9 ∨ ∃ k : Nat, w = (takeS bs k).1
 | 0, i, w, h => .inl (by simpa [wordsF] using h)
 | f + 1, i, w, h => by
  unfold wordsF at h
  split at h
  ·split at h
   ·exact .inr ⟨i, by simpa using h⟩
   ·rcases List.mem_cons.1 h with rfl | h
    ·exact .inr ⟨i, rfl⟩
    ·exact wordsF_mem bs f _ w h
  ·exact .inl (by simpa using h)
theorem take_parts (bs : List UInt8) (k : Nat) : ((takeS bs k).1.kind = 3 → kindS (takeS bs k).1.text = 0) ∧ (¬ (takeS bs k).1.kind = 2 → (takeS bs k).1.int = 0) := by
 unfold takeS
 split
 ·exact ⟨fun h => (by cases h), fun _ => rfl⟩
 ·unfold takeAt
  split
  ·exact ⟨fun h => (by cases h), fun _ => rfl⟩
  ·split
   ·refine ⟨fun h => ?_, fun _ => rfl⟩
    simp only at h
    split at h <;> omega
   ·split
    ·split
     ·exact ⟨fun h => (by rw [numberW_kind] at h; omega), fun h => absurd (numberW_kind _ _) h⟩
     ·exact ⟨fun h => (by cases h), fun _ => rfl⟩
    ·split
     ·rename_i s hs
      refine ⟨fun _ => ?_, fun _ => rfl⟩
      have h3 : ∀ s ∈ signsL, kindS s = 0 := by decide
      exact h3 s (List.mem_of_find?_eq_some hs)
     ·exact ⟨fun h => (by cases h), fun _ => rfl⟩
theorem good_words (bs : List UInt8) (hl : bs.length ≤ 100000) : GoodL (wordsAt bs 0) := by
 have hw := wordsAt_len bs 0
 refine ⟨wordsF_last bs _ 0, fun w h hk => ?_, fun w h hk => ?_, by omega⟩
 ·rcases wordsF_mem bs _ 0 w h with rfl | ⟨k, rfl⟩
  ·cases hk
  ·exact (take_parts bs k).1 hk
 ·rcases wordsF_mem bs _ 0 w h with rfl | ⟨k, rfl⟩
  ·rfl
  ·exact (take_parts bs k).2 hk
def startR (L : List WordS) : Ps := if (nowW L 0).kind = 9 then ⟨L, 50, 0, false⟩ else ⟨L, 0, 0, false⟩
theorem startR_ok {L : List WordS} (h0 : 0 < L.length) : OkR L (startR L) := by
 unfold startR
 split
 ·exact ⟨.inr (.inl rfl), h0, Nat.le_refl _, fun h => by cases h⟩
 ·rename_i h
  refine ⟨.inl rfl, h0, Nat.le_refl _, fun _ => ⟨by simp, ?_⟩⟩
  unfold Ps.w
  unfold nowW at h
  rw [List.headD_eq_head?_getD]
  rw [List.getD_eq_getElem?_getD, ← List.head?_eq_getElem?] at h
  exact h
theorem startR_idx {L : List WordS} (hG : GoodL L) (h0 : 0 < L.length) : idxR L (startR L) = 0 := by
 unfold startR
 split
 ·rename_i h
  rw [nowW_get h0] at h
  have := (hG.last 0 h0).1 (.inr h)
  show (if (50 : Int) = 50 then L.length - 1 else _) = _
  rw [if_pos rfl]
  omega
 ·show (if (0 : Int) = 50 then _ else L.length - L.length) = _
  rw [if_neg (by decide)]
  omega
theorem words_pos (bs : List UInt8) : 0 < (wordsAt bs 0).length := by
 rw [wordsAt_eq bs 0 (Nat.zero_le _)]
 split
 ·split <;> simp
 ·simp
set_option maxHeartbeats 4000000 in
theorem openR_ab (bs : List UInt8) (hl : bs.length ≤ 100000) (B : List (List V)) (T : List (Nat × Nat)) : AFn Tryz.prog TabI 23 [.d (.sl (byD bs))] ⟨B, T⟩ (Same (.ptr B.length 0) ⟨B ++ [bxR (wordsAt bs 0) (startR (wordsAt bs 0))], T⟩) := by
 obtain ⟨N, hn⟩ : ∃ N, B.length = N := ⟨_, rfl⟩
 have hwa := words_ab bs hl B T
 have hp := words_pos bs
 have hG := good_words bs hl
 obtain ⟨L, hL⟩ : ∃ L, wordsAt bs 0 = L := ⟨_, rfl⟩
 rw [hL] at hwa hp hG ⊢
 rw [hn]
 have hix := startR_idx hG hp
 have hset : ∀ x : List V, (B ++ [[]]).set N x = B ++ [x] := fun x => by rw [List.set_append_right _ _ (by omega), hn, Nat.sub_self]; rfl
 have hnw := now_raw L 0 hp 0 0 false N (B ++ [[]]) T (by simp; omega)
 rw [hset] at hnw
 refine AFn.bodyN (body := (kF Tryz.f23 0)) 16 Tryz.func23 (by kernel_rfl) (by kernel_rfl) (by kernel_rfl) (Nat.le_of_ble_eq_true rfl) ?_
 refine ARun.go 60 ?_
 simp only [W, seval, c23, hn]
 refine callS_fn hwa ?_
 rintro _ _ ⟨rfl, rfl⟩
 refine ARun.go 60 ?_
 simp only [W, seval, c23, hn]
 refine callS_fn hnw ?_
 rintro _ _ ⟨rfl, rfl⟩
 unfold bxR
 rw [hix]
 unfold startR
 by_cases h9 : (nowW L 0).kind = 9
 ·have hd : decide (((nowW L 0).kind : Int) = 9) = true := decide_eq_true (by omega)
  rw [if_pos h9]
  refine ARun.go 60 ?_
  simp only [W, seval, c23, hn, wdL, hd, opFieldV, fty0]
  refine ARun.ret Tryz.func23 rfl (id ?_)
  exact ⟨rfl, rfl⟩
 ·have hd : decide (((nowW L 0).kind : Int) = 9) = false := decide_eq_false (by omega)
  rw [if_neg h9]
  refine ARun.go 60 ?_
  simp only [W, seval, c23, hn, wdL, hd, opFieldV, fty0]
  refine ARun.ret Tryz.func23 rfl (id ?_)
  exact ⟨rfl, rfl⟩
section
variable {L : List WordS} {f : FuncId} {ar : List V} {s s' : Ps} {v : V} {N : Nat} {B : List (List V)} {T : List (Nat × Nat)} {Z O : List V} {env : List V}
theorem setR3 (hn : B.length = N) (X O : List V) : (B ++ [Z, []]).set (N + 1) X ++ [O] = B ++ [Z, X, O] := by
 rw [List.set_append_right _ _ (by omega), hn, Nat.add_sub_cancel_left, List.append_assoc]
 rfl
theorem PR.fnR (h : PR L f ar s v s') (hn : B.length = N) (hok : OkR L s) : AFn Tryz.prog TabI f (.ptr (N + 1) 0 :: ar) ⟨B ++ [Z, bxR L s, O], T⟩ fun v' m => v' = v ∧ OkR L s' ∧ m = ⟨B ++ [Z, bxR L s', O], T⟩ := by
 have := PF.fn (i := 0) (B := B ++ [Z, []]) (J := [O]) (c := N + 1) (T := T) h (by simp; omega) hok
 simp only [setR3 hn] at this
 refine this.mono ?_
 rintro v' m ⟨h1, _, h2, h3⟩
 exact ⟨h1, h2, h3⟩
theorem PR.callR {stop : Cont} {k : List Item} {d : Option Tmp} (h : PR L f ar s v s') (hn : B.length = N) (hok : OkR L s) (hk : OkR L s' → stop k (setV env d v) ⟨B ++ [Z, bxR L s', O], T⟩) : callS Tryz.prog TabI stop (.func f [] []) (.ptr (N + 1) 0 :: ar) k d env ⟨B ++ [Z, bxR L s, O], T⟩ :=
 callS_fn (PR.fnR h hn hok) fun _ _ ⟨e1, h2, e3⟩ => by rw [e1, e3]; exact hk h2
theorem PR.nowR {stop : Cont} {k : List Item} {d : Option Tmp} (hn : B.length = N) (hok : OkR L s) (hk : stop k (setV env d (.agg (wdL (nowW L (idxR L s))))) ⟨B ++ [Z, bxR L s, O], T⟩) : callS Tryz.prog TabI stop (.func 26 [] []) [.ptr (N + 1) 0] k d env ⟨B ++ [Z, bxR L s, O], T⟩ := by
 have h1 := now_ab L s hok (N + 1) (B ++ [Z, []]) [O] T (by simp; omega)
 simp only [setR3 hn] at h1
 exact callS_fn h1 fun _ _ ⟨e1, e2⟩ => by rw [e1, e2]; exact hk
theorem PR.witR {z : Nat × Nat} {fn : FuncId} {k : List Item} {R : V → Mem → Prop} (h : PR L f ar s v s') (hn : B.length = N) (hok : OkR L s) (ha : ∀ x ∈ V.ptr (N + 1) 0 :: ar, ∃ y : Operand, evalV TabI env y = x) (hk : OkR L s' → ARun Tryz.prog TabI z fn k env ⟨B ++ [Z, bxR L s, O], T⟩ R) : ARun Tryz.prog TabI z fn k env ⟨B ++ [Z, bxR L s, O], T⟩ R :=
 ARun.witness (PR.fnR h hn hok) ha fun ⟨_, _, _, hok', _⟩ => hk hok'
theorem PR.lexcR {W : List Nat} {MM : Mem → Prop} {K : List V → Mem → Prop} {o : Oper} {l : List Oper} {k : Nat} (h : PR L f ar s v s') (hn : B.length = N) (hok : OkR L s) (hok' : OkR L s') (hS : MM ⟨B ++ [Z, bxR L s, O], T⟩) (hk : W.contains k = true) (hg : o.guard = none)
 (h1 : ∃ q f0, o.op = .call q ∧ q.callee = .value f0 ∧ evalV TabI env f0 = .func f [] [] ∧ q.args.toList.map (evalV TabI env) = .ptr (N + 1) 0 :: ar) (h5 : lexC Tryz.prog TabI W MM K l (k + 1) (setV env o.dst v) ⟨B ++ [Z, bxR L s', O], T⟩) : lexC Tryz.prog TabI W MM K (o :: l) k env ⟨B ++ [Z, bxR L s, O], T⟩ := by
 obtain ⟨q, f0, e1, e2, e3, e4⟩ := h1
 refine lexC_c (Q := fun v' m => v' = v ∧ OkR L s' ∧ m = ⟨B ++ [Z, bxR L s', O], T⟩) hS hk hg e1 e2 e3 ⟨_, _, rfl, hok', rfl⟩ ?_ ?_
 ·rw [e4, List.nil_append, List.append_nil]
  exact PR.fnR h hn hok
 ·rintro v' S' ⟨rfl, _, rfl⟩
  exact h5
end
def finR (rg : PrT → Bool) (n : Nat) (s : Ps) : PrT × Int := if (progP false n s).2.e = 0 then (if rg (progP false n s).1 = true then ((progP false n s).1, 0) else (⟨[], []⟩, 51)) else (⟨[], []⟩, (progP false n s).2.e)
set_option maxHeartbeats 8000000 in
theorem parseR_ab (bs : List UInt8) (hl : bs.length ≤ 100000) (n : Nat) (hn1 : bs.length + 5 ≤ n) (rg : PrT → Bool) (hR : ∀ p B T, AFn Tryz.prog TabI 31 [prV p] ⟨B, T⟩ (Same (.d (.bool (rg p))) ⟨B, T⟩)) (B : List (List V)) (T : List (Nat × Nat)) :
 AFn Tryz.prog TabI 7 [.d (.sl (byD bs))] ⟨B, T⟩ (Same (.tup [prV (finR rg n (startR (wordsAt bs 0))).1, .d (.int .i64 (finR rg n (startR (wordsAt bs 0))).2)]) ⟨B, T⟩) := by
 obtain ⟨N, hn⟩ : ∃ N, B.length = N := ⟨_, rfl⟩
 obtain ⟨t, ht⟩ : ∃ t, T.length = t := ⟨_, rfl⟩
 have hop := openR_ab bs hl (B ++ [[.sl [] .full, .sl [] .full]]) T
 have hp := words_pos bs
 have hG := good_words bs hl
 have hwl := wordsAt_len bs 0
 obtain ⟨L, hL⟩ : ∃ L, wordsAt bs 0 = L := ⟨_, rfl⟩
 rw [hL] at hop hp hG hwl ⊢
 have hok0 := startR_ok hp
 have hmu : mu (startR L) ≤ L.length := by have := hok0.le; unfold mu; split <;> omega
 have hS := stmtR_ok L hG n
 obtain ⟨⟨p0, s0⟩, hP⟩ : ∃ r, progP false n (startR L) = r := ⟨_, rfl⟩
 have hfin : finR rg n (startR L) = if s0.e = 0 then (if rg p0 = true then (p0, 0) else (⟨[], []⟩, 51)) else (⟨[], []⟩, s0.e) := by unfold finR; rw [hP]
 rw [hfin]
 unfold progP at hP
 have hbig : decide ((400000 : Int) < (bs.length : Int)) = false := decide_eq_false (by omega)
 refine b7.go 20 rfl fun hsm => ?_
 simp only [smw] at hsm
 simp only [W, seval, c7, hn, hbig, byD_len]
 rw [List.length_append, hn, List.append_assoc] at hop
 refine callS_fn hop ?_
 rintro _ _ ⟨rfl, rfl⟩
 have hd1 := (dn_want (startR L) [112, 97, 99, 107, 97, 103, 101]).le
 obtain ⟨⟨tx, s2⟩, h2⟩ : ∃ r, nameP (wantP (startR L) [112, 97, 99, 107, 97, 103, 101]) = r := ⟨_, rfl⟩
 have hd2 := (dn_name h2).le
 have hnp := name_pr L hG (wantP (startR L) [112, 97, 99, 107, 97, 103, 101])
 rw [h2] at hP hnp
 dsimp only at hP hnp
 refine ARun.go 20 ?_
 simp only [W, seval, c7, hn]
 refine PR.callR (must_pr L hG (startR L) [112, 97, 99, 107, 97, 103, 101]) hn hok0 fun hok1 => ?_
 refine ARun.go 10 ?_
 simp only [W, seval, c7, hn]
 refine PR.callR hnp hn hok1 fun hok2 => ?_
 refine ARun.go 2 ?_
 simp only [W, seval, c7]
 refine ARun.tokenB (N + 2) 0 _ [] (by rw [bx_loc hn]; rfl) (by rfl) 2 (by omega) rfl ?_
 rw [bx_set_loc hn]
 refine ARun.tokenB (N + 2) 1 [.sl [] (.own T.length), .sl [] .full] [] (by rw [bx_loc hn]; rfl) (by rfl) 4 (by omega) rfl ?_
 rw [bx_set_loc hn, List.append_assoc, List.length_append, ht]
 change ARun _ _ _ _ _ _ ⟨B ++ [[.sl [] .full, .sl [] .full], bxR L s2, prT ⟨[], []⟩ t], T ++ [(0, 2), (0, 4)]⟩ _
 refine ARun.go 5 ?_
 simp only [W, seval, c7]
 refine ARun.after [_, _] _ (fun _ : Unit => (envS 72 [(2, .ptr N 0), (4, .ptr (N + 1) 0), (5, .ptr (N + 2) 0)], ⟨B ++ [[.sl [] .full, .sl [] .full], bxR L s0, prT p0 t], T ++ [(p0.structs.length, 2), (p0.funcs.length, 4)]⟩)) (fun _ => OkR L s0) ?_ ?_
 case refine_2 =>
  intro K' hend
  refine ARun.loopW (fun a : PrT × Ps => (envS 72 [(2, .ptr N 0), (4, .ptr (N + 1) 0), (5, .ptr (N + 2) 0)], ⟨B ++ [[.sl [] .full, .sl [] .full], bxR L a.2, prT a.1 t], T ++ [(a.1.structs.length, 2), (a.1.funcs.length, 4)]⟩)) (fun a => OkR L a.2 ∧ a.1.structs.length + a.1.funcs.length + mu a.2 ≤ mu s2 ∧ ∃ q, mu a.2 < q ∧ declL (stmtF false n) n q a.2 a.1 = (p0, s0)) (fun a => mu a.2) (⟨[], []⟩, s2) ⟨hok2, by simp, n, by dsimp only; omega, hP⟩ ?_ rfl ?_
  ·skip
   refine Agree.env _ ?_
   simp only [agw, seval, hn]
  rintro ⟨p, s5⟩ ⟨hok5, hle, q, hq, hr⟩ ih
  dsimp only at hok5 hle hq hr ih ⊢
  cases q with
  | zero => omega
  | succ q =>
  rw [declL] at hr
  have hk0 := dec_nat s5.w.kind 0
  simp only [Int.natCast_zero] at hk0
  by_cases he : s5.e = 0
  case neg =>
   have e1 := decide_eq_false he
   rw [if_neg (fun h => he h.1)] at hr
   obtain ⟨rfl, rfl⟩ := Prod.mk.inj hr
   refine ARun.goK (k := [_, _, _]) 80 ?_
   simp only [W, seval, c7, hn, bxR, e1]
   refine hend () hok5 _ _ ?_ rfl
   refine Agree.env _ ?_
   simp only [agw, seval, hn]
  have e1 := decide_eq_true he
  have hw := hok5.w he
  refine ARun.goK (k := [_, _, _]) 80 ?_
  simp only [W, seval, c7, hn, bxR, e1]
  refine PR.nowR hn hok5 ?_
  rw [← hw]
  by_cases hk : s5.w.kind = 0
  case pos =>
   rw [decide_eq_true hk] at hk0
   rw [if_neg (fun h => h.2 hk)] at hr
   obtain ⟨rfl, rfl⟩ := Prod.mk.inj hr
   refine ARun.goK 60 ?_
   simp only [W, seval, c7, hn, wdL, hk0, opFieldV, fty0]
   refine hend () hok5 _ _ ?_ rfl
   refine Agree.env _ ?_
   simp only [agw, seval, hn]
  rw [decide_eq_false hk] at hk0
  rw [if_pos ⟨he, hk⟩] at hr
  have hmp := hok5.mu_pos he
  obtain ⟨⟨b, s6⟩, h6⟩ : ∃ r, gotP s5 [116, 121, 112, 101] = r := ⟨_, rfl⟩
  have hp6 := take_pr L hG s5 [116, 121, 112, 101]
  rw [h6] at hp6 hr
  dsimp only at hp6
  refine ARun.goK 60 ?_
  simp only [W, seval, c7, hn, wdL, hk0, opFieldV, fty0]
  refine PR.callR hp6 hn hok5 fun hok6 => ?_
  cases b
  case' true =>
   have hlt := got_lt h6
   dsimp only at hr
   obtain ⟨⟨x, s7⟩, hx⟩ : ∃ r, structP n s6 = r := ⟨_, rfl⟩
   have hpx := struct_pr L hG n s6 (by omega)
   have hd7 := (dn_struct hx).le
   rw [hx] at hpx hr
   dsimp only at hpx hr
   unfold suV at hpx
   have hcap : (p.structs.length + 1) * 40 ≤ 140737488355328 := by omega
   have hmap : p.structs.map suD ++ [suD x] = (p.structs ++ [x]).map suD := by simp
   have hlen : (p.structs ++ [x]).length = p.structs.length + 1 := by simp
   refine ARun.goK 7 ?_
   simp only [W, seval, c7, hn]
   refine PR.witR hpx hn hok6 (haP 4 (by rfl)) fun hok7 => ?_
   refine ARun.drawE 6 [3, 5, 7] (fun S => S.boxes[N + 2]? = some (prT p t)) (by kernel_rfl) (by kernel_rfl) (by kernel_rfl) (by kernel_rfl) (by kernel_rfl) ?_
   simp only [W, seval, c7]
   refine lexC_q (v := ?_) (by rfl) (by kernel_rfl) (fun S hS => ?_) ?_
   rotate_left
   ·simp only [W, seval, c7]
    exact rfl
   simp only [W, seval, c7]
   refine lexC_q (v := ?_) (by rfl) (by kernel_rfl) (fun S hS => ?_) ?_
   rotate_left
   ·try dsimp only at hS
    simp only [W, seval, c7, hS, prT]
    exact rfl
   simp only [W, seval, c7]
   refine lexC_q (v := ?_) (by rfl) (by kernel_rfl) (fun S hS => ?_) ?_
   rotate_left
   ·simp only [W, seval, c7]
    exact rfl
   simp only [W, seval, c7]
   refine PR.lexcR hpx hn hok6 hok7 (by simp [bx_loc, hn]) (by rfl) (by kernel_rfl) ?_ ?_
   ·simp only [W, seval, c7]
    exact ⟨_, _, rfl, rfl, by rfl, by rfl⟩
   simp only [W, seval, c7]
   refine lexC_q (v := ?_) (by rfl) (by kernel_rfl) (fun S hS => ?_) ?_
   rotate_left
   ·simp only [W, seval, c7, mapD_nil, mapD_cons, Nat.reduceMul, ← suD_eq]
    exact rfl
   simp only [W, seval, c7]
   refine lexC_w (v := ?_) (S' := ?_) ?_ (by rfl) (by kernel_rfl) ?_ ?_
   rotate_left 2
   ·first | trivial | simp [bx_loc, bx_loc0, hn, ht, hcap, hmap, su1, Nat.reduceMul]
   ·simp only [W, seval, c7, hn, ht, hcap, hmap, su1, Nat.reduceMul]
    exact rfl
   simp only [W, seval, c7]
   refine lexC_end (by simp [bx_loc, hn]) ?_
   refine lexC_q (v := ?_) (by rfl) (by kernel_rfl) (fun S hS => ?_) ?_
   rotate_left
   ·simp only [W, seval, c7]
    exact rfl
   simp only [W, seval, c7]
   refine lexC_w (v := ?_) (S' := ?_) ?_ (by rfl) (by kernel_rfl) ?_ ?_
   rotate_left 2
   ·first | trivial | simp [bx_loc, bx_loc0, hn, prT]
   ·simp only [W, seval, c7, hn, prT]
    exact rfl
   simp only [W, seval, c7]
   refine lexC_end trivial ?_
   refine ARun.goK (k := [_, _]) 5 ?_
   simp only [W, seval, c7]
   refine ih (⟨p.structs ++ [x], p.funcs⟩, s7) ⟨hok7, by dsimp only; omega, q, by dsimp only; omega, hr⟩ (by dsimp only; omega) _ _ ?_ (by dsimp only; rw [hlen]; rfl)
   refine Agree.env _ ?_
   simp only [agw, seval, hn]
  have e6 := got_no h6
  subst e6
  dsimp only at hr
  obtain ⟨⟨b, s7⟩, h7⟩ : ∃ r, gotP s6 [102, 117, 110, 99] = r := ⟨_, rfl⟩
  have hp7 := take_pr L hG s6 [102, 117, 110, 99]
  rw [h7] at hp7 hr
  dsimp only at hp7
  refine ARun.goK 20 ?_
  simp only [W, seval, c7, hn]
  refine PR.callR hp7 hn hok6 fun hok7 => ?_
  cases b
  case' true =>
   have hlt := got_lt h7
   dsimp only at hr
   obtain ⟨⟨x, s8⟩, hx⟩ : ∃ r, funcP (stmtF false n) n s7 = r := ⟨_, rfl⟩
   have hpx := func_pr L hG hS n (Nat.le_refl _) s7 (by omega)
   have hd7 := (dn_func (dn_stmtF false n) hx).le
   rw [hx] at hpx hr
   dsimp only at hpx hr
   unfold fuV at hpx
   have hcap : (p.funcs.length + 1) * 88 ≤ 140737488355328 := by omega
   have hmap : p.funcs.map fuD ++ [fuD x] = (p.funcs ++ [x]).map fuD := by simp
   have hlen : (p.funcs ++ [x]).length = p.funcs.length + 1 := by simp
   refine ARun.goK 7 ?_
   simp only [W, seval, c7, hn]
   refine PR.witR hpx hn hok7 (haP 4 (by rfl)) fun hok8 => ?_
   refine ARun.drawE 6 [3, 5, 7] (fun S => S.boxes[N + 2]? = some (prT p t)) (by kernel_rfl) (by kernel_rfl) (by kernel_rfl) (by kernel_rfl) (by kernel_rfl) ?_
   simp only [W, seval, c7]
   refine lexC_q (v := ?_) (by rfl) (by kernel_rfl) (fun S hS => ?_) ?_
   rotate_left
   ·simp only [W, seval, c7]
    exact rfl
   simp only [W, seval, c7]
   refine lexC_q (v := ?_) (by rfl) (by kernel_rfl) (fun S hS => ?_) ?_
   rotate_left
   ·try dsimp only at hS
    simp only [W, seval, c7, hS, prT]
    exact rfl
   simp only [W, seval, c7]
   refine lexC_q (v := ?_) (by rfl) (by kernel_rfl) (fun S hS => ?_) ?_
   rotate_left
   ·simp only [W, seval, c7]
    exact rfl
   simp only [W, seval, c7]
   refine PR.lexcR hpx hn hok7 hok8 (by simp [bx_loc, hn]) (by rfl) (by kernel_rfl) ?_ ?_
   ·simp only [W, seval, c7]
    exact ⟨_, _, rfl, rfl, by rfl, by rfl⟩
   simp only [W, seval, c7]
   refine lexC_q (v := ?_) (by rfl) (by kernel_rfl) (fun S hS => ?_) ?_
   rotate_left
   ·simp only [W, seval, c7, mapD_nil, mapD_cons, Nat.reduceMul, ← fuD_eq]
    exact rfl
   simp only [W, seval, c7]
   refine lexC_w (v := ?_) (S' := ?_) ?_ (by rfl) (by kernel_rfl) ?_ ?_
   rotate_left 2
   ·first | trivial | simp [bx_loc, bx_loc0, hn, ht, hcap, hmap, fu1, Nat.reduceMul]
   ·simp only [W, seval, c7, hn, ht, hcap, hmap, fu1, Nat.reduceMul]
    exact rfl
   simp only [W, seval, c7]
   refine lexC_end (by simp [bx_loc, hn]) ?_
   refine lexC_q (v := ?_) (by rfl) (by kernel_rfl) (fun S hS => ?_) ?_
   rotate_left
   ·simp only [W, seval, c7]
    exact rfl
   simp only [W, seval, c7]
   refine lexC_w (v := ?_) (S' := ?_) ?_ (by rfl) (by kernel_rfl) ?_ ?_
   rotate_left 2
   ·first | trivial | simp [bx_loc, bx_loc0, hn, prT]
   ·simp only [W, seval, c7, hn, prT]
    exact rfl
   simp only [W, seval, c7]
   refine lexC_end trivial ?_
   refine ARun.goK (k := [_, _]) 5 ?_
   simp only [W, seval, c7]
   refine ih (⟨p.structs, p.funcs ++ [x]⟩, s8) ⟨hok8, by dsimp only; omega, q, by dsimp only; omega, hr⟩ (by dsimp only; omega) _ _ ?_ (by dsimp only; rw [hlen]; rfl)
   refine Agree.env _ ?_
   simp only [agw, seval, hn]
  have e7 := got_no h7
  subst e7
  dsimp only at hr
  have hlt := fail_lt hmp
  refine ARun.goK 20 ?_
  simp only [W, seval, c7, hn]
  refine PR.callR (bad_pr L s7) hn hok7 fun hok8 => ?_
  refine ARun.goK 20 ?_
  simp only [W, seval, c7, hn]
  refine ih (p, failP s7 51) ⟨hok8, by dsimp only; omega, q, by dsimp only; omega, hr⟩ (by dsimp only; omega) _ _ ?_ rfl
  refine Agree.env _ ?_
  simp only [agw, seval, hn]
 rintro ⟨⟩ hokF
 refine ARun.plainJ 2 _ [.d (.sl (p0.structs.map suD)), .d (.sl (p0.funcs.map fuD))] (by rfl) (.sl (.sl .nil)) ?_
 change ARun _ _ _ _ _ _ ⟨B ++ [[.sl [] .full, .sl [] .full], bxR L s0, [.d (.sl (p0.structs.map suD)), .d (.sl (p0.funcs.map fuD))]], _⟩ _
 by_cases he : s0.e = 0
 case neg =>
  have e1 := decide_eq_false he
  rw [if_neg he]
  refine ARun.go 30 ?_
  simp only [W, seval, c7, hn, bxR, e1]
  refine ARun.drawC [5] (fun S => S.boxes[N + 1]? = some [V.d (D.sl (L.map wdD)), V.d (D.int .i64 (idxR L s0 : Int)), V.d (D.int .i64 s0.e), V.d (D.int .i64 s0.o), V.d (D.bool s0.h)]) (by kernel_rfl) (by kernel_rfl) (by kernel_rfl) ?_
  simp only [W, seval, c7]
  refine lexC_q (v := ?_) (by rfl) (by kernel_rfl) (fun S hS => ?_) ?_
  rotate_left
  ·simp only [W, seval, c7]
   exact rfl
  simp only [W, seval, c7]
  refine lexC_q (v := ?_) (by rfl) (by kernel_rfl) (fun S hS => ?_) ?_
  rotate_left
  ·simp only [W, seval, c7]
   exact rfl
  simp only [W, seval, c7]
  refine lexC_q (v := ?_) (by rfl) (by kernel_rfl) (fun S hS => ?_) ?_
  rotate_left
  ·simp only [W, seval, c7]
   exact rfl
  simp only [W, seval, c7]
  refine lexC_q (v := ?_) (by rfl) (by kernel_rfl) (fun S hS => ?_) ?_
  rotate_left
  ·simp only [W, seval, c7]
   exact rfl
  simp only [W, seval, c7]
  refine lexC_q (v := ?_) (by rfl) (by kernel_rfl) (fun S hS => ?_) ?_
  rotate_left
  ·try dsimp only at hS
   simp only [W, seval, c7, hS]
   exact rfl
  simp only [W, seval, c7]
  refine lexC_w (v := ?_) (S' := ?_) ?_ (by rfl) (by kernel_rfl) ?_ ?_
  rotate_left 2
  ·first | trivial | simp [bx_loc, bx_loc0, hn]
  ·simp only [W, seval, c7, hn]
   exact rfl
  simp only [W, seval, c7]
  refine lexC_q (v := ?_) (by rfl) (by kernel_rfl) (fun S hS => ?_) ?_
  rotate_left
  ·simp only [W, seval, c7]
   exact rfl
  simp only [W, seval, c7]
  refine lexC_end (by simp [bx_loc, hn]) ?_
  refine ARun.go 20 ?_
  simp only [W, seval, c7, hn]
  refine retc2 (v := ?_) Tryz.func7 (by rfl) ?_ ?_
  rotate_left
  ·simp only [W, seval, c7, hn]
   exact rfl
  refine Left.all ?_
  simp only [W, seval, c7, wk, wkL, prV]
  exact ⟨rfl, rfl⟩
 have e1 := decide_eq_true he
 rw [if_pos he]
 refine ARun.go 20 ?_
 simp only [W, seval, c7, hn, bxR, e1]
 refine callS_fn (hR p0 _ _) ?_
 rintro _ _ ⟨rfl, rfl⟩
 cases hb : rg p0
 ·refine ARun.go 40 ?_
  simp only [W, seval, c7, hn]
  refine ARun.drawC [5] (fun S => S.boxes[N + 1]? = some [V.d (D.sl (L.map wdD)), V.d (D.int .i64 (idxR L s0 : Int)), V.d (D.int .i64 51), V.d (D.int .i64 s0.o), V.d (D.bool s0.h)]) (by kernel_rfl) (by kernel_rfl) (by kernel_rfl) ?_
  simp only [W, seval, c7]
  refine lexC_q (v := ?_) (by rfl) (by kernel_rfl) (fun S hS => ?_) ?_
  rotate_left
  ·simp only [W, seval, c7]
   exact rfl
  simp only [W, seval, c7]
  refine lexC_q (v := ?_) (by rfl) (by kernel_rfl) (fun S hS => ?_) ?_
  rotate_left
  ·simp only [W, seval, c7]
   exact rfl
  simp only [W, seval, c7]
  refine lexC_q (v := ?_) (by rfl) (by kernel_rfl) (fun S hS => ?_) ?_
  rotate_left
  ·simp only [W, seval, c7]
   exact rfl
  simp only [W, seval, c7]
  refine lexC_q (v := ?_) (by rfl) (by kernel_rfl) (fun S hS => ?_) ?_
  rotate_left
  ·simp only [W, seval, c7]
   exact rfl
  simp only [W, seval, c7]
  refine lexC_q (v := ?_) (by rfl) (by kernel_rfl) (fun S hS => ?_) ?_
  rotate_left
  ·try dsimp only at hS
   simp only [W, seval, c7, hS]
   exact rfl
  simp only [W, seval, c7]
  refine lexC_w (v := ?_) (S' := ?_) ?_ (by rfl) (by kernel_rfl) ?_ ?_
  rotate_left 2
  ·first | trivial | simp [bx_loc, bx_loc0, hn]
  ·simp only [W, seval, c7, hn]
   exact rfl
  simp only [W, seval, c7]
  refine lexC_q (v := ?_) (by rfl) (by kernel_rfl) (fun S hS => ?_) ?_
  rotate_left
  ·simp only [W, seval, c7]
   exact rfl
  simp only [W, seval, c7]
  refine lexC_end (by simp [bx_loc, hn]) ?_
  refine ARun.go 20 ?_
  simp only [W, seval, c7, hn]
  refine retc2 (v := ?_) Tryz.func7 (by rfl) ?_ ?_
  rotate_left
  ·simp only [W, seval, c7, hn]
   exact rfl
  refine Left.all ?_
  simp only [W, seval, c7, wk, wkL, prV]
  exact ⟨rfl, rfl⟩
 ·refine ARun.go 60 ?_
  simp only [W, seval, c7, hn, e1]
  refine retc2 (v := ?_) Tryz.func7 (by rfl) ?_ ?_
  rotate_left
  ·simp only [W, seval, c7, hn]
   exact rfl
  refine Left.all ?_
  simp only [W, seval, c7, wk, wkL, prV]
  exact ⟨rfl, rfl⟩
theorem prog_dead (fl : Bool) (n : Nat) {s : Ps} (h : ¬ s.e = 0) : progP fl n s = (⟨[], []⟩, s) := by
 have h1 : nameP s = ([], failP s 51) := if_neg fun h2 => h h2.1
 unfold progP
 rw [want_dead h, h1, fail_dead h]
 dsimp only
 cases n with
 | zero => rfl
 | succ n => rw [declL, if_neg fun h2 => h h2.1]
theorem decl_dead {S : SP} (k m : Nat) (p : PrT) {s : Ps} (h : ¬ s.e = 0) : declL S k m s p = (p, s) := by
 cases m with
 | zero => rfl
 | succ m => rw [declL, if_neg fun h2 => h h2.1]
theorem decl_end {S : SP} (hd : DnE S) (k : Nat) : ∀ (m : Nat) (s : Ps) (p : PrT), mu s < m → (declL S k m s p).2.e = 0 → (declL S k m s p).2.w.kind = 0
 | 0, _, _, h => absurd h (Nat.not_lt_zero _)
 | m + 1, s, p, hn => by
  unfold declL
  split
  ·rename_i hc
   cases hg : gotP s [116, 121, 112, 101] with
   | mk b s1 =>
   cases b
   case true =>
    have h1 := got_lt hg
    dsimp only
    cases hs : structP k s1 with
    | mk x s2 =>
    have h2 := (dn_struct hs).le
    exact decl_end hd k m s2 _ (by omega)
   dsimp only
   cases hg : gotP s [102, 117, 110, 99] with
   | mk b s1 =>
   cases b
   case true =>
    have h1 := got_lt hg
    dsimp only
    cases hs : funcP S k s1 with
    | mk x s2 =>
    have h2 := (dn_func hd hs).le
    exact decl_end hd k m s2 _ (by omega)
   have h0 : ¬ (failP s 51).e = 0 := by
    unfold failP
    rw [if_pos hc.1]
    show ¬ (51 : Int) = 0
    omega
   rw [decl_dead k m p h0]
   exact fun he => absurd he h0
  ·rename_i hc
   intro he
   exact Decidable.byContradiction fun hk => hc ⟨he, hk⟩
theorem prog_end (fl : Bool) (n : Nat) (s : Ps) (hn : mu s < n) (h : (progP fl n s).2.e = 0) : (progP fl n s).2.w.kind = 0 := by
 unfold progP at h ⊢
 have h1 := (dn_want s [112, 97, 99, 107, 97, 103, 101]).le
 cases hnm : nameP (wantP s [112, 97, 99, 107, 97, 103, 101]) with
 | mk t s1 =>
 rw [hnm] at h
 have h2 := (dn_name hnm).le
 exact decl_end (dn_stmtF fl n) n n s1 _ (by omega) h
theorem start_same (bs : List UInt8) : startS bs = startR (wordsAt bs 0) ∨ ((startS bs).e = 50 ∧ (startR (wordsAt bs 0)).e = 50) := by
 unfold startS startR
 rw [words0 bs]
 by_cases h : (takeS bs 0).2 = 0
 ·left
  have hk : (takeS bs 0).1.kind ≤ 4 := take_kind bs 0
  rw [if_pos h, if_pos h]
  have h0 : nowW (if (takeS bs 0).1.kind = 0 then [(takeS bs 0).1] else (takeS bs 0).1 :: wordsAt bs (takeS bs 0).1.next) 0 = (takeS bs 0).1 := by
   split <;> rfl
  rw [h0, if_neg (show ¬ (takeS bs 0).1.kind = 9 by omega)]
 ·right
  rw [if_neg h, if_neg h]
  refine ⟨?_, rfl⟩
  show (((takeS bs 0).2 : Nat) : Int) = 50
  have : (takeS bs 0).2 = 50 := by
   have hr : takeS bs 0 = takeAt bs (whiteAt bs 0) := by
    unfold takeS
    rw [if_neg (by omega)]
    rfl
   rw [hr] at h ⊢
   unfold takeAt at h ⊢
   split
   ·rename_i h1; rw [if_pos h1] at h; exact absurd rfl h
   ·rename_i h1
    rw [if_neg h1] at h
    split
    ·rename_i h2; rw [if_pos h2] at h; exact absurd rfl h
    ·rename_i h2
     rw [if_neg h2] at h
     split
     ·rename_i h3
      rw [if_pos h3] at h
      split
      ·rename_i h4; rw [if_pos h4] at h; exact absurd rfl h
      ·rfl
     ·rename_i h3
      rw [if_neg h3] at h
      split
      ·rename_i h4; rw [h4] at h; exact absurd rfl h
      ·rfl
  omega
theorem fin_eq (bs : List UInt8) (n : Nat) (hn : bs.length + 5 ≤ n) (rg rg' : PrT → Bool) (h : rg (progP false n (startS bs)).1 = rg' (progP false n (startS bs)).1) : finP rg n (startS bs) = finR rg' n (startR (wordsAt bs 0)) := by
 have hmu := (start_ok bs).mu_le
 rcases start_same bs with e | ⟨e1, e2⟩
 ·rw [← e]
  have hq := eq_prog n (startS bs) (by omega)
  have hk := prog_end false n (startS bs) (by omega)
  unfold finP finR endP
  obtain ⟨x, x', s1, h1, h2, h3⟩ := hq.open
  rw [h2] at h hk
  rw [h1, h2]
  dsimp only at hk ⊢
  by_cases he : s1.e = 0
  ·obtain rfl := h3 he
   rw [if_pos he, if_pos he]
   dsimp only at h
   rw [← h]
   cases hr : rg x
   ·simp
   ·simp [hk he]
  ·rw [if_neg he, if_neg he, if_neg he]
 ·unfold finP finR endP
  rw [prog_dead true n (by omega), prog_dead false n (by omega)]
  simp [e1, e2]
def identR : List UInt8 → Bool
 | [] => false
 | c :: r => decide ((c :: r).length ≤ 300) && letterB c && !reservedS (c :: r) && (c :: r).all wordB
theorem takeWhile_len (p : UInt8 → Bool) (s : List UInt8) : s.take (s.takeWhile p).length = s.takeWhile p := (List.prefix_iff_eq_take.1 (List.takeWhile_prefix p)).symm
theorem takeWhile_all (p : UInt8 → Bool) : ∀ s : List UInt8, (s.takeWhile p == s) = s.all p
 | [] => rfl
 | c :: r => by
  rw [List.takeWhile_cons, List.all_cons]
  cases h : p c
  ·simp
  ·have := takeWhile_all p r
   simp only [if_true, Bool.true_and, ← this]
   simp
theorem letter_plain (c : UInt8) (h : letterB c = true) : ¬ whiteB c = true ∧ ¬ c.toNat = 47 := by
 unfold letterB at h
 unfold whiteB
 simp only [decide_eq_true_eq] at *
 omega
theorem ident_rule (s : List UInt8) : identR s = identS s := by
 cases s with
 | nil => rfl
 | cons c r =>
 obtain ⟨s, hs⟩ : ∃ s, c :: r = s := ⟨_, rfl⟩
 have hr : takeS s 0 = takeAt s (whiteAt s 0) := by
  unfold takeS
  rw [if_neg (by omega)]
  rfl
 have hgd : s.getD 0 0 = c := by rw [← hs]; rfl
 have hpos : 0 < s.length := by rw [← hs]; simp
 have hdef : identR s = (decide (s.length ≤ 300) && letterB c && !reservedS s && s.all wordB) := by rw [← hs]; rfl
 rw [hs, hdef]
 unfold identS
 rw [hr]
 by_cases hl : letterB c = true
 ·have hw : whiteAt s 0 = 0 := by
   refine whiteAt_of s 0 0 (by omega) ?_
   rw [List.drop_zero, ← hs]
   exact skip_stop c r (letter_plain c hl).1 fun h => (letter_plain c hl).2 h.1
  have ht : textAt s 0 (runAt wordB s 0) = s.takeWhile wordB := by
   unfold textAt runAt
   rw [List.drop_zero, Nat.zero_add, Nat.sub_zero]
   exact takeWhile_len _ s
  have hta : takeAt s 0 = (⟨if reservedS (s.takeWhile wordB) = true then 4 else 1, s.takeWhile wordB, 0, 0, runAt wordB s 0⟩, 0) := by
   unfold takeAt
   rw [if_neg (by omega), hgd, if_pos hl, ht]
  rw [hw, hta, hl, ← takeWhile_all]
  cases he : (s.takeWhile wordB == s)
  ·simp
  ·rw [eq_of_beq he]
   cases reservedS s <;> simp
 ·have hl' : letterB c = false := by simpa using hl
  rw [hl', Bool.and_false, Bool.false_and, Bool.false_and]
  symm
  cases hb : (decide (s.length ≤ 300) && decide ((takeAt s (whiteAt s 0)).2 = 0) && decide ((takeAt s (whiteAt s 0)).1.kind = 1) && ((takeAt s (whiteAt s 0)).1.text == s)) with
  | false => rfl
  | true =>
  exfalso
  simp only [Bool.and_eq_true, decide_eq_true_eq, beq_iff_eq] at hb
  obtain ⟨⟨_, hk⟩, htx⟩ := hb
  have hle := whiteAt_le s 0
  obtain ⟨p, hp⟩ : ∃ p, whiteAt s 0 = p := ⟨_, rfl⟩
  rw [hp] at hk htx hle
  have hp0 : p = 0 := by
   have h1 : ∀ e, textAt s p e = s → p = 0 := fun e h => by
    have := congrArg List.length h
    unfold textAt at this
    simp only [List.length_take, List.length_drop] at this
    omega
   unfold takeAt at htx hk
   split at htx
   ·rw [← htx] at hpos; cases hpos
   ·split at htx
    ·exact h1 _ htx
    ·rename_i h2 h3
     rw [if_neg h2, if_neg h3] at hk
     split at hk
     ·split at hk
      ·cases hk
      ·cases hk
     ·split at hk
      ·cases hk
      ·cases hk
  subst hp0
  unfold takeAt at hk
  rw [if_neg (by omega), hgd, if_neg hl] at hk
  split at hk
  ·split at hk
   ·cases hk
   ·cases hk
  ·split at hk
   ·cases hk
   ·cases hk
structure Agr (f : Int → Bool × Int) (n : Int) : Prop where
 lo : -1 ≤ n
 hi : n ≤ 60000
 ok : ∀ p, 0 ≤ p → p ≤ 60000 → ((f p).1 = true ↔ 0 ≤ n ∧ p + n ≤ 60000)
 adds : ∀ p, 0 ≤ p → p ≤ 60000 → (f p).1 = true → (f p).2 = p + n
theorem plusM_in (a b : Int) : -1 ≤ plusM a b ∧ plusM a b ≤ 60000 := by unfold plusM; split <;> omega
theorem plusM_assoc (a b c : Int) : plusM (plusM a b) c = plusM a (plusM b c) := by
 unfold plusM
 repeat' split
 all_goals omega
theorem plusM_zero {a : Int} (h : -1 ≤ a) (h2 : a ≤ 60000) : plusM a 0 = a := by unfold plusM; split <;> omega
theorem zero_plusM {a : Int} (h : -1 ≤ a) (h2 : a ≤ 60000) : plusM 0 a = a := by unfold plusM; split <;> omega
theorem plusM_bad (b : Int) : plusM (-1) b = -1 := by unfold plusM; rw [if_pos (.inl (by omega))]
theorem Agr.and {f g : Int → Bool × Int} {a b : Int} (hf : Agr f a) (hg : Agr g b) : Agr (andS f g) (plusM a b) := by
 have key : ∀ p, 0 ≤ p → p ≤ 60000 → ((andS f g p).1 = true ↔ (0 ≤ a ∧ p + a ≤ 60000) ∧ 0 ≤ b ∧ p + a + b ≤ 60000) ∧ ((andS f g p).1 = true → (andS f g p).2 = p + a + b) := by
  intro p h1 h2
  unfold andS
  by_cases h : (f p).1 = false
  ·rw [if_pos h]
   have := hf.ok p h1 h2
   rw [h] at this
   exact ⟨⟨fun h => (by cases h), fun h => absurd (this.2 h.1) (by decide)⟩, fun h => (by cases h)⟩
  ·rw [if_neg h]
   have ht : (f p).1 = true := by simpa using h
   have h3 := (hf.ok p h1 h2).1 ht
   have h4 := hf.adds p h1 h2 ht
   rw [h4]
   have h5 := hg.ok (p + a) (by omega) h3.2
   exact ⟨⟨fun h => ⟨h3, h5.1 h⟩, fun h => h5.2 h.2⟩, fun h => hg.adds (p + a) (by omega) h3.2 h⟩
 obtain ⟨h1, h2⟩ := plusM_in a b
 refine ⟨h1, h2, fun p h3 h4 => ?_, fun p h3 h4 h5 => ?_⟩
 ·rw [(key p h3 h4).1]
  unfold plusM
  split <;> omega
 ·have h6 := (key p h3 h4).1.1 h5
  rw [(key p h3 h4).2 h5]
  unfold plusM
  rw [if_neg (by omega)]
  omega
theorem Agr.bad {f : Int → Bool × Int} (h : ∀ p, 0 ≤ p → p ≤ 60000 → (f p).1 = false) : Agr f (-1) :=
 ⟨by omega, by omega, fun p h1 h2 => by rw [h p h1 h2]; exact ⟨fun h => (by cases h), fun h => absurd h.1 (by omega)⟩, fun p h1 h2 h3 => by rw [h p h1 h2] at h3; cases h3⟩
theorem Agr.allow (b : Bool) : Agr (allowS b) (if b = true then 0 else -1) := by
 cases b
 ·exact Agr.bad fun p _ _ => rfl
 ·refine ⟨by decide, by decide, fun p h1 h2 => ?_, fun p h1 h2 h3 => ?_⟩
  ·rw [if_pos rfl]
   exact ⟨fun _ => ⟨Int.le_refl _, by omega⟩, fun _ => rfl⟩
  ·rw [if_pos rfl]
   show p = p + 0
   omega
theorem Agr.part (d : Int) : Agr (partS d) (if 60 < d then -1 else 1) := by
 by_cases h : 60 < d
 ·rw [if_pos h]
  refine Agr.bad fun p _ _ => ?_
  show (decide (p + 1 ≤ 60000) && decide (d ≤ 60)) = false
  rw [decide_eq_false (by omega : ¬ d ≤ 60), Bool.and_false]
 ·rw [if_neg h]
  refine ⟨by decide, by decide, fun p h1 h2 => ?_, fun p _ _ _ => rfl⟩
  show (decide (p + 1 ≤ 60000) && decide (d ≤ 60)) = true ↔ _
  rw [decide_eq_true (by omega : d ≤ 60), Bool.and_true, decide_eq_true_iff]
  omega
def sumM {α : Type} (c : α → Int) : List α → Int
 | [] => 0
 | x :: l => plusM (c x) (sumM c l)
theorem Agr.row {α : Type} {f : α → Int → Bool × Int} {c : α → Int} : ∀ (l : List α), (∀ x ∈ l, Agr (f x) (c x)) → Agr (rowS f l) (sumM c l)
 | [], _ => ⟨show (-1 : Int) ≤ 0 by decide, show (0 : Int) ≤ 60000 by decide, fun p _ h => ⟨fun _ => ⟨Int.le_refl _, by show p + 0 ≤ 60000; omega⟩, fun _ => rfl⟩, fun p _ _ _ => by show p = p + 0; omega⟩
 | x :: l, h => (h x List.mem_cons_self).and (Agr.row l fun y hy => h y (List.mem_cons_of_mem _ hy))
theorem Agr.congr {f g : Int → Bool × Int} {n : Int} (h : Agr g n) (h1 : ∀ p, 0 ≤ p → p ≤ 60000 → (f p).1 = (g p).1 ∧ ((f p).1 = true → (f p).2 = (g p).2)) : Agr f n :=
 ⟨h.lo, h.hi, fun p h2 h3 => by rw [(h1 p h2 h3).1]; exact h.ok p h2 h3, fun p h2 h3 h4 => by rw [(h1 p h2 h3).2 h4]; exact h.adds p h2 h3 (by rw [← (h1 p h2 h3).1]; exact h4)⟩
def tyR : TyT → Int → Int
 | .mk k n es, d => if 60 < d then -1 else if 1 ≤ k ∧ k ≤ 6 then (if n = [] ∧ es.length = 0 then 1 else -1) else if k = 7 then (if identS n = true ∧ es.length = 0 then 1 else -1)
  else match es with
   | [e] => if k = 8 ∧ n = [] then plusM 1 (tyR e (d + 1)) else -1
   | _ => -1
theorem tyR_agr : ∀ (t : TyT) (d : Int), Agr (fun p => tyS identS t d p) (tyR t d)
 | .mk k n es, d => by
  have hpd : ∀ p, partOk d p = (decide (p + 1 ≤ 60000) && decide (d ≤ 60)) := fun _ => rfl
  by_cases hd : 60 < d
  ·have h1 : tyR (.mk k n es) d = -1 := by unfold tyR; rw [if_pos hd]
   rw [h1]
   refine Agr.bad fun p _ _ => ?_
   show (tyS identS (.mk k n es) d p).1 = false
   have hk : partOk d p = false := by rw [hpd, decide_eq_false (by omega : ¬ d ≤ 60), Bool.and_false]
   unfold tyS
   rw [if_pos hk]
  have hP := Agr.part d
  rw [if_neg hd] at hP
  have leaf : ∀ b : Bool, (∀ p, ¬ partOk d p = false → tyS identS (.mk k n es) d p = (b, p + 1)) → Agr (fun p => tyS identS (.mk k n es) d p) (if b = true then 1 else -1) := by
   intro b hb
   have h2 := hP.and (Agr.allow b)
   have h3 : plusM 1 (if b = true then 0 else -1) = if b = true then 1 else -1 := by cases b <;> rfl
   rw [h3] at h2
   refine h2.congr fun p _ _ => ?_
   by_cases hk : partOk d p = false
   ·have e1 : (tyS identS (.mk k n es) d p) = (false, p + 1) := by unfold tyS; rw [if_pos hk]
    have e2 : andS (partS d) (allowS b) p = (false, p + 1) := by unfold andS partS; rw [if_pos hk]
    rw [e1, e2]
    exact ⟨rfl, fun _ => rfl⟩
   ·have e2 : andS (partS d) (allowS b) p = (b, p + 1) := by unfold andS partS; rw [if_neg hk]; rfl
    rw [hb p hk, e2]
    exact ⟨rfl, fun _ => rfl⟩
  by_cases h16 : 1 ≤ k ∧ k ≤ 6
  ·have h1 : tyR (.mk k n es) d = if (decide (n = []) && decide (es.length = 0)) = true then 1 else -1 := by
    unfold tyR
    rw [if_neg hd, if_pos h16]
    simp
   rw [h1]
   refine leaf _ fun p hk => ?_
   rw [tyS_go identS k n es d p hk, if_pos h16]
  by_cases h7 : k = 7
  ·have h1 : tyR (.mk k n es) d = if (identS n && decide (es.length = 0)) = true then 1 else -1 := by
    unfold tyR
    rw [if_neg hd, if_neg h16, if_pos h7]
    simp
   rw [h1]
   refine leaf _ fun p hk => ?_
   rw [tyS_go identS k n es d p hk, if_neg h16, if_pos h7]
  match es, leaf with
  | [], leaf =>
   have h1 : tyR (.mk k n []) d = -1 := by
    unfold tyR
    rw [if_neg hd, if_neg h16, if_neg h7]
   rw [h1]
   refine leaf false fun p hk => ?_
   rw [tyS_go identS k n [] d p hk, if_neg h16, if_neg h7]
   rfl
  | e :: e2 :: l, leaf =>
   have h1 : tyR (.mk k n (e :: e2 :: l)) d = -1 := by
    unfold tyR
    rw [if_neg hd, if_neg h16, if_neg h7]
   rw [h1]
   refine leaf false fun p hk => ?_
   rw [tyS_go identS k n (e :: e2 :: l) d p hk, if_neg h16, if_neg h7]
   rfl
  | [e], leaf =>
   by_cases h8 : k = 8 ∧ n = []
   ·have h1 : tyR (.mk k n [e]) d = plusM 1 (tyR e (d + 1)) := by
     conv => lhs; unfold tyR
     rw [if_neg hd, if_neg h16, if_neg h7]
     exact if_pos h8
    rw [h1]
    refine (hP.and (tyR_agr e (d + 1))).congr fun p _ _ => ?_
    by_cases hk : partOk d p = false
    ·have e1 : (tyS identS (.mk k n [e]) d p) = (false, p + 1) := by unfold tyS; rw [if_pos hk]
     have e2 : ∀ g, andS (partS d) g p = (false, p + 1) := fun g => by unfold andS partS; rw [if_pos hk]
     rw [e1, e2]
     exact ⟨rfl, fun _ => rfl⟩
    ·have e2 : ∀ g, andS (partS d) g p = g (p + 1) := fun g => by unfold andS partS; rw [if_neg hk]
     rw [tyS_go identS k n [e] d p hk, if_neg h16, if_neg h7, e2]
     have e3 : tyRest identS k n d p [e] = tyS identS e (d + 1) (p + 1) := if_pos h8
     rw [e3]
     exact ⟨rfl, fun _ => rfl⟩
   ·have h1 : tyR (.mk k n [e]) d = -1 := by
     conv => lhs; unfold tyR
     rw [if_neg hd, if_neg h16, if_neg h7]
     exact if_neg h8
    rw [h1]
    refine leaf false fun p hk => ?_
    rw [tyS_go identS k n [e] d p hk, if_neg h16, if_neg h7]
    exact if_neg h8
def c86 := by
 have c := KK_of Tryz.f86 (by conv => lhs; cbv)
 dsimp only [KK, KxP, doO, opO, List.map_cons, List.map_nil, List.toList_toArray] at c
 exact c
theorem b86 : FnIs Tryz.prog 86 Tryz.f86 40 := ⟨Tryz.func86, by kernel_rfl⟩
def c116 := by
 have c := KK_of Tryz.f116 (by conv => lhs; cbv)
 dsimp only [KK, KxP, doO, opO, List.map_cons, List.map_nil, List.toList_toArray] at c
 exact c
theorem b116 : FnIs Tryz.prog 116 Tryz.f116 26 := ⟨Tryz.func116, by kernel_rfl⟩
def c89 := by
 have c := KK_of Tryz.f89 (by conv => lhs; cbv)
 dsimp only [KK, KxP, doO, opO, List.map_cons, List.map_nil, List.toList_toArray] at c
 exact c
theorem b89 : FnIs Tryz.prog 89 Tryz.f89 64 := ⟨Tryz.func89, by kernel_rfl⟩
set_option maxHeartbeats 4000000 in
theorem identR_ab (s : List UInt8) (B : List (List V)) (T : List (Nat × Nat)) : AFn Tryz.prog TabI 86 [.d (.str s)] ⟨B, T⟩ (Same (.d (.bool (identS s))) ⟨B, T⟩) := by
 rw [← ident_rule]
 cases s with
 | nil =>
  refine b86.go 60 rfl fun hsm => ?_
  simp only [smw] at hsm
  simp only [W, seval, c86]
  refine ARun.ret Tryz.func86 rfl (Left.none ?_)
  exact ⟨rfl, rfl⟩
 | cons c r =>
 obtain ⟨s, hs⟩ : ∃ s, c :: r = s := ⟨_, rfl⟩
 have hdef : identR s = (decide (s.length ≤ 300) && letterB c && !reservedS s && s.all wordB) := by rw [← hs]; rfl
 have hg0 : s[0]? = some c := by rw [← hs]; rfl
 have hpos : 0 < s.length := by rw [← hs]; simp
 rw [hs, hdef]
 have e0 : decide ((s.length : Int) = 0) = false := decide_eq_false (by omega)
 have h0l : decide ((0 : Int) < (s.length : Int)) = true := decide_eq_true (by omega)
 by_cases h3 : s.length ≤ 300
 case neg =>
  have e3 : decide ((300 : Int) < (s.length : Int)) = true := decide_eq_true (by omega)
  rw [decide_eq_false h3, Bool.false_and, Bool.false_and, Bool.false_and]
  refine b86.go 60 rfl fun hsm => ?_
  simp only [smw] at hsm
  simp only [W, seval, c86, e0, e3]
  refine ARun.ret Tryz.func86 rfl (Left.none ?_)
  exact ⟨rfl, rfl⟩
 have e3 : decide ((300 : Int) < (s.length : Int)) = false := decide_eq_false (by omega)
 rw [decide_eq_true h3, Bool.true_and]
 refine b86.go 60 rfl fun hsm => ?_
 simp only [smw] at hsm
 simp only [W, seval, c86, e0, e3, hg0, hpos, h0l]
 refine callS_fn (letterR_ab c _) ?_
 rintro _ _ ⟨rfl, rfl⟩
 cases hl : letterB c
 ·refine ARun.go 60 ?_
  simp only [W, seval, c86]
  refine ARun.ret Tryz.func86 rfl (Left.none ?_)
  exact ⟨rfl, rfl⟩
 refine ARun.go 60 ?_
 simp only [W, seval, c86]
 refine callS_fn (reservedR_ab s _) ?_
 rintro _ _ ⟨rfl, rfl⟩
 cases hr : reservedS s
 case true =>
  refine ARun.go 60 ?_
  simp only [W, seval, c86]
  refine ARun.ret Tryz.func86 rfl (Left.none ?_)
  exact ⟨rfl, rfl⟩
 refine ARun.go 60 ?_
 simp only [W, seval, c86]
 refine ARun.loopW (fun i : Nat => (envS 40 [(0, .d (.str s)), (3, .d (.int .i64 (i : Int)))], ⟨B, T⟩)) (fun i => i ≤ s.length ∧ (s.drop i).all wordB = s.all wordB) (fun i => s.length - i) 0 ⟨by omega, rfl⟩ ?_ rfl ?_
 ·skip
  refine Agree.env _ ?_
  simp only [agw, seval]
 rintro i ⟨h1, h2⟩ ih
 dsimp only at h1 h2 ih ⊢
 by_cases hlt : i < s.length
 case neg =>
  have hd : decide ((i : Int) < (s.length : Int)) = false := decide_eq_false (by omega)
  rw [List.drop_eq_nil_of_le (by omega)] at h2
  refine ARun.go 60 ?_
  simp only [W, seval, c86, hd]
  refine ARun.ret Tryz.func86 rfl (Left.none ?_)
  rw [← h2]
  exact ⟨rfl, rfl⟩
 have hd : decide ((i : Int) < (s.length : Int)) = true := decide_eq_true (by omega)
 have hg : s[i]? = some s[i] := List.getElem?_eq_getElem hlt
 have hw := wrap_in ((i : Int) + 1) (by omega)
 rw [drop_get hlt, List.all_cons] at h2
 have hwb : wordB s[i] = (letterB s[i] || digitB s[i]) := rfl
 rw [hwb] at h2
 refine ARun.go 60 ?_
 simp only [W, seval, c86, hd, hg, hlt]
 refine callS_fn (letterR_ab s[i] _) ?_
 rintro _ _ ⟨rfl, rfl⟩
 cases hl1 : letterB s[i]
 case true =>
  rw [hl1] at h2
  refine ARun.go 60 ?_
  simp only [W, seval, c86, hw]
  refine ih (i + 1) ⟨by omega, by simpa using h2⟩ (by omega) _ _ ?_ rfl
  refine Agree.env _ ?_
  simp only [agw, seval]
 refine ARun.go 60 ?_
 simp only [W, seval, c86, hg, hlt]
 refine callS_fn (digitR_ab s[i] _) ?_
 rintro _ _ ⟨rfl, rfl⟩
 cases hd1 : digitB s[i]
 case true =>
  rw [hl1, hd1] at h2
  refine ARun.go 60 ?_
  simp only [W, seval, c86, hw]
  refine ih (i + 1) ⟨by omega, by simpa using h2⟩ (by omega) _ _ ?_ rfl
  refine Agree.env _ ?_
  simp only [agw, seval]
 rw [hl1, hd1] at h2
 refine ARun.go 60 ?_
 simp only [W, seval, c86]
 refine ARun.ret Tryz.func86 rfl (Left.none ?_)
 rw [← h2]
 exact ⟨rfl, rfl⟩
theorem diff_row (l : List (List UInt8)) (i : Nat) (h : i < l.length) : diffS (i + 1) l = (diffS i l && identS l[i] && !(l.take i).contains l[i]) := by
 rw [diffS, List.getD_eq_getElem?_getD, List.getElem?_eq_getElem h]
 rfl
set_option maxHeartbeats 4000000 in
theorem idents_ab (l : List (List UInt8)) (B : List (List V)) (T : List (Nat × Nat)) : AFn Tryz.prog TabI 116 [.d (.sl (ssD l))] ⟨B, T⟩ (Same (.d (.bool (diffS l.length l))) ⟨B, T⟩) := by
 have hll : (ssD l).length = l.length := by simp [ssD]
 refine b116.go 60 rfl fun hsm => ?_
 simp only [smw] at hsm
 simp only [W, seval, c116]
 refine ARun.loopW (fun i : Nat => (envS 26 [(0, .d (.sl (ssD l))), (3, .d (.int .i64 (i : Int)))], ⟨B, T⟩)) (fun i => i ≤ l.length ∧ diffS i l = true) (fun i => l.length - i) 0 ⟨by omega, rfl⟩ ?_ rfl ?_
 ·skip
  refine Agree.env _ ?_
  simp only [agw, seval]
 rintro i ⟨h1, h2⟩ ih
 dsimp only at h1 h2 ih ⊢
 by_cases hlt : i < l.length
 case neg =>
  have hd : decide ((i : Int) < (l.length : Int)) = false := decide_eq_false (by omega)
  obtain rfl : i = l.length := by omega
  refine ARun.go 60 ?_
  simp only [W, seval, c116, hll, hd]
  refine ARun.ret Tryz.func116 rfl (Left.none ?_)
  rw [h2]
  exact ⟨rfl, rfl⟩
 have hd : decide ((i : Int) < (l.length : Int)) = true := decide_eq_true (by omega)
 have hg : (ssD l)[i]? = some [.str l[i]] := by simp [ssD, hlt]
 have hst := diff_row l i hlt
 rw [h2, Bool.true_and] at hst
 refine ARun.go 20 ?_
 simp only [W, seval, c116, hll, hd]
 refine ARun.draw (by kernel_rfl) (by kernel_rfl) (lexQ_ok 60 _ _ ?_)
 simp only [W, seval, c116, hg, hlt]
 refine ⟨_, identR_ab l[i] _ _, ?_⟩
 have hw := wrap_in ((i : Int) + 1) (by omega)
 have hmt : (ssD l).take i = ssD (l.take i) := by simp [ssD]
 have hle : (i : Int) ≤ (l.length : Int) := by omega
 cases hid : identS l[i]
 ·rw [hid] at hst
  simp only [W, seval, c116]
  refine ARun.go 20 ?_
  simp only [W, seval, c116]
  refine ARun.ret Tryz.func116 rfl (Left.none ?_)
  rw [diffS_no l (i + 1) (by simpa using hst) l.length (by omega)]
  exact ⟨rfl, rfl⟩
 rw [hid, Bool.true_and] at hst
 simp only [W, seval, c116, hg, hlt, hll, hmt, hle]
 refine ⟨_, in_ab l[i] (l.take i) _ _, ?_⟩
 cases hc : (l.take i).contains l[i]
 ·rw [hc] at hst
  simp only [W, seval, c116]
  refine ARun.go 20 ?_
  simp only [W, seval, c116, hw]
  refine ih (i + 1) ⟨by omega, by simpa using hst⟩ (by omega) _ _ ?_ rfl
  refine Agree.env _ ?_
  simp only [agw, seval]
 ·rw [hc] at hst
  simp only [W, seval, c116]
  refine ARun.go 20 ?_
  simp only [W, seval, c116]
  refine ARun.ret Tryz.func116 rfl (Left.none ?_)
  rw [diffS_no l (i + 1) (by simpa using hst) l.length (by omega)]
  exact ⟨rfl, rfl⟩
theorem tyR_le (t : TyT) (d : Int) : tyR t d ≤ 60000 := (tyR_agr t d).hi
theorem tyR_leaf (k : Int) (n : List UInt8) (es : List TyT) (d : Int) (hd : ¬ 60 < d) (h : ¬ (k = 8 ∧ n = [] ∧ es.length = 1)) : tyR (.mk k n es) d = if 1 ≤ k ∧ k ≤ 6 then (if n = [] ∧ es.length = 0 then 1 else -1) else if k = 7 then (if identS n = true ∧ es.length = 0 then 1 else -1) else -1 := by
 unfold tyR
 rw [if_neg hd]
 split
 ·rfl
 split
 ·rfl
 match es, h with
 | [], _ => rfl
 | [e], h => exact if_neg fun h2 => h ⟨h2.1, h2.2, rfl⟩
 | _ :: _ :: _, _ => rfl
set_option maxHeartbeats 8000000 in
theorem typR_ab : ∀ (t : TyT) (d : Int) (B : List (List V)) (T : List (Nat × Nat)), 0 ≤ d → d ≤ 61 → AFn Tryz.prog TabI 89 [tyV t, .d (.int .i64 d)] ⟨B, T⟩ (Same (.d (.int .i64 (tyR t d))) ⟨B, T⟩)
 | .mk k n es, d, B, T, hd0, hd1 => by
  obtain ⟨N, hn⟩ : ∃ N, B.length = N := ⟨_, rfl⟩
  simp only [tyV, TyT.kind, TyT.name, TyT.elem]
  by_cases hd : 60 < d
  ·have h1 : tyR (.mk k n es) d = -1 := by unfold tyR; rw [if_pos hd]
   have e := decide_eq_true hd
   rw [h1]
   refine b89.go 60 rfl fun hsm => ?_
   simp only [smw] at hsm
   simp only [W, seval, c89, hn, e]
   refine ARun.ret Tryz.func89 rfl (Left.box ?_)
   exact ⟨rfl, rfl⟩
  have e := decide_eq_false hd
  by_cases h8 : k = 8 ∧ n = [] ∧ es.length = 1
  ·obtain ⟨rfl, rfl, h1⟩ := h8
   match es, h1 with
   | [t], _ =>
    have ih := typR_ab t (d + 1)
    have h1 : tyR (.mk 8 [] [t]) d = plusM 1 (tyR t (d + 1)) := by
     conv => lhs; unfold tyR
     rw [if_neg hd, if_neg (by decide), if_neg (by decide)]
     exact if_pos ⟨rfl, rfl⟩
    have hw := wrap_in (d + 1) (by omega)
    have ht := tyR_le t (d + 1)
    have htv : tyV t = .agg [.d (.int .i64 t.kind), .d (.str t.name), .d (.sl (t.elem.map tyD))] := rfl
    have hte : tyD t = [.int .i64 t.kind, .str t.name, .sl (t.elem.map tyD)] := tyD_eq t
    rw [h1]
    rw [htv] at ih
    refine b89.go 100 rfl fun hsm => ?_
    simp only [smw] at hsm
    simp only [W, seval, c89, hn, e, hw, hte]
    refine callS_fn (ih _ _ (by omega) (by omega)) ?_
    rintro _ _ ⟨rfl, rfl⟩
    refine ARun.go 20 ?_
    simp only [W, seval, c89, hn]
    refine callS_fn (plus_ab 1 _ (by omega) ht _ _) ?_
    rintro _ _ ⟨rfl, rfl⟩
    refine ARun.go 20 ?_
    simp only [W, seval, c89, hn]
    refine ARun.ret Tryz.func89 rfl (Left.box ?_)
    exact ⟨rfl, rfl⟩
  rw [tyR_leaf k n es d hd h8]
  have hv : ∀ (b : Prop) [Decidable b], (if b ∧ es.length = 0 then (1 : Int) else -1) = if (decide b && decide ((es.length : Int) = 0)) = true then 1 else -1 := by
   intro b _
   have hq : ((es.length : Int) = 0) = (es.length = 0) := propext ⟨fun h => by omega, fun h => by omega⟩
   simp [hq]
  by_cases hA : 1 ≤ k ∧ k ≤ 6
  ·rw [if_pos hA, hv]
   have a1 := decide_eq_true hA.1
   have a6 := decide_eq_true hA.2
   have a7 : decide (k = 7) = false := decide_eq_false (by omega)
   have a8 : decide (k = 8) = false := decide_eq_false (by omega)
   cases an : decide (n = []) <;> cases al : decide ((es.length : Int) = 0)
   all_goals
    refine b89.go 100 rfl fun hsm => ?_
    simp only [smw] at hsm
    simp only [W, seval, c89, hn, e, a1, a6, a7, a8, an, al]
    refine ARun.ret Tryz.func89 rfl (Left.box ?_)
    exact ⟨rfl, rfl⟩
  rw [if_neg hA]
  by_cases hB : k = 7
  ·rw [if_pos hB, hv, Bool.decide_eq_true]
   have a1 : decide (1 ≤ k) = true := decide_eq_true (by omega)
   have a6 : decide (k ≤ 6) = false := decide_eq_false (by omega)
   have a7 := decide_eq_true hB
   have a8 : decide (k = 8) = false := decide_eq_false (by omega)
   refine b89.go 100 rfl fun hsm => ?_
   simp only [smw] at hsm
   simp only [W, seval, c89, hn, e, a1, a6, a7, a8]
   refine callS_fn (identR_ab n _ _) ?_
   rintro _ _ ⟨rfl, rfl⟩
   cases identS n <;> cases al : decide ((es.length : Int) = 0)
   all_goals
    refine ARun.go 100 ?_
    simp only [W, seval, c89, hn, a7, a8, al]
    refine ARun.ret Tryz.func89 rfl (Left.box ?_)
    exact ⟨rfl, rfl⟩
  rw [if_neg hB]
  have a7 := decide_eq_false hB
  by_cases h88 : k = 8
  ·have a1 : decide (1 ≤ k) = true := decide_eq_true (by omega)
   have a6 : decide (k ≤ 6) = false := decide_eq_false (by omega)
   have a8 := decide_eq_true h88
   cases an : decide (n = [])
   ·refine b89.go 100 rfl fun hsm => ?_
    simp only [smw] at hsm
    simp only [W, seval, c89, hn, e, a1, a6, a7, a8, an]
    refine ARun.ret Tryz.func89 rfl (Left.box ?_)
    exact ⟨rfl, rfl⟩
   ·have al : decide ((es.length : Int) = 1) = false := decide_eq_false fun h => h8 ⟨h88, of_decide_eq_true an, by omega⟩
    refine b89.go 100 rfl fun hsm => ?_
    simp only [smw] at hsm
    simp only [W, seval, c89, hn, e, a1, a6, a7, a8, an, al]
    refine ARun.ret Tryz.func89 rfl (Left.box ?_)
    exact ⟨rfl, rfl⟩
  have a8 := decide_eq_false h88
  by_cases h1 : 1 ≤ k
  ·have a1 := decide_eq_true h1
   have a6 : decide (k ≤ 6) = false := decide_eq_false (by omega)
   refine b89.go 100 rfl fun hsm => ?_
   simp only [smw] at hsm
   simp only [W, seval, c89, hn, e, a1, a6, a7, a8]
   refine ARun.ret Tryz.func89 rfl (Left.box ?_)
   exact ⟨rfl, rfl⟩
  ·have a1 := decide_eq_false h1
   refine b89.go 100 rfl fun hsm => ?_
   simp only [smw] at hsm
   simp only [W, seval, c89, hn, e, a1, a7, a8]
   refine ARun.ret Tryz.func89 rfl (Left.box ?_)
   exact ⟨rfl, rfl⟩
theorem bad_plusM (a : Int) : plusM a (-1) = -1 := by unfold plusM; rw [if_pos (.inr (.inl (by omega)))]
def posE : ExT → Prop
 | .mk k _ i _ _ ks => (k = 3 → 0 ≤ i) ∧ ∀ x ∈ ks, posE x
def okB (x : ExT) : Bool :=
 (if x.kind = 1 ∨ x.kind = 7 ∨ x.kind = 9 then identS x.text else if x.kind = 6 then decide (0 < rankS x.text) else decide (x.text = [])) &&
 (if x.kind = 2 then true else decide (x.int = 0) || (decide (x.kind = 3) && decide (x.int = 1))) &&
 (if x.kind = 8 then decide (2 ≤ x.type.kind ∧ x.type.kind ≤ 6) else if x.kind = 14 then decide (x.type.kind = 7) else if x.kind = 15 then decide (x.type.kind = 8) else zeroS x.type) &&
 (if x.kind = 14 then decide (x.names.length = x.kids.length) && diffS x.names.length x.names else decide (x.names.length = 0))
def tyd (k : Int) : Bool := decide (k = 8) || decide (k = 14) || decide (k = 15)
def bR (x : ExT) (d : Int) : Int := plusM (if okB x = true then 0 else -1) (if tyd x.kind = true then tyR x.type (d + 1) else 0)
def sizeB (k : Int) (n : Nat) : Bool := decide ((n : Int) ≤ mostS k) && decide (1 ≤ k ∧ k ≤ 15) && (decide (manyS k = -1) || decide ((n : Int) = manyS k))
mutual
def exR : ExT → Int → Int
 | .mk k t i ty ns ks, d => plusM (if 60 < d then -1 else 1) (plusM (if sizeB k ks.length = true then 0 else -1) (plusM (bR (.mk k t i ty ns ks) d) (exsR ks (d + 1))))
def exsR : List ExT → Int → Int
 | [], _ => 0
 | x :: l, d => plusM (exR x d) (exsR l d)
end
theorem bool_eq {a b : Bool} (h : a = true ↔ b = true) : a = b := Bool.eq_iff_iff.2 h
theorem bare_agr (x : ExT) (d : Int) (hp : x.kind = 3 → 0 ≤ x.int) : Agr (fun p => bareS x d p) (bR x d) := by
 unfold bR
 have ht : Agr (if tyd x.kind = true then fun p => tyS identS x.type (d + 1) p else allowS true) (if tyd x.kind = true then tyR x.type (d + 1) else 0) := by
  by_cases h : tyd x.kind = true
  ·rw [if_pos h, if_pos h]
   exact tyR_agr _ _
  ·rw [if_neg h, if_neg h]
   exact Agr.allow true
 refine ((Agr.allow (okB x)).and ht).congr fun p _ _ => ?_
 obtain ⟨k, hk⟩ : ∃ k, x.kind = k := ⟨_, rfl⟩
 have hz : (x.names.length = 0) = ¬ 0 < x.names.length := propext ⟨fun h => by omega, fun h => by omega⟩
 have he : ∀ l : List UInt8, (l == []) = decide (l = []) := fun l => by cases l <;> rfl
 have key : (bareS x d p).1 = (okB x && (if tyd k = true then (tyS identS x.type (d + 1) p).1 else true)) ∧ ((bareS x d p).1 = true → (bareS x d p).2 = if tyd k = true then (tyS identS x.type (d + 1) p).2 else p) := by
  unfold bareS bareT okB tyd
  rw [hk] at hp ⊢
  have hb : ∀ a b : Prop, (a = b) = (a ↔ b) := fun a b => propext ⟨fun h => by rw [h], propext⟩
  by_cases h8 : k = 8
  ·subst h8
   by_cases h2 : 2 ≤ x.type.kind ∧ x.type.kind ≤ 6
   ·refine ⟨bool_eq ?_, ?_⟩
    ·simp [he, h2]
     grind
    ·simp [h2]
   ·refine ⟨bool_eq ?_, ?_⟩
    ·simp [he, h2]
    ·simp [h2]
  by_cases h14 : k = 14
  ·subst h14
   by_cases h2 : x.type.kind = 7
   ·by_cases h3 : (tyS identS x.type (d + 1) p).1 = true
    ·refine ⟨bool_eq ?_, ?_⟩
     ·simp [he, h2, h3]
      grind
     ·simp [h2, h3]
    ·refine ⟨bool_eq ?_, ?_⟩
     ·simp [he, h2, h3]
     ·simp [h2, h3]
   ·refine ⟨bool_eq ?_, ?_⟩
    ·simp [he, h2]
    ·simp [h2]
  by_cases h15 : k = 15
  ·subst h15
   by_cases h2 : x.type.kind = 8
   ·refine ⟨bool_eq ?_, ?_⟩
    ·simp [he, h2]
     grind
    ·simp [h2]
   ·refine ⟨bool_eq ?_, ?_⟩
    ·simp [he, h2]
    ·simp [h2]
  refine ⟨bool_eq ?_, ?_⟩
  ·by_cases h3 : k = 3
   ·subst h3
    have := hp rfl
    simp [he]
    grind
   ·simp [he, h8, h14, h15, h3]
    grind
  ·simp [h8, h14, h15]
 show (bareS x d p).1 = (andS (allowS (okB x)) (if tyd x.kind = true then fun p => tyS identS x.type (d + 1) p else allowS true) p).1 ∧ ((bareS x d p).1 = true → (bareS x d p).2 = (andS (allowS (okB x)) (if tyd x.kind = true then fun p => tyS identS x.type (d + 1) p else allowS true) p).2)
 have e1 : ∀ g, andS (allowS true) g p = g p := fun g => rfl
 have e2 : ∀ g, andS (allowS false) g p = (false, p) := fun g => rfl
 rw [key.1, hk]
 cases ho : okB x
 ·rw [e2]
  exact ⟨rfl, fun h => (by cases h)⟩
 ·rw [e1]
  have h2 := key.2
  rw [key.1, ho] at h2
  simp only [Bool.true_and] at h2 ⊢
  by_cases h : tyd k = true
  ·simp only [if_pos h] at h2 ⊢
   exact ⟨trivial, h2⟩
  ·simp only [if_neg h] at h2 ⊢
   exact ⟨rfl, fun _ => h2 trivial⟩
theorem size_eq (k : Int) (n : Nat) : (mostS k < (n : Int) ∨ manyS k = -2 ∨ (0 ≤ manyS k ∧ (n : Int) ≠ manyS k)) ↔ sizeB k n = false := by
 have h1 : manyS k = -2 ↔ ¬ (1 ≤ k ∧ k ≤ 15) := by
  unfold manyS
  repeat' split
  all_goals omega
 have h2 : -2 ≤ manyS k := by
  unfold manyS
  repeat' split
  all_goals omega
 have h3 : (sizeB k n = true) ↔ ((n : Int) ≤ mostS k ∧ (1 ≤ k ∧ k ≤ 15)) ∧ (manyS k = -1 ∨ (n : Int) = manyS k) := by
  unfold sizeB
  simp
 rw [← Bool.not_eq_true, h3]
 omega
mutual
theorem exR_agr : ∀ (x : ExT) (d : Int), posE x → Agr (fun p => exS x d p) (exR x d)
 | .mk k t i ty ns ks, d, hx => by
  unfold posE at hx
  have hb := bare_agr (.mk k t i ty ns ks) d hx.1
  have hk := exsR_agr ks (d + 1) hx.2
  have hall := (Agr.part d).and ((Agr.allow (sizeB k ks.length)).and (hb.and hk))
  conv => rhs; unfold exR
  refine hall.congr fun p _ _ => ?_
  have hs := size_eq k ks.length
  by_cases h1 : partOk d p = false
  ·have e1 : exS (.mk k t i ty ns ks) d p = (false, p + 1) := by unfold exS; rw [if_pos h1]
   have e2 : ∀ g, andS (partS d) g p = (false, p + 1) := fun g => by unfold andS partS; rw [if_pos h1]
   rw [e1, e2]
   exact ⟨rfl, fun _ => rfl⟩
  have e2 : ∀ g, andS (partS d) g p = g (p + 1) := fun g => by unfold andS partS; rw [if_neg h1]
  rw [e2]
  unfold exS
  rw [if_neg h1]
  by_cases h2 : sizeB k ks.length = false
  ·rw [if_pos (hs.2 h2), h2]
   exact ⟨rfl, fun h => (by cases h)⟩
  ·rw [if_neg fun h => h2 (hs.1 h), show sizeB k ks.length = true by simpa using h2]
   show _ = (andS (fun p => bareS (.mk k t i ty ns ks) d p) (fun p => exsS ks (d + 1) p) (p + 1)).1 ∧ (_ → _ = (andS (fun p => bareS (.mk k t i ty ns ks) d p) (fun p => exsS ks (d + 1) p) (p + 1)).2)
   unfold andS
   exact ⟨rfl, fun _ => rfl⟩
theorem exsR_agr : ∀ (l : List ExT) (d : Int), (∀ x ∈ l, posE x) → Agr (fun p => exsS l d p) (exsR l d)
 | [], d, _ => by
  unfold exsR
  refine (Agr.allow true).congr fun p _ _ => ?_
  unfold exsS
  exact ⟨rfl, fun _ => rfl⟩
 | x :: l, d, h => by
  unfold exsR
  refine ((exR_agr x d (h x List.mem_cons_self)).and (exsR_agr l d fun y hy => h y (List.mem_cons_of_mem _ hy))).congr fun p _ _ => ?_
  have e : exsS (x :: l) d p = andS (fun p => exS x d p) (fun p => exsS l d p) p := by
   conv => lhs; unfold exsS
   rfl
  rw [e]
  exact ⟨rfl, fun _ => rfl⟩
end
def c150 := by
 have c := KK_of Tryz.f150 (by conv => lhs; cbv)
 dsimp only [KK, KxP, doO, opO, List.map_cons, List.map_nil, List.toList_toArray] at c
 exact c
theorem exR_le (x : ExT) (d : Int) : -1 ≤ exR x d ∧ exR x d ≤ 60000 := by cases x; unfold exR; exact plusM_in _ _
theorem exsR_le : ∀ (l : List ExT) (d : Int), -1 ≤ exsR l d ∧ exsR l d ≤ 60000
 | [], d => by unfold exsR; omega
 | x :: l, d => by unfold exsR; exact plusM_in _ _
theorem exsR_drop (ks : List ExT) (i : Nat) (h : i < ks.length) (d : Int) : exsR (ks.drop i) d = plusM (exR ks[i] d) (exsR (ks.drop (i + 1)) d) := by
 rw [drop_get h]
 conv => lhs; unfold exsR
def ExpOk (x : ExT) : Prop := ∀ (d : Int) (B : List (List V)) (T : List (Nat × Nat)), 0 ≤ d → d ≤ 61 → AFn Tryz.prog TabI 150 [exV x, .d (.int .i64 d)] ⟨B, T⟩ (Same (.d (.int .i64 (exR x d))) ⟨B, T⟩)
def exbV (x : ExT) : List V := [.d (.int .i64 x.kind), .d (.str x.text), .d (.int .u64 x.int), .d (.int .i64 x.type.kind), .d (.str x.type.name), .d (.sl (x.type.elem.map tyD)), .d (.sl (ssD x.names)), .d (.sl (x.kids.map exD))]
set_option maxHeartbeats 4000000 in
theorem exp_e (x : ExT) (hk : ∀ y ∈ x.kids, ExpOk y) (hlen : x.kids.length ≤ 30000) (d n : Int) (hd0 : 0 ≤ d) (hd : d ≤ 60) (hn0 : -1 ≤ n) (hn1 : n ≤ 60000) (N : Nat) (B : List (List V)) (T : List (Nat × Nat)) (hn : B.length = N) :
 ARun Tryz.prog TabI (N, T.length) 150 [.code (kF Tryz.f150 72)] (envS 218 [(1, .d (.int .i64 d)), (2, .ptr N 0), (6, .d (.int .i64 n)), (7, .d (.int .i64 (x.kids.length : Int)))]) ⟨B ++ [exbV x], T⟩ (Ab.Left ⟨B, T⟩ (Same (.d (.int .i64 (plusM n (exsR x.kids (d + 1))))) ⟨B, T⟩)) := by
 have hw := wrap_in (d + 1) (by omega)
 refine ARun.go 8 ?_
 simp only [W, seval, c150, hn]
 refine ARun.loopW (fun a : Nat × Int => (envS 218 [(1, .d (.int .i64 d)), (2, .ptr N 0), (6, .d (.int .i64 a.2)), (7, .d (.int .i64 (x.kids.length : Int))), (11, .d (.int .i64 (a.1 : Int)))], ⟨B ++ [exbV x], T⟩)) (fun a => a.1 ≤ x.kids.length ∧ -1 ≤ a.2 ∧ a.2 ≤ 60000 ∧ plusM a.2 (exsR (x.kids.drop a.1) (d + 1)) = plusM n (exsR x.kids (d + 1))) (fun a => x.kids.length - a.1) (0, n) ⟨by simp, hn0, hn1, rfl⟩ ?_ rfl ?_
 ·skip
  refine Agree.env _ ?_
  simp only [agw, seval]
 rintro ⟨i, q⟩ ⟨h1, h2, h3, h4⟩ ih
 dsimp only at h1 h2 h3 h4 ih ⊢
 by_cases hlt : i < x.kids.length
 case neg =>
  have e1 : decide ((i : Int) < (x.kids.length : Int)) = false := decide_eq_false (by omega)
  rw [List.drop_eq_nil_of_le (by omega)] at h4
  have h5 : exsR [] (d + 1) = 0 := by unfold exsR; rfl
  rw [h5, plusM_zero h2 h3] at h4
  rw [← h4]
  refine ARun.go 60 ?_
  simp only [W, seval, c150, hn, e1]
  refine ARun.ret Tryz.func150 rfl (Left.box ?_)
  exact ⟨rfl, rfl⟩
 have e1 : decide ((i : Int) < (x.kids.length : Int)) = true := decide_eq_true (by omega)
 have hwi := wrap_in ((i : Int) + 1) (by omega)
 have hg : (x.kids.map exD)[i]? = some (exD x.kids[i]) := by simp [hlt]
 have hy := hk x.kids[i] (List.getElem_mem hlt) (d + 1) (B ++ [exbV x]) T (by omega) (by omega)
 have hle := exR_le x.kids[i] (d + 1)
 rw [exsR_drop x.kids i hlt, ← plusM_assoc] at h4
 obtain ⟨y, hyy⟩ : ∃ y, x.kids[i] = y := ⟨_, rfl⟩
 rw [hyy] at hg hy hle h4
 rw [exD_eq] at hg
 unfold exV at hy
 refine ARun.go 60 ?_
 simp only [W, seval, c150, hn, e1, hg, hlt, hw, exbV]
 refine callS_fn hy ?_
 rintro _ _ ⟨rfl, rfl⟩
 refine ARun.go 20 ?_
 simp only [W, seval, c150, hn]
 refine callS_fn (plus_ab q _ h3 hle.2 _ _) ?_
 rintro _ _ ⟨rfl, rfl⟩
 have hpi := plusM_in q (exR y (d + 1))
 refine ARun.go 20 ?_
 simp only [W, seval, c150, hn, hwi]
 refine ih (i + 1, plusM q (exR y (d + 1))) ⟨by dsimp only; omega, hpi.1, hpi.2, h4⟩ (by dsimp only; omega) _ _ ?_ rfl
 refine Agree.env _ ?_
 simp only [agw, seval]
def okA (x : ExT) : Bool := if x.kind = 1 ∨ x.kind = 7 ∨ x.kind = 9 then identS x.text else if x.kind = 6 then decide (0 < rankS x.text) else decide (x.text = [])
def okI (x : ExT) : Bool := if x.kind = 2 then true else decide (x.int = 0) || (decide (x.kind = 3) && decide (x.int = 1))
def okT (x : ExT) : Bool := if x.kind = 8 then decide (2 ≤ x.type.kind ∧ x.type.kind ≤ 6) else if x.kind = 14 then decide (x.type.kind = 7) else if x.kind = 15 then decide (x.type.kind = 8) else zeroS x.type
def okN (x : ExT) : Bool := if x.kind = 14 then decide (x.names.length = x.kids.length) && diffS x.names.length x.names else decide (x.names.length = 0)
theorem okB_eq (x : ExT) : okB x = (okA x && okI x && okT x && okN x) := rfl
def resN (x : ExT) (d n : Int) : Int := if okN x = true then plusM n (exsR x.kids (d + 1)) else -1
def resT (x : ExT) (d : Int) : Int := if okT x = true then resN x d (if tyd x.kind = true then plusM 1 (tyR x.type (d + 1)) else 1) else -1
def resI (x : ExT) (d : Int) : Int := if okI x = true then resT x d else -1
def resA (x : ExT) (d : Int) : Int := if okA x = true then resI x d else -1
theorem nat_dec (a b : Nat) : decide ((a : Int) = (b : Int)) = decide (a = b) := by rw [decide_eq_decide]; omega
set_option maxHeartbeats 4000000 in
theorem exp_d (x : ExT) (hk : ∀ y ∈ x.kids, ExpOk y) (hlen : x.kids.length ≤ 30000) (d n : Int) (hd0 : 0 ≤ d) (hd : d ≤ 60) (hn0 : -1 ≤ n) (hn1 : n ≤ 60000) (N : Nat) (B : List (List V)) (T : List (Nat × Nat)) (hn : B.length = N) :
 ARun Tryz.prog TabI (N, T.length) 150 [.code (kF Tryz.f150 64)] (envS 218 [(1, .d (.int .i64 d)), (2, .ptr N 0), (6, .d (.int .i64 n)), (7, .d (.int .i64 (x.kids.length : Int)))]) ⟨B ++ [exbV x], T⟩ (Ab.Left ⟨B, T⟩ (Same (.d (.int .i64 (resN x d n))) ⟨B, T⟩)) := by
 have he := exp_e x hk hlen d n hd0 hd hn0 hn1 N B T hn
 unfold resN
 refine ARun.go 1 ?_
 simp only [W, seval, c150]
 refine ARun.after [_] _ (fun _ : Unit => (envS 218 [(1, .d (.int .i64 d)), (2, .ptr N 0), (6, .d (.int .i64 n)), (7, .d (.int .i64 (x.kids.length : Int)))], ⟨B ++ [exbV x], T⟩)) (fun _ => okN x = true) ?_ ?_
 ·rintro ⟨⟩ hc
  rw [if_pos hc]
  exact he
 intro K' hend
 by_cases h14 : x.kind = 14
 ·have e14 := decide_eq_true h14
  have hN : okN x = (decide (x.names.length = x.kids.length) && diffS x.names.length x.names) := by unfold okN; rw [if_pos h14]
  have hnd := nat_dec x.names.length x.kids.length
  cases hl : decide (x.names.length = x.kids.length)
  ·rw [hl] at hnd hN
   rw [hN]
   refine ARun.goK 60 ?_
   simp only [W, seval, c150, hn, exbV, e14, hnd]
   refine ARun.ret Tryz.func150 rfl (Left.box ?_)
   exact ⟨rfl, rfl⟩
  rw [hl] at hnd hN
  refine ARun.goK 60 ?_
  simp only [W, seval, c150, hn, exbV, e14, hnd]
  refine callS_fn (idents_ab x.names _ _) ?_
  rintro _ _ ⟨rfl, rfl⟩
  cases hb : diffS x.names.length x.names
  ·rw [hb] at hN
   rw [hN]
   refine ARun.goK 60 ?_
   simp only [W, seval, c150, hn]
   refine ARun.ret Tryz.func150 rfl (Left.box ?_)
   exact ⟨rfl, rfl⟩
  ·rw [hb] at hN
   refine ARun.goK 60 ?_
   simp only [W, seval, c150, hn, exbV, e14]
   refine hend () hN _ _ ?_ rfl
   refine Agree.env _ ?_
   simp only [agw, seval]
 ·have e14 := decide_eq_false h14
  have hN : okN x = decide (x.names.length = 0) := by unfold okN; rw [if_neg h14]
  by_cases h0 : x.names.length = 0
  ·have e0 : decide ((0 : Int) < (x.names.length : Int)) = false := decide_eq_false (by omega)
   refine ARun.goK 60 ?_
   simp only [W, seval, c150, hn, exbV, e14, e0]
   refine hend () (by rw [hN]; exact decide_eq_true h0) _ _ ?_ rfl
   refine Agree.env _ ?_
   simp only [agw, seval]
  ·have e0 : decide ((0 : Int) < (x.names.length : Int)) = true := decide_eq_true (by omega)
   rw [hN, decide_eq_false h0]
   refine ARun.goK 60 ?_
   simp only [W, seval, c150, hn, exbV, e14, e0]
   refine ARun.ret Tryz.func150 rfl (Left.box ?_)
   exact ⟨rfl, rfl⟩
set_option maxHeartbeats 8000000 in
theorem exp_c (x : ExT) (hk : ∀ y ∈ x.kids, ExpOk y) (hlen : x.kids.length ≤ 30000) (d : Int) (hd0 : 0 ≤ d) (hd : d ≤ 60) (N : Nat) (B : List (List V)) (T : List (Nat × Nat)) (hn : B.length = N) :
 ARun Tryz.prog TabI (N, T.length) 150 [.code (kF Tryz.f150 50)] (envS 218 [(1, .d (.int .i64 d)), (2, .ptr N 0), (6, .d (.int .i64 1)), (7, .d (.int .i64 (x.kids.length : Int)))]) ⟨B ++ [exbV x], T⟩ (Ab.Left ⟨B, T⟩ (Same (.d (.int .i64 (resT x d))) ⟨B, T⟩)) := by
 have hw := wrap_in (d + 1) (by omega)
 refine ARun.go 1 ?_
 simp only [W, seval, c150]
 refine ARun.after [_] _ (fun _ : Unit => (envS 218 [(1, .d (.int .i64 d)), (2, .ptr N 0), (6, .d (.int .i64 1)), (7, .d (.int .i64 (x.kids.length : Int))), (10, .d (.bool (tyd x.kind && okT x)))], ⟨B ++ [exbV x], T⟩)) (fun _ => True) ?_ ?_
 ·rintro ⟨⟩ -
  refine ARun.go 1 ?_
  simp only [W, seval, c150]
  refine ARun.after [_] _ (fun _ : Unit => (envS 218 [(1, .d (.int .i64 d)), (2, .ptr N 0), (6, .d (.int .i64 (if tyd x.kind = true then plusM 1 (tyR x.type (d + 1)) else 1))), (7, .d (.int .i64 (x.kids.length : Int)))], ⟨B ++ [exbV x], T⟩)) (fun _ => okT x = true) ?_ ?_
  ·rintro ⟨⟩ hc
   unfold resT
   rw [if_pos hc]
   have hp := plusM_in 1 (tyR x.type (d + 1))
   exact exp_d x hk hlen d _ hd0 hd (by split <;> omega) (by split <;> omega) N B T hn
  intro K' hend
  cases ht : (tyd x.kind && okT x)
  ·cases htd : tyd x.kind
   ·have hok : okT x = zeroS x.type := by
     unfold tyd at htd
     unfold okT
     simp only [Bool.or_eq_false_iff, decide_eq_false_iff_not] at htd
     rw [if_neg htd.1.1, if_neg htd.1.2, if_neg htd.2]
    have htd' := htd
    unfold tyd at htd'
    simp only [Bool.or_eq_false_iff] at htd'
    have hnz := none_ab x.type (B ++ [exbV x]) T
    unfold tyV at hnz
    refine ARun.goK 60 ?_
    simp only [W, seval, c150, hn, exbV, htd'.1.1, htd'.1.2, htd'.2]
    refine callS_fn hnz ?_
    rintro _ _ ⟨rfl, rfl⟩
    cases hz : zeroS x.type
    ·unfold resT
     rw [hok, hz]
     refine ARun.goK 60 ?_
     simp only [W, seval, c150, hn]
     refine ARun.ret Tryz.func150 rfl (Left.box ?_)
     exact ⟨rfl, rfl⟩
    ·refine ARun.goK 60 ?_
     simp only [W, seval, c150, hn]
     refine hend () (by rw [hok, hz]) _ _ ?_ rfl
     rw [htd]
     refine Agree.env _ ?_
     simp only [agw, seval]
     all_goals rfl
   ·have hok : okT x = false := by rw [htd, Bool.true_and] at ht; exact ht
    unfold resT
    rw [hok]
    unfold tyd at htd
    cases e8 : decide (x.kind = 8)
    ·cases e14 : decide (x.kind = 14)
     ·rw [e8, e14, Bool.false_or, Bool.false_or] at htd
      refine ARun.goK 60 ?_
      simp only [W, seval, c150, hn, exbV, e8, e14, htd]
      refine ARun.ret Tryz.func150 rfl (Left.box ?_)
      exact ⟨rfl, rfl⟩
     ·refine ARun.goK 60 ?_
      simp only [W, seval, c150, hn, exbV, e8, e14]
      refine ARun.ret Tryz.func150 rfl (Left.box ?_)
      exact ⟨rfl, rfl⟩
    ·refine ARun.goK 60 ?_
     simp only [W, seval, c150, hn, exbV, e8]
     refine ARun.ret Tryz.func150 rfl (Left.box ?_)
     exact ⟨rfl, rfl⟩
  ·obtain ⟨htd, hok⟩ := Bool.and_eq_true_iff.1 ht
   have hty := typR_ab x.type (d + 1) (B ++ [exbV x]) T (by omega) (by omega)
   unfold tyV at hty
   have hle := tyR_le x.type (d + 1)
   refine ARun.goK 60 ?_
   simp only [W, seval, c150, hn, exbV, hw]
   refine callS_fn hty ?_
   rintro _ _ ⟨rfl, rfl⟩
   refine ARun.goK 60 ?_
   simp only [W, seval, c150, hn]
   refine callS_fn (plus_ab 1 _ (by omega) hle _ _) ?_
   rintro _ _ ⟨rfl, rfl⟩
   refine ARun.goK 60 ?_
   simp only [W, seval, c150, hn]
   refine hend () hok _ _ ?_ rfl
   rw [htd]
   refine Agree.env _ ?_
   simp only [agw, seval]
   all_goals rfl
 intro K' hend
 by_cases h8 : x.kind = 8
 ·have e8 := decide_eq_true h8
  have ht : (tyd x.kind && okT x) = (decide (2 ≤ x.type.kind) && decide (x.type.kind ≤ 6)) := by
   unfold tyd okT
   rw [if_pos h8, e8]
   simp
  rw [ht] at hend
  cases a2 : decide (2 ≤ x.type.kind) <;> cases a6 : decide (x.type.kind ≤ 6)
  all_goals
   rw [a2, a6] at hend
   have e14 : decide (x.kind = 14) = false := decide_eq_false (by omega)
   have e15 : decide (x.kind = 15) = false := decide_eq_false (by omega)
   refine ARun.goK 60 ?_
   simp only [W, seval, c150, hn, exbV, e8, e14, e15, a2, a6]
   refine hend () trivial _ _ ?_ rfl
   refine Agree.env _ ?_
   simp only [agw, seval]
   try rfl
 have e8 := decide_eq_false h8
 by_cases h14 : x.kind = 14
 ·have e14 := decide_eq_true h14
  have e15 : decide (x.kind = 15) = false := decide_eq_false (by omega)
  have ht : (tyd x.kind && okT x) = decide (x.type.kind = 7) := by
   unfold tyd okT
   rw [if_neg h8, if_pos h14, e14]
   simp
  rw [ht] at hend
  cases a7 : decide (x.type.kind = 7)
  all_goals
   rw [a7] at hend
   refine ARun.goK 60 ?_
   simp only [W, seval, c150, hn, exbV, e8, e14, e15, a7]
   refine hend () trivial _ _ ?_ rfl
   refine Agree.env _ ?_
   simp only [agw, seval]
   try rfl
 have e14 := decide_eq_false h14
 by_cases h15 : x.kind = 15
 ·have e15 := decide_eq_true h15
  have ht : (tyd x.kind && okT x) = decide (x.type.kind = 8) := by
   unfold tyd okT
   rw [if_neg h8, if_neg h14, if_pos h15, e15]
   simp
  rw [ht] at hend
  refine ARun.goK 60 ?_
  simp only [W, seval, c150, hn, exbV, e8, e14, e15]
  refine hend () trivial _ _ ?_ rfl
  refine Agree.env _ ?_
  simp only [agw, seval]
  try rfl
 have e15 := decide_eq_false h15
 have ht : (tyd x.kind && okT x) = false := by
  unfold tyd
  rw [e8, e14, e15]
  rfl
 rw [ht] at hend
 refine ARun.goK 60 ?_
 simp only [W, seval, c150, hn, exbV, e8, e14, e15]
 refine hend () trivial _ _ ?_ rfl
 refine Agree.env _ ?_
 simp only [agw, seval]
 try rfl
theorem rank_nn (s : List UInt8) : 0 ≤ rankS s := by
 rcases rank_in s with ⟨x, hx, rfl⟩ | h
 ·have : ∀ x ∈ rankT, 0 ≤ rankS x.1 := by decide
  exact this x hx
 ·rw [rank_no s fun x hx e => by simpa [e] using h x hx]
  omega
set_option maxHeartbeats 4000000 in
theorem exp_b (x : ExT) (hk : ∀ y ∈ x.kids, ExpOk y) (hlen : x.kids.length ≤ 30000) (d : Int) (hd0 : 0 ≤ d) (hd : d ≤ 60) (N : Nat) (B : List (List V)) (T : List (Nat × Nat)) (hn : B.length = N) :
 ARun Tryz.prog TabI (N, T.length) 150 [.code (kF Tryz.f150 42)] (envS 218 [(1, .d (.int .i64 d)), (2, .ptr N 0), (6, .d (.int .i64 1)), (7, .d (.int .i64 (x.kids.length : Int)))]) ⟨B ++ [exbV x], T⟩ (Ab.Left ⟨B, T⟩ (Same (.d (.int .i64 (resI x d))) ⟨B, T⟩)) := by
 have he := exp_c x hk hlen d hd0 hd N B T hn
 unfold resI
 refine ARun.go 1 ?_
 simp only [W, seval, c150]
 refine ARun.after [_] _ (fun _ : Unit => (envS 218 [(1, .d (.int .i64 d)), (2, .ptr N 0), (6, .d (.int .i64 1)), (7, .d (.int .i64 (x.kids.length : Int)))], ⟨B ++ [exbV x], T⟩)) (fun _ => okI x = true) ?_ ?_
 ·rintro ⟨⟩ hc
  rw [if_pos hc]
  exact he
 intro K' hend
 by_cases h2 : x.kind = 2
 ·have e2 := decide_eq_true h2
  have ho : okI x = true := by unfold okI; rw [if_pos h2]
  refine ARun.goK 60 ?_
  simp only [W, seval, c150, hn, exbV, e2]
  refine hend () ho _ _ ?_ rfl
  refine Agree.env _ ?_
  simp only [agw, seval]
 have e2 := decide_eq_false h2
 have ho : okI x = (decide (x.int = 0) || (decide (x.kind = 3) && decide (x.int = 1))) := by unfold okI; rw [if_neg h2]
 cases e0 : decide (x.int = 0)
 case true =>
  rw [e0] at ho
  refine ARun.goK 60 ?_
  simp only [W, seval, c150, hn, exbV, e2, e0]
  refine hend () ho _ _ ?_ rfl
  refine Agree.env _ ?_
  simp only [agw, seval]
 cases e3 : decide (x.kind = 3)
 case false =>
  rw [e0, e3] at ho
  rw [ho]
  refine ARun.goK 60 ?_
  simp only [W, seval, c150, hn, exbV, e2, e0, e3]
  refine ARun.ret Tryz.func150 rfl (Left.box ?_)
  exact ⟨rfl, rfl⟩
 cases e1 : decide (x.int = 1)
 case true =>
  rw [e0, e3, e1] at ho
  refine ARun.goK 60 ?_
  simp only [W, seval, c150, hn, exbV, e2, e0, e3, e1]
  refine hend () ho _ _ ?_ rfl
  refine Agree.env _ ?_
  simp only [agw, seval]
 rw [e0, e3, e1] at ho
 rw [ho]
 refine ARun.goK 60 ?_
 simp only [W, seval, c150, hn, exbV, e2, e0, e3, e1]
 refine ARun.ret Tryz.func150 rfl (Left.box ?_)
 exact ⟨rfl, rfl⟩
set_option maxHeartbeats 4000000 in
theorem exp_a (x : ExT) (hk : ∀ y ∈ x.kids, ExpOk y) (hlen : x.kids.length ≤ 30000) (d : Int) (hd0 : 0 ≤ d) (hd : d ≤ 60) (N : Nat) (B : List (List V)) (T : List (Nat × Nat)) (hn : B.length = N) :
 ARun Tryz.prog TabI (N, T.length) 150 [.code (kF Tryz.f150 32)] (envS 218 [(1, .d (.int .i64 d)), (2, .ptr N 0), (6, .d (.int .i64 1)), (7, .d (.int .i64 (x.kids.length : Int)))]) ⟨B ++ [exbV x], T⟩ (Ab.Left ⟨B, T⟩ (Same (.d (.int .i64 (resA x d))) ⟨B, T⟩)) := by
 have he := exp_b x hk hlen d hd0 hd N B T hn
 unfold resA
 refine ARun.go 1 ?_
 simp only [W, seval, c150]
 refine ARun.after [_] _ (fun _ : Unit => (envS 218 [(1, .d (.int .i64 d)), (2, .ptr N 0), (6, .d (.int .i64 1)), (7, .d (.int .i64 (x.kids.length : Int))), (9, .d (.bool (decide (x.kind = 1) || decide (x.kind = 7) || decide (x.kind = 9))))], ⟨B ++ [exbV x], T⟩)) (fun _ => True) ?_ ?_
 ·rintro ⟨⟩ -
  refine ARun.go 1 ?_
  simp only [W, seval, c150]
  refine ARun.after [_] _ (fun _ : Unit => (envS 218 [(1, .d (.int .i64 d)), (2, .ptr N 0), (6, .d (.int .i64 1)), (7, .d (.int .i64 (x.kids.length : Int)))], ⟨B ++ [exbV x], T⟩)) (fun _ => okA x = true) ?_ ?_
  ·rintro ⟨⟩ hc
   rw [if_pos hc]
   exact he
  intro K' hend
  cases hm : (decide (x.kind = 1) || decide (x.kind = 7) || decide (x.kind = 9))
  ·have hno : ¬ (x.kind = 1 ∨ x.kind = 7 ∨ x.kind = 9) := by
    simp only [Bool.or_eq_false_iff, decide_eq_false_iff_not] at hm
    omega
   by_cases h6 : x.kind = 6
   ·have e6 := decide_eq_true h6
    have ho : okA x = decide (0 < rankS x.text) := by unfold okA; rw [if_neg hno, if_pos h6]
    have hnn := rank_nn x.text
    refine ARun.goK 60 ?_
    simp only [W, seval, c150, hn, exbV, e6]
    refine callS_fn (rankR_ab x.text _ _) ?_
    rintro _ _ ⟨rfl, rfl⟩
    by_cases hr : rankS x.text = 0
    ·have er := decide_eq_true hr
     rw [ho, decide_eq_false (by omega : ¬ 0 < rankS x.text)]
     refine ARun.goK 60 ?_
     simp only [W, seval, c150, hn, exbV, e6, er]
     refine ARun.ret Tryz.func150 rfl (Left.box ?_)
     exact ⟨rfl, rfl⟩
    ·have er := decide_eq_false hr
     refine ARun.goK 60 ?_
     simp only [W, seval, c150, hn, exbV, e6, er]
     refine hend () (by rw [ho]; exact decide_eq_true (by omega)) _ _ ?_ rfl
     refine Agree.env _ ?_
     simp only [agw, seval]
   ·have e6 := decide_eq_false h6
    have ho : okA x = decide (x.text = []) := by unfold okA; rw [if_neg hno, if_neg h6]
    cases et : decide (x.text = [])
    ·rw [et] at ho
     rw [ho]
     refine ARun.goK 60 ?_
     simp only [W, seval, c150, hn, exbV, e6, et]
     refine ARun.ret Tryz.func150 rfl (Left.box ?_)
     exact ⟨rfl, rfl⟩
    ·rw [et] at ho
     refine ARun.goK 60 ?_
     simp only [W, seval, c150, hn, exbV, e6, et]
     refine hend () ho _ _ ?_ rfl
     refine Agree.env _ ?_
     simp only [agw, seval]
  ·have hyes : x.kind = 1 ∨ x.kind = 7 ∨ x.kind = 9 := by
    simp only [Bool.or_eq_true, decide_eq_true_eq] at hm
    omega
   have e6 : decide (x.kind = 6) = false := decide_eq_false (by omega)
   have ho : okA x = identS x.text := by unfold okA; rw [if_pos hyes]
   refine ARun.goK 60 ?_
   simp only [W, seval, c150, hn, exbV, e6]
   refine callS_fn (identR_ab x.text _ _) ?_
   rintro _ _ ⟨rfl, rfl⟩
   cases hi : identS x.text
   ·rw [ho, hi]
    refine ARun.goK 60 ?_
    simp only [W, seval, c150, hn, exbV, e6]
    refine ARun.ret Tryz.func150 rfl (Left.box ?_)
    exact ⟨rfl, rfl⟩
   ·refine ARun.goK 60 ?_
    simp only [W, seval, c150, hn, exbV, e6]
    refine hend () (by rw [ho, hi]) _ _ ?_ rfl
    refine Agree.env _ ?_
    simp only [agw, seval]
 intro K' hend
 cases e1 : decide (x.kind = 1)
 case true =>
  rw [e1] at hend
  refine ARun.goK 60 ?_
  simp only [W, seval, c150, hn, exbV, e1]
  refine hend () trivial _ _ ?_ rfl
  refine Agree.env _ ?_
  simp only [agw, seval]
  try rfl
 cases e7 : decide (x.kind = 7)
 case true =>
  rw [e1, e7] at hend
  refine ARun.goK 60 ?_
  simp only [W, seval, c150, hn, exbV, e1, e7]
  refine hend () trivial _ _ ?_ rfl
  refine Agree.env _ ?_
  simp only [agw, seval]
  try rfl
 rw [e1, e7] at hend
 refine ARun.goK 60 ?_
 simp only [W, seval, c150, hn, exbV, e1, e7]
 refine hend () trivial _ _ ?_ rfl
 refine Agree.env _ ?_
 simp only [agw, seval]
 try rfl
def wantI (k : Int) (n : Nat) : Int := if manyS k = -1 then (n : Int) else manyS k
def wantD (n : Int) : List (List D) := [[.int .i64 (-1)], [.int .i64 0], [.int .i64 0], [.int .i64 0], [.int .i64 1], [.int .i64 1], [.int .i64 2], [.int .i64 n], [.int .i64 1], [.int .i64 1], [.int .i64 2], [.int .i64 3], [.int .i64 1], [.int .i64 2], [.int .i64 n], [.int .i64 n]]
theorem want_get (k : Int) (n : Nat) (h1 : 1 ≤ k) (h2 : k ≤ 15) : (wantD (n : Int))[k.toNat]? = some [.int .i64 (wantI k n)] := by
 have : k = 1 ∨ k = 2 ∨ k = 3 ∨ k = 4 ∨ k = 5 ∨ k = 6 ∨ k = 7 ∨ k = 8 ∨ k = 9 ∨ k = 10 ∨ k = 11 ∨ k = 12 ∨ k = 13 ∨ k = 14 ∨ k = 15 := by omega
 rcases this with rfl | rfl | rfl | rfl | rfl | rfl | rfl | rfl | rfl | rfl | rfl | rfl | rfl | rfl | rfl <;> rfl
theorem res_eq (x : ExT) (d : Int) (hd : ¬ 60 < d) (hs : sizeB x.kind x.kids.length = true) : resA x d = exR x d := by
 cases x with
 | mk k t i ty ns ks =>
 have he := exsR_le ks (d + 1)
 have h1 : ∀ a, -1 ≤ a → a ≤ 60000 → plusM 0 a = a := fun a h2 h3 => zero_plusM h2 h3
 have hsz : sizeB k ks.length = true := hs
 unfold exR resA resI resT resN
 rw [if_neg hd, if_pos hsz]
 unfold bR
 rw [okB_eq]
 have hp := plusM_in
 rw [zero_plusM (hp _ _).1 (hp _ _).2]
 cases okA (.mk k t i ty ns ks)
 ·simp [plusM_bad, bad_plusM]
 cases okI (.mk k t i ty ns ks)
 ·simp [plusM_bad, bad_plusM]
 cases okT (.mk k t i ty ns ks)
 ·simp [plusM_bad, bad_plusM]
 cases okN (.mk k t i ty ns ks)
 ·simp [plusM_bad, bad_plusM]
 simp only [Bool.and_self, if_true]
 show plusM (if tyd k = true then plusM 1 (tyR ty (d + 1)) else 1) (exsR ks (d + 1)) = plusM 1 (plusM (plusM 0 (if tyd k = true then tyR ty (d + 1) else 0)) (exsR ks (d + 1)))
 have hty := tyR_agr ty (d + 1)
 by_cases h : tyd k = true
 ·rw [if_pos h, if_pos h, zero_plusM hty.lo hty.hi, plusM_assoc]
 ·rw [if_neg h, if_neg h, zero_plusM (by omega) (by omega), zero_plusM he.1 he.2]
theorem exR_deep (x : ExT) {d : Int} (h : 60 < d) : exR x d = -1 := by cases x; unfold exR; rw [if_pos h, plusM_bad]
theorem exR_size (x : ExT) (d : Int) (h : sizeB x.kind x.kids.length = false) : exR x d = -1 := by
 cases x with
 | mk k t i ty ns ks =>
 have h' : sizeB k ks.length = false := h
 unfold exR
 have hb : (if sizeB k ks.length = true then (0 : Int) else -1) = -1 := by rw [h']; rfl
 rw [hb, plusM_bad, bad_plusM]
set_option maxHeartbeats 8000000 in
theorem exp_step (x : ExT) (hk : ∀ y ∈ x.kids, ExpOk y) : ExpOk x := by
 intro d B T hd0 hd1
 obtain ⟨N, hn⟩ : ∃ N, B.length = N := ⟨_, rfl⟩
 refine AFn.bodyE (body := kF Tryz.f150 0) 218 Tryz.func150 (by kernel_rfl) (by kernel_rfl) (by kernel_rfl) (Nat.le_of_ble_eq_true rfl) fun hsm => ?_
 simp only [smL, sm, exV, stV, tyV, caV, paV, suV, fuV, prV, Bool.and_eq_true, decide_eq_true_eq, and_true, true_and, List.length_map, ssD_length] at hsm
 unfold exV
 refine ARun.go 10 ?_
 simp only [W, seval, c150, hn]
 change ARun _ _ _ _ _ _ ⟨B ++ [exbV x], T⟩ _
 refine ARun.after [_] _ (fun _ : Unit => (envS 218 [(1, .d (.int .i64 d)), (2, .ptr N 0), (5, .d (.int .i64 (mostS x.kind)))], ⟨B ++ [exbV x], T⟩)) (fun _ => True) ?_ ?_
 case refine_2 =>
  intro K' hend
  unfold mostS at hend
  by_cases h15 : x.kind = 15
  ·have e15 := decide_eq_true h15
   rw [if_pos h15] at hend
   refine ARun.goK 30 ?_
   simp only [W, seval, c150, hn, exbV, e15]
   refine hend () trivial _ _ ?_ rfl
   refine Agree.env _ ?_
   simp only [agw, seval]
  ·have e15 := decide_eq_false h15
   rw [if_neg h15] at hend
   refine ARun.goK 30 ?_
   simp only [W, seval, c150, hn, exbV, e15]
   refine hend () trivial _ _ ?_ rfl
   refine Agree.env _ ?_
   simp only [agw, seval]
 rintro ⟨⟩ -
 refine ARun.go 1 ?_
 simp only [W, seval, c150]
 refine ARun.after [_] _ (fun _ : Unit => (envS 218 [(1, .d (.int .i64 d)), (2, .ptr N 0)], ⟨B ++ [exbV x], T⟩)) (fun _ => ¬ 60 < d ∧ (x.kids.length : Int) ≤ mostS x.kind) ?_ ?_
 case refine_2 =>
  intro K' hend
  by_cases hd : 60 < d
  ·have e := decide_eq_true hd
   rw [exR_deep x hd]
   refine ARun.goK 30 ?_
   simp only [W, seval, c150, hn, exbV, e]
   refine ARun.ret Tryz.func150 rfl (Left.box ?_)
   exact ⟨rfl, rfl⟩
  have e := decide_eq_false hd
  by_cases hm : mostS x.kind < (x.kids.length : Int)
  ·have em := decide_eq_true hm
   rw [exR_size x d (by unfold sizeB; rw [decide_eq_false (by omega : ¬ (x.kids.length : Int) ≤ mostS x.kind)]; rfl)]
   refine ARun.goK 30 ?_
   simp only [W, seval, c150, hn, exbV, e, em]
   refine ARun.ret Tryz.func150 rfl (Left.box ?_)
   exact ⟨rfl, rfl⟩
  ·have em := decide_eq_false hm
   refine ARun.goK 30 ?_
   simp only [W, seval, c150, hn, exbV, e, em]
   refine hend () ⟨hd, by omega⟩ _ _ ?_ rfl
   refine Agree.env _ ?_
   simp only [agw, seval]
 rintro ⟨⟩ ⟨hd, hm⟩
 have hm30 : mostS x.kind ≤ 30000 := by unfold mostS; split <;> omega
 refine ARun.go 20 ?_
 simp only [W, seval, c150, hn, exbV, mapD_nil, mapD_cons, Nat.reduceMul]
 change ARun _ _ _ _ _ _ ⟨B ++ [exbV x], T⟩ _
 refine ARun.after [_] _ (fun _ : Unit => (envS 218 [(1, .d (.int .i64 d)), (2, .ptr N 0), (6, .d (.int .i64 1)), (7, .d (.int .i64 (x.kids.length : Int)))], ⟨B ++ [exbV x], T⟩)) (fun _ => sizeB x.kind x.kids.length = true) ?_ ?_
 ·rintro ⟨⟩ hs
  rw [← res_eq x d hd hs]
  exact exp_a x hk (by omega) d hd0 (by omega) N B T hn
 intro K' hend
 by_cases h1 : x.kind < 1
 ·have e1 := decide_eq_true h1
  rw [exR_size x d (by unfold sizeB; rw [decide_eq_false (by omega : ¬ (1 ≤ x.kind ∧ x.kind ≤ 15)), Bool.and_false, Bool.false_and])]
  refine ARun.goK 40 ?_
  simp only [W, seval, c150, hn, exbV, e1]
  refine ARun.ret Tryz.func150 rfl (Left.box ?_)
  exact ⟨rfl, rfl⟩
 have e1 := decide_eq_false h1
 by_cases h2 : 15 < x.kind
 ·have e2 := decide_eq_true h2
  rw [exR_size x d (by unfold sizeB; rw [decide_eq_false (by omega : ¬ (1 ≤ x.kind ∧ x.kind ≤ 15)), Bool.and_false, Bool.false_and])]
  refine ARun.goK 40 ?_
  simp only [W, seval, c150, hn, exbV, e1, e2]
  refine ARun.ret Tryz.func150 rfl (Left.box ?_)
  exact ⟨rfl, rfl⟩
 have e2 := decide_eq_false h2
 have hg := want_get x.kind x.kids.length (by omega) (by omega)
 unfold wantD at hg
 have hk0 : (0 : Int) ≤ x.kind := by omega
 have hk16 : x.kind.toNat < 16 := by omega
 have hs : sizeB x.kind x.kids.length = decide ((x.kids.length : Int) = wantI x.kind x.kids.length) := by
  unfold sizeB wantI
  rw [decide_eq_true hm, decide_eq_true (by omega : 1 ≤ x.kind ∧ x.kind ≤ 15)]
  by_cases hw : manyS x.kind = -1
  ·simp [hw]
  ·simp [hw]
 cases ew : decide ((x.kids.length : Int) = wantI x.kind x.kids.length)
 ·rw [ew] at hs
  rw [exR_size x d hs]
  refine ARun.goK 40 ?_
  simp only [W, seval, c150, hn, exbV, e1, e2, hg, hk0, hk16, ew]
  refine ARun.ret Tryz.func150 rfl (Left.box ?_)
  exact ⟨rfl, rfl⟩
 ·rw [ew] at hs
  refine ARun.goK 40 ?_
  simp only [W, seval, c150, hn, exbV, e1, e2, hg, hk0, hk16, ew]
  refine hend () hs _ _ ?_ rfl
  refine Agree.env _ ?_
  simp only [agw, seval]
mutual
theorem expR_ab : ∀ x : ExT, ExpOk x
 | .mk _ _ _ _ _ ks => exp_step _ (expR_all ks)
theorem expR_all : ∀ (ks : List ExT), ∀ x ∈ ks, ExpOk x
 | [], _, h => absurd h List.not_mem_nil
 | y :: l, x, h => by
  rcases List.mem_cons.1 h with e | e
  ·rw [e]; exact expR_ab y
  ·exact expR_all l x e
end
def c137 := by
 have c := KK_of Tryz.f137 (by conv => lhs; cbv)
 dsimp only [KK, KxP, doO, opO, List.map_cons, List.map_nil, List.toList_toArray] at c
 exact c
theorem b137 : FnIs Tryz.prog 137 Tryz.f137 25 := ⟨Tryz.func137, by kernel_rfl⟩
def c149 := by
 have c := KK_of Tryz.f149 (by conv => lhs; cbv)
 dsimp only [KK, KxP, doO, opO, List.map_cons, List.map_nil, List.toList_toArray] at c
 exact c
theorem b149 : FnIs Tryz.prog 149 Tryz.f149 21 := ⟨Tryz.func149, by kernel_rfl⟩
def c156 := by
 have c := KK_of Tryz.f156 (by conv => lhs; cbv)
 dsimp only [KK, KxP, doO, opO, List.map_cons, List.map_nil, List.toList_toArray] at c
 exact c
theorem b156 : FnIs Tryz.prog 156 Tryz.f156 24 := ⟨Tryz.func156, by kernel_rfl⟩
def c148 := by
 have c := KK_of Tryz.f148 (by conv => lhs; cbv)
 dsimp only [KK, KxP, doO, opO, List.map_cons, List.map_nil, List.toList_toArray] at c
 exact c
theorem b148 : FnIs Tryz.prog 148 Tryz.f148 19 := ⟨Tryz.func148, by kernel_rfl⟩
def xs40R (l : List ExT) (d : Int) : Int := if l.length ≤ 40 then exsR l d else -1
theorem xs40_agr (l : List ExT) (d : Int) (h : ∀ x ∈ l, posE x) : Agr (exs40 l d) (xs40R l d) := by
 have h1 := (exsR_agr l d h).and (Agr.allow (decide (l.length ≤ 40)))
 have h2 : plusM (exsR l d) (if decide (l.length ≤ 40) = true then 0 else -1) = xs40R l d := by
  unfold xs40R
  have := exsR_le l d
  by_cases hl : l.length ≤ 40
  ·rw [if_pos hl, decide_eq_true hl, if_pos rfl, plusM_zero this.1 this.2]
  ·rw [if_neg hl, decide_eq_false hl, if_neg (by decide), bad_plusM]
 rw [h2] at h1
 exact h1
set_option maxHeartbeats 4000000 in
theorem exps_ab (l : List ExT) (d : Int) (hd0 : 0 ≤ d) (hd : d ≤ 61) (B : List (List V)) (T : List (Nat × Nat)) : AFn Tryz.prog TabI 137 [.d (.sl (l.map exD)), .d (.int .i64 d)] ⟨B, T⟩ (Same (.d (.int .i64 (xs40R l d))) ⟨B, T⟩) := by
 unfold xs40R
 by_cases h40 : l.length ≤ 40
 case neg =>
  have e : decide ((40 : Int) < (l.length : Int)) = true := decide_eq_true (by omega)
  rw [if_neg h40]
  refine b137.go 40 rfl fun hsm => ?_
  simp only [smw] at hsm
  simp only [W, seval, c137, e]
  refine ARun.ret Tryz.func137 rfl (Left.none ?_)
  exact ⟨rfl, rfl⟩
 have e : decide ((40 : Int) < (l.length : Int)) = false := decide_eq_false (by omega)
 rw [if_pos h40]
 refine b137.go 40 rfl fun hsm => ?_
 simp only [smw] at hsm
 simp only [W, seval, c137, e]
 refine ARun.loopW (fun a : Nat × Int => (envS 25 [(0, .d (.sl (l.map exD))), (1, .d (.int .i64 d)), (5, .d (.int .i64 a.2)), (6, .d (.int .i64 (a.1 : Int)))], ⟨B, T⟩)) (fun a => a.1 ≤ l.length ∧ -1 ≤ a.2 ∧ a.2 ≤ 60000 ∧ plusM a.2 (exsR (l.drop a.1) d) = exsR l d) (fun a => l.length - a.1) (0, 0) ⟨by simp, by decide, by decide, zero_plusM (exsR_le l d).1 (exsR_le l d).2⟩ ?_ rfl ?_
 ·skip
  refine Agree.env _ ?_
  simp only [agw, seval]
 rintro ⟨i, q⟩ ⟨h1, h2, h3, h4⟩ ih
 dsimp only at h1 h2 h3 h4 ih ⊢
 by_cases hlt : i < l.length
 case neg =>
  have e1 : decide ((i : Int) < (l.length : Int)) = false := decide_eq_false (by omega)
  rw [List.drop_eq_nil_of_le (by omega)] at h4
  have h5 : exsR [] d = 0 := by unfold exsR; rfl
  rw [h5, plusM_zero h2 h3] at h4
  rw [← h4]
  refine ARun.go 60 ?_
  simp only [W, seval, c137, e1]
  refine ARun.ret Tryz.func137 rfl (Left.none ?_)
  exact ⟨rfl, rfl⟩
 have e1 : decide ((i : Int) < (l.length : Int)) = true := decide_eq_true (by omega)
 have hwi := wrap_in ((i : Int) + 1) (by omega)
 have hg : (l.map exD)[i]? = some (exD l[i]) := by simp [hlt]
 have hy := expR_ab l[i] d B T hd0 hd
 have hle := exR_le l[i] d
 rw [exsR_drop l i hlt, ← plusM_assoc] at h4
 obtain ⟨y, hyy⟩ : ∃ y, l[i] = y := ⟨_, rfl⟩
 rw [hyy] at hg hy hle h4
 rw [exD_eq] at hg
 unfold exV at hy
 refine ARun.go 60 ?_
 simp only [W, seval, c137, e1, hg, hlt]
 refine callS_fn hy ?_
 rintro _ _ ⟨rfl, rfl⟩
 refine ARun.go 20 ?_
 simp only [W, seval, c137]
 refine callS_fn (plus_ab q _ h3 hle.2 _ _) ?_
 rintro _ _ ⟨rfl, rfl⟩
 have hpi := plusM_in q (exR y d)
 refine ARun.go 20 ?_
 simp only [W, seval, c137, hwi]
 refine ih (i + 1, plusM q (exR y d)) ⟨by dsimp only; omega, hpi.1, hpi.2, h4⟩ (by dsimp only; omega) _ _ ?_ rfl
 refine Agree.env _ ?_
 simp only [agw, seval]
mutual
def headR : ExT → Bool
 | .mk k _ _ _ _ ks => headsR ks && decide (k < 14)
def headsR : List ExT → Bool
 | [] => true
 | x :: l => headR x && headsR l
end
theorem plusM_nn {a b : Int} (h : 0 ≤ plusM a b) : 0 ≤ a ∧ 0 ≤ b := by unfold plusM at h; split at h <;> omega
mutual
theorem headR_eq : ∀ (x : ExT) (d : Int), 0 ≤ exR x d → headR x = headS x
 | .mk k _ _ _ _ ks, d, h => by
  unfold exR at h
  have h2 := plusM_nn (plusM_nn h).2
  have h3 := plusM_nn h2.2
  have hs : sizeB k ks.length = true := by
   cases hb : sizeB k ks.length
   ·rw [hb] at h2
    exact absurd h2.1 (by decide)
   ·rfl
  have hk : 1 ≤ k ∧ k ≤ 15 := by
   unfold sizeB at hs
   simp only [Bool.and_eq_true, decide_eq_true_eq] at hs
   exact hs.1.2
  have hl := headsR_eq ks (d + 1) h3.2
  unfold headR headS
  rw [hl]
  cases headsS ks
  ·simp
  ·by_cases h14 : k < 14
   ·rw [decide_eq_true h14, decide_eq_true (by omega : k ≠ 14), decide_eq_true (by omega : k ≠ 15)]
    rfl
   ·rw [decide_eq_false h14]
    by_cases h5 : k = 14
    ·rw [decide_eq_false (by omega : ¬ k ≠ 14)]
     rfl
    ·rw [decide_eq_false (by omega : ¬ k ≠ 15), Bool.and_false, Bool.and_false, Bool.false_and]
theorem headsR_eq : ∀ (l : List ExT) (d : Int), 0 ≤ exsR l d → headsR l = headsS l
 | [], _, _ => by unfold headsR headsS; rfl
 | x :: l, d, h => by
  unfold exsR at h
  have h6 := plusM_nn h
  unfold headsR headsS
  rw [headR_eq x d h6.1, headsR_eq l d h6.2]
end
theorem headsR_drop (ks : List ExT) (i : Nat) (h : i < ks.length) : headsR (ks.drop i) = (headR ks[i] && headsR (ks.drop (i + 1))) := by
 rw [drop_get h]
 conv => lhs; unfold headsR
def HeadRk (x : ExT) : Prop := ∀ (B : List (List V)) (T : List (Nat × Nat)), AFn Tryz.prog TabI 149 [exV x] ⟨B, T⟩ (Same (.d (.bool (headR x))) ⟨B, T⟩)
set_option maxHeartbeats 4000000 in
theorem headR_step (x : ExT) (hk : ∀ y ∈ x.kids, HeadRk y) : HeadRk x := by
 intro B T
 obtain ⟨N, hn⟩ : ∃ N, B.length = N := ⟨_, rfl⟩
 have hx : headR x = (headsR x.kids && decide (x.kind < 14)) := by cases x; rfl
 rw [hx]
 unfold exV
 refine b149.go 40 rfl fun hsm => ?_
 simp only [smw] at hsm
 simp only [W, seval, c149, hn]
 change ARun _ _ _ _ _ _ ⟨B ++ [exbV x], T⟩ _
 refine ARun.loopW (fun i : Nat => (envS 21 [(1, .ptr N 0), (3, .d (.int .i64 (i : Int)))], ⟨B ++ [exbV x], T⟩)) (fun i => i ≤ x.kids.length ∧ headsR (x.kids.drop i) = headsR x.kids) (fun i => x.kids.length - i) 0 ⟨by omega, rfl⟩ ?_ rfl ?_
 ·skip
  refine Agree.env _ ?_
  simp only [agw, seval]
 rintro i ⟨h1, h2⟩ ih
 dsimp only at h1 h2 ih ⊢
 by_cases hlt : i < x.kids.length
 case neg =>
  have e1 : decide ((i : Int) < (x.kids.length : Int)) = false := decide_eq_false (by omega)
  rw [List.drop_eq_nil_of_le (by omega)] at h2
  have h5 : headsR [] = true := by unfold headsR; rfl
  rw [← h2, h5, Bool.true_and]
  refine ARun.go 60 ?_
  simp only [W, seval, c149, hn, exbV, e1]
  refine ARun.ret Tryz.func149 rfl (Left.box ?_)
  exact ⟨rfl, rfl⟩
 have e1 : decide ((i : Int) < (x.kids.length : Int)) = true := decide_eq_true (by omega)
 have hwi := wrap_in ((i : Int) + 1) (by omega)
 have hg : (x.kids.map exD)[i]? = some (exD x.kids[i]) := by simp [hlt]
 have hy := hk x.kids[i] (List.getElem_mem hlt) (B ++ [exbV x]) T
 rw [headsR_drop x.kids i hlt] at h2
 obtain ⟨y, hyy⟩ : ∃ y, x.kids[i] = y := ⟨_, rfl⟩
 rw [hyy] at hg hy h2
 rw [exD_eq] at hg
 unfold exV at hy
 refine ARun.go 60 ?_
 simp only [W, seval, c149, hn, e1, hg, hlt, exbV]
 refine callS_fn hy ?_
 rintro _ _ ⟨rfl, rfl⟩
 cases hb : headR y
 ·rw [hb] at h2
  rw [← h2]
  refine ARun.go 60 ?_
  simp only [W, seval, c149, hn]
  refine ARun.ret Tryz.func149 rfl (Left.box ?_)
  exact ⟨rfl, rfl⟩
 ·rw [hb] at h2
  refine ARun.go 60 ?_
  simp only [W, seval, c149, hn, hwi]
  refine ih (i + 1) ⟨by omega, h2⟩ (by omega) _ _ ?_ rfl
  refine Agree.env _ ?_
  simp only [agw, seval]
mutual
theorem headR_ab : ∀ x : ExT, HeadRk x
 | .mk _ _ _ _ _ ks => headR_step _ (headR_all ks)
theorem headR_all : ∀ (ks : List ExT), ∀ x ∈ ks, HeadRk x
 | [], _, h => absurd h List.not_mem_nil
 | y :: l, x, h => by
  rcases List.mem_cons.1 h with e | e
  ·rw [e]; exact headR_ab y
  ·exact headR_all l x e
end
set_option maxHeartbeats 4000000 in
theorem placeR_ab : ∀ (x : ExT) (B : List (List V)) (T : List (Nat × Nat)), AFn Tryz.prog TabI 156 [exV x] ⟨B, T⟩ (Same (.d (.bool (placeS x))) ⟨B, T⟩)
 | .mk k t i ty ns ks, B, T => by
  obtain ⟨N, hn⟩ : ∃ N, B.length = N := ⟨_, rfl⟩
  simp only [exV, ExT.kind, ExT.text, ExT.int, ExT.type, ExT.names, ExT.kids]
  by_cases h1 : k = 1
  ·have e1 := decide_eq_true h1
   have hp : placeS (.mk k t i ty ns ks) = true := by
    unfold placeS
    split
    ·rw [if_neg (by omega)]; exact e1
    ·exact e1
   rw [hp]
   refine b156.go 60 rfl fun hsm => ?_
   simp only [smw] at hsm
   simp only [W, seval, c156, hn, e1]
   refine ARun.ret Tryz.func156 rfl (Left.box ?_)
   exact ⟨rfl, rfl⟩
  have e1 := decide_eq_false h1
  by_cases h9 : k = 9
  case neg =>
   have e9 := decide_eq_false h9
   have hp : placeS (.mk k t i ty ns ks) = false := by
    unfold placeS
    split
    ·rw [if_neg h9]; exact e1
    ·exact e1
   rw [hp]
   refine b156.go 60 rfl fun hsm => ?_
   simp only [smw] at hsm
   simp only [W, seval, c156, hn, e1, e9]
   refine ARun.ret Tryz.func156 rfl (Left.box ?_)
   exact ⟨rfl, rfl⟩
  have e9 := decide_eq_true h9
  by_cases hl : ks.length = 1
  case neg =>
   have el : decide ((ks.length : Int) = 1) = false := decide_eq_false (by omega)
   have hp : placeS (.mk k t i ty ns ks) = false := by
    unfold placeS
    split
    ·rename_i y
     exact absurd rfl hl
    ·exact e1
   rw [hp]
   refine b156.go 60 rfl fun hsm => ?_
   simp only [smw] at hsm
   simp only [W, seval, c156, hn, e1, e9, el]
   refine ARun.ret Tryz.func156 rfl (Left.box ?_)
   exact ⟨rfl, rfl⟩
  match ks, hl with
  | [y], _ =>
   have ih := placeR_ab y
   have hp : placeS (.mk k t i ty ns [y]) = placeS y := by
    conv => lhs; unfold placeS
    exact if_pos h9
   have hyd := exD_eq y
   unfold exV at ih
   rw [hp]
   refine b156.go 60 rfl fun hsm => ?_
   simp only [smw] at hsm
   simp only [W, seval, c156, hn, e1, e9, hyd]
   refine callS_fn (ih _ _) ?_
   rintro _ _ ⟨rfl, rfl⟩
   refine ARun.go 60 ?_
   simp only [W, seval, c156, hn]
   refine ARun.ret Tryz.func156 rfl (Left.box ?_)
   exact ⟨rfl, rfl⟩
set_option maxHeartbeats 4000000 in
theorem places_ab (l : List ExT) (B : List (List V)) (T : List (Nat × Nat)) : AFn Tryz.prog TabI 148 [.d (.sl (l.map exD))] ⟨B, T⟩ (Same (.d (.bool (l.all placeS && decide (0 < l.length)))) ⟨B, T⟩) := by
 refine b148.go 40 rfl fun hsm => ?_
 simp only [smw] at hsm
 simp only [W, seval, c148]
 refine ARun.loopW (fun i : Nat => (envS 19 [(0, .d (.sl (l.map exD))), (3, .d (.int .i64 (i : Int)))], ⟨B, T⟩)) (fun i => i ≤ l.length ∧ (l.drop i).all placeS = l.all placeS) (fun i => l.length - i) 0 ⟨by omega, rfl⟩ ?_ rfl ?_
 ·skip
  refine Agree.env _ ?_
  simp only [agw, seval]
 rintro i ⟨h1, h2⟩ ih
 dsimp only at h1 h2 ih ⊢
 by_cases hlt : i < l.length
 case neg =>
  have e1 : decide ((i : Int) < (l.length : Int)) = false := decide_eq_false (by omega)
  have e2 : decide ((0 : Int) < (l.length : Int)) = decide (0 < l.length) := by rw [decide_eq_decide]; omega
  rw [List.drop_eq_nil_of_le (by omega)] at h2
  rw [← h2]
  refine ARun.go 60 ?_
  simp only [W, seval, c148, e1, e2]
  refine ARun.ret Tryz.func148 rfl (Left.none ?_)
  exact ⟨rfl, rfl⟩
 have e1 : decide ((i : Int) < (l.length : Int)) = true := decide_eq_true (by omega)
 have hwi := wrap_in ((i : Int) + 1) (by omega)
 have hg : (l.map exD)[i]? = some (exD l[i]) := by simp [hlt]
 have hy := placeR_ab l[i] B T
 rw [drop_get hlt, List.all_cons] at h2
 obtain ⟨y, hyy⟩ : ∃ y, l[i] = y := ⟨_, rfl⟩
 rw [hyy] at hg hy h2
 rw [exD_eq] at hg
 unfold exV at hy
 refine ARun.go 60 ?_
 simp only [W, seval, c148, e1, hg, hlt]
 refine callS_fn hy ?_
 rintro _ _ ⟨rfl, rfl⟩
 cases hb : placeS y
 ·rw [hb] at h2
  rw [← h2]
  refine ARun.go 60 ?_
  simp only [W, seval, c148]
  refine ARun.ret Tryz.func148 rfl (Left.none ?_)
  exact ⟨rfl, rfl⟩
 ·rw [hb] at h2
  refine ARun.go 60 ?_
  simp only [W, seval, c148, hwi]
  refine ih (i + 1) ⟨by omega, h2⟩ (by omega) _ _ ?_ rfl
  refine Agree.env _ ?_
  simp only [agw, seval]
def c136 := by
 have c := KK_of Tryz.f136 (by conv => lhs; cbv)
 dsimp only [KK, KxP, doO, opO, List.map_cons, List.map_nil, List.toList_toArray] at c
 exact c
theorem b136 : FnIs Tryz.prog 136 Tryz.f136 189 := ⟨Tryz.func136, by kernel_rfl⟩
def headOfR : List ExT → Bool | [x] => headR x | _ => false
def shapeB (k : Int) (ns : List (List UInt8)) (ls es : List ExT) (nm lf bd ot cs : Bool) : Bool :=
 if k = 1 then nameOf ns && lf && decide (es.length = 0) && bd && ot && cs
 else if k = 2 then nm && (ls.all placeS && decide (0 < ls.length)) && (decide (es.length = ls.length) || sevenOf es) && bd && ot && cs
 else if k = 3 then nm && lf && headOfR es && cs
 else if k = 4 then nm && lf && headOfR es && ot && cs
 else if k = 5 then nm && lf && headOfR es && bd
 else if k = 6 then nm && lf && decide (0 < es.length) && bd && ot && cs
 else false
def shapeR (s : StT) : Bool := shapeB s.kind s.names s.lefts s.exprs (decide (s.names.length = 0) && zeroS s.type) (decide (s.lefts.length = 0)) (decide (s.body.length = 0)) (decide (s.els.length = 0)) (decide (s.cases.length = 0))
set_option maxHeartbeats 8000000 in
theorem shape_sw (s : StT) (nm lf bd ot cs : Bool) (N : Nat) (B : List (List V)) (T : List (Nat × Nat)) (hn : B.length = N) :
 ARun Tryz.prog TabI (N, T.length) 136 [.code (kF Tryz.f136 14)] (envS 189 [(1, .ptr N 0), (3, .d (.bool nm)), (4, .d (.bool lf)), (5, .d (.bool bd)), (6, .d (.bool ot)), (7, .d (.bool cs)), (8, .d (.bool (decide (s.exprs.length = 1))))]) ⟨B ++ [stB s], T⟩ (Ab.Left ⟨B, T⟩ (Same (.d (.bool (shapeB s.kind s.names s.lefts s.exprs nm lf bd ot cs))) ⟨B, T⟩)) := by
 obtain ⟨k, hk⟩ : ∃ k, s.kind = k := ⟨_, rfl⟩
 have he0 : decide ((s.exprs.length : Int) = 0) = decide (s.exprs.length = 0) := decide_eq_decide.2 (by omega)
 have he6 : decide ((0 : Int) < (s.exprs.length : Int)) = decide (0 < s.exprs.length) := decide_eq_decide.2 (by omega)
 unfold stB
 rw [hk]
 have hE2 : ∀ n : Nat, decide (n + 1 + 1 = 1) = false := fun n => decide_eq_false (by omega)
 have hE3 : ∀ n : Nat, decide ((n : Int) + 1 + 1 = 1) = false := fun n => decide_eq_false (by omega)
 by_cases k1 : k = 1
 ·subst k1
  have hs : shapeB 1 s.names s.lefts s.exprs nm lf bd ot cs = (nameOf s.names && lf && decide (s.exprs.length = 0) && bd && ot && cs) := rfl
  rw [hs]
  generalize decide (s.exprs.length = 1) = on
  generalize decide (s.exprs.length = 0) = no at he0 ⊢
  rcases hN : s.names with _ | ⟨x, _ | ⟨y, l⟩⟩
  ·rw [show nameOf [] = false from rfl]
   refine ARun.go 200 ?_
   simp only [W, seval, c136, hn, he0]
   refine ARun.ret Tryz.func136 rfl (Left.box ?_)
   (try clear ih)
   (try simp only [dnw] at *)
   simp only [fnw, seval, Same] <;> simp [*]
   skip
  ·rw [show nameOf [x] = identS x from rfl]
   refine ARun.go 60 ?_
   simp only [W, seval, c136, hn, he0, List.map_cons, List.map_nil, List.getElem?_cons_zero, ssD]
   refine callS_fn (identR_ab x _ _) ?_
   rintro _ _ ⟨rfl, rfl⟩
   generalize identS x = q
   refine ARun.go 200 ?_
   simp only [W, seval, c136, hn, he0]
   repeat' ((first | refine guardB_of (fun h => ?_) (fun h => ?_) | refine condS_of (fun h => ?_) (fun h => ?_)) <;> simp only [W, seval, c136, h, hn, he0])
   all_goals
    refine ARun.ret Tryz.func136 rfl (Left.box ?_)
    (try clear ih)
    (try simp only [dnw] at *)
    simp only [fnw, seval, Same] <;> simp [*]
    skip
  ·rw [show nameOf (x :: y :: l) = false from rfl]
   refine ARun.go 200 ?_
   simp only [W, seval, c136, hn, he0, hE3, List.length_cons, ssD_length]
   refine ARun.ret Tryz.func136 rfl (Left.box ?_)
   (try clear ih)
   (try simp only [dnw] at *)
   simp only [fnw, seval, Same] <;> simp [*]
   skip
 by_cases k2 : k = 2
 ·subst k2
  have hs : shapeB 2 s.names s.lefts s.exprs nm lf bd ot cs = (nm && (s.lefts.all placeS && decide (0 < s.lefts.length)) && (decide (s.exprs.length = s.lefts.length) || sevenOf s.exprs) && bd && ot && cs) := rfl
  rw [hs]
  have hw := nat_dec s.exprs.length s.lefts.length
  cases nm
  ·refine ARun.go 200 ?_
   simp only [W, seval, c136, hn]
   refine ARun.ret Tryz.func136 rfl (Left.box ?_)
   (try clear ih)
   (try simp only [dnw] at *)
   simp only [fnw, seval, Same] <;> simp [*]
   skip
  refine ARun.go 60 ?_
  simp only [W, seval, c136, hn]
  refine callS_fn (places_ab s.lefts _ _) ?_
  rintro _ _ ⟨rfl, rfl⟩
  generalize (s.lefts.all placeS && decide (0 < s.lefts.length)) = q
  generalize decide (s.exprs.length = s.lefts.length) = w at hw ⊢
  clear he0 he6
  cases w
  all_goals
   rcases hE : s.exprs with _ | ⟨x, _ | ⟨y, l⟩⟩
   ·rw [hE] at hw
    simp only [List.length_nil, List.length_cons, Nat.zero_add, Int.natCast_add, Int.natCast_one, Int.natCast_zero, Int.zero_add] at hw
    rw [show sevenOf [] = false from rfl]
    refine ARun.go 200 ?_
    simp only [W, seval, c136, hn, hw]
    repeat' ((first | refine guardB_of (fun h => ?_) (fun h => ?_) | refine condS_of (fun h => ?_) (fun h => ?_)) <;> simp only [W, seval, c136, h, hn, hw])
    all_goals
     refine ARun.ret Tryz.func136 rfl (Left.box ?_)
     (try clear ih)
     (try simp only [dnw] at *)
     simp only [fnw, seval, Same] <;> simp [*]
     skip
   ·rw [hE] at hw
    simp only [List.length_nil, List.length_cons, Nat.zero_add, Int.natCast_add, Int.natCast_one, Int.natCast_zero, Int.zero_add] at hw
    rw [show sevenOf [x] = decide (x.kind = 7) from rfl]
    refine ARun.go 200 ?_
    simp only [W, seval, c136, hn, hw, exD_eq]
    repeat' ((first | refine guardB_of (fun h => ?_) (fun h => ?_) | refine condS_of (fun h => ?_) (fun h => ?_)) <;> simp only [W, seval, c136, h, hn, hw, exD_eq])
    all_goals
     refine ARun.ret Tryz.func136 rfl (Left.box ?_)
     (try clear ih)
     (try simp only [dnw] at *)
     simp only [fnw, seval, Same] <;> simp [*]
     skip
   ·rw [hE] at hw
    simp only [List.length_nil, List.length_cons, Nat.zero_add, Int.natCast_add, Int.natCast_one, Int.natCast_zero, Int.zero_add] at hw
    rw [show sevenOf (x :: y :: l) = false from rfl]
    refine ARun.go 200 ?_
    simp only [W, seval, c136, hn, hw, hE2]
    repeat' ((first | refine guardB_of (fun h => ?_) (fun h => ?_) | refine condS_of (fun h => ?_) (fun h => ?_)) <;> simp only [W, seval, c136, h, hn, hw, hE2])
    all_goals
     refine ARun.ret Tryz.func136 rfl (Left.box ?_)
     (try clear ih)
     (try simp only [dnw] at *)
     simp only [fnw, seval, Same] <;> simp [*]
     skip
 by_cases k3 : k = 3
 ·subst k3
  have hs : shapeB 3 s.names s.lefts s.exprs nm lf bd ot cs = (nm && lf && headOfR s.exprs && cs) := rfl
  rw [hs]
  clear he0 he6
  rcases hE : s.exprs with _ | ⟨x, _ | ⟨y, l⟩⟩
  ·rw [show headOfR [] = false from rfl]
   refine ARun.go 200 ?_
   simp only [W, seval, c136, hn]
   repeat' ((first | refine guardB_of (fun h => ?_) (fun h => ?_) | refine condS_of (fun h => ?_) (fun h => ?_)) <;> simp only [W, seval, c136, h, hn])
   all_goals
    refine ARun.ret Tryz.func136 rfl (Left.box ?_)
    (try clear ih)
    (try simp only [dnw] at *)
    simp only [fnw, seval, Same] <;> simp [*]
    skip
  ·rw [show headOfR [x] = headR x from rfl]
   have hd := headR_ab x
   unfold HeadRk exV at hd
   cases nm
   ·refine ARun.go 200 ?_
    simp only [W, seval, c136, hn]
    refine ARun.ret Tryz.func136 rfl (Left.box ?_)
    (try clear ih)
    (try simp only [dnw] at *)
    simp only [fnw, seval, Same] <;> simp [*]
    skip
   cases lf
   ·refine ARun.go 200 ?_
    simp only [W, seval, c136, hn]
    refine ARun.ret Tryz.func136 rfl (Left.box ?_)
    (try clear ih)
    (try simp only [dnw] at *)
    simp only [fnw, seval, Same] <;> simp [*]
    skip
   refine ARun.go 60 ?_
   simp only [W, seval, c136, hn, exD_eq]
   refine callS_fn (hd _ _) ?_
   rintro _ _ ⟨rfl, rfl⟩
   generalize headR x = q
   refine ARun.go 200 ?_
   simp only [W, seval, c136, hn]
   repeat' ((first | refine guardB_of (fun h => ?_) (fun h => ?_) | refine condS_of (fun h => ?_) (fun h => ?_)) <;> simp only [W, seval, c136, h, hn])
   all_goals
    refine ARun.ret Tryz.func136 rfl (Left.box ?_)
    (try clear ih)
    (try simp only [dnw] at *)
    simp only [fnw, seval, Same] <;> simp [*]
    skip
  ·rw [show headOfR (x :: y :: l) = false from rfl]
   refine ARun.go 200 ?_
   simp only [W, seval, c136, hn, hE2]
   repeat' ((first | refine guardB_of (fun h => ?_) (fun h => ?_) | refine condS_of (fun h => ?_) (fun h => ?_)) <;> simp only [W, seval, c136, h, hn, hE2])
   all_goals
    refine ARun.ret Tryz.func136 rfl (Left.box ?_)
    (try clear ih)
    (try simp only [dnw] at *)
    simp only [fnw, seval, Same] <;> simp [*]
    skip
 by_cases k4 : k = 4
 ·subst k4
  have hs : shapeB 4 s.names s.lefts s.exprs nm lf bd ot cs = (nm && lf && headOfR s.exprs && ot && cs) := rfl
  rw [hs]
  clear he0 he6
  rcases hE : s.exprs with _ | ⟨x, _ | ⟨y, l⟩⟩
  ·rw [show headOfR [] = false from rfl]
   refine ARun.go 200 ?_
   simp only [W, seval, c136, hn]
   repeat' ((first | refine guardB_of (fun h => ?_) (fun h => ?_) | refine condS_of (fun h => ?_) (fun h => ?_)) <;> simp only [W, seval, c136, h, hn])
   all_goals
    refine ARun.ret Tryz.func136 rfl (Left.box ?_)
    (try clear ih)
    (try simp only [dnw] at *)
    simp only [fnw, seval, Same] <;> simp [*]
    skip
  ·rw [show headOfR [x] = headR x from rfl]
   have hd := headR_ab x
   unfold HeadRk exV at hd
   cases nm
   ·refine ARun.go 200 ?_
    simp only [W, seval, c136, hn]
    refine ARun.ret Tryz.func136 rfl (Left.box ?_)
    (try clear ih)
    (try simp only [dnw] at *)
    simp only [fnw, seval, Same] <;> simp [*]
    skip
   cases lf
   ·refine ARun.go 200 ?_
    simp only [W, seval, c136, hn]
    refine ARun.ret Tryz.func136 rfl (Left.box ?_)
    (try clear ih)
    (try simp only [dnw] at *)
    simp only [fnw, seval, Same] <;> simp [*]
    skip
   refine ARun.go 60 ?_
   simp only [W, seval, c136, hn, exD_eq]
   refine callS_fn (hd _ _) ?_
   rintro _ _ ⟨rfl, rfl⟩
   generalize headR x = q
   refine ARun.go 200 ?_
   simp only [W, seval, c136, hn]
   repeat' ((first | refine guardB_of (fun h => ?_) (fun h => ?_) | refine condS_of (fun h => ?_) (fun h => ?_)) <;> simp only [W, seval, c136, h, hn])
   all_goals
    refine ARun.ret Tryz.func136 rfl (Left.box ?_)
    (try clear ih)
    (try simp only [dnw] at *)
    simp only [fnw, seval, Same] <;> simp [*]
    skip
  ·rw [show headOfR (x :: y :: l) = false from rfl]
   refine ARun.go 200 ?_
   simp only [W, seval, c136, hn, hE2]
   repeat' ((first | refine guardB_of (fun h => ?_) (fun h => ?_) | refine condS_of (fun h => ?_) (fun h => ?_)) <;> simp only [W, seval, c136, h, hn, hE2])
   all_goals
    refine ARun.ret Tryz.func136 rfl (Left.box ?_)
    (try clear ih)
    (try simp only [dnw] at *)
    simp only [fnw, seval, Same] <;> simp [*]
    skip
 by_cases k5 : k = 5
 ·subst k5
  have hs : shapeB 5 s.names s.lefts s.exprs nm lf bd ot cs = (nm && lf && headOfR s.exprs && bd) := rfl
  rw [hs]
  clear he0 he6
  rcases hE : s.exprs with _ | ⟨x, _ | ⟨y, l⟩⟩
  ·rw [show headOfR [] = false from rfl]
   refine ARun.go 200 ?_
   simp only [W, seval, c136, hn]
   repeat' ((first | refine guardB_of (fun h => ?_) (fun h => ?_) | refine condS_of (fun h => ?_) (fun h => ?_)) <;> simp only [W, seval, c136, h, hn])
   all_goals
    refine ARun.ret Tryz.func136 rfl (Left.box ?_)
    (try clear ih)
    (try simp only [dnw] at *)
    simp only [fnw, seval, Same] <;> simp [*]
    skip
  ·rw [show headOfR [x] = headR x from rfl]
   have hd := headR_ab x
   unfold HeadRk exV at hd
   cases nm
   ·refine ARun.go 200 ?_
    simp only [W, seval, c136, hn]
    refine ARun.ret Tryz.func136 rfl (Left.box ?_)
    (try clear ih)
    (try simp only [dnw] at *)
    simp only [fnw, seval, Same] <;> simp [*]
    skip
   cases lf
   ·refine ARun.go 200 ?_
    simp only [W, seval, c136, hn]
    refine ARun.ret Tryz.func136 rfl (Left.box ?_)
    (try clear ih)
    (try simp only [dnw] at *)
    simp only [fnw, seval, Same] <;> simp [*]
    skip
   refine ARun.go 60 ?_
   simp only [W, seval, c136, hn, exD_eq]
   refine callS_fn (hd _ _) ?_
   rintro _ _ ⟨rfl, rfl⟩
   generalize headR x = q
   refine ARun.go 200 ?_
   simp only [W, seval, c136, hn]
   repeat' ((first | refine guardB_of (fun h => ?_) (fun h => ?_) | refine condS_of (fun h => ?_) (fun h => ?_)) <;> simp only [W, seval, c136, h, hn])
   all_goals
    refine ARun.ret Tryz.func136 rfl (Left.box ?_)
    (try clear ih)
    (try simp only [dnw] at *)
    simp only [fnw, seval, Same] <;> simp [*]
    skip
  ·rw [show headOfR (x :: y :: l) = false from rfl]
   refine ARun.go 200 ?_
   simp only [W, seval, c136, hn, hE2]
   repeat' ((first | refine guardB_of (fun h => ?_) (fun h => ?_) | refine condS_of (fun h => ?_) (fun h => ?_)) <;> simp only [W, seval, c136, h, hn, hE2])
   all_goals
    refine ARun.ret Tryz.func136 rfl (Left.box ?_)
    (try clear ih)
    (try simp only [dnw] at *)
    simp only [fnw, seval, Same] <;> simp [*]
    skip
 by_cases k6 : k = 6
 ·subst k6
  have hs : shapeB 6 s.names s.lefts s.exprs nm lf bd ot cs = (nm && lf && decide (0 < s.exprs.length) && bd && ot && cs) := rfl
  rw [hs]
  generalize decide (s.exprs.length = 1) = on
  generalize decide (0 < s.exprs.length) = w at he6 ⊢
  refine ARun.go 200 ?_
  simp only [W, seval, c136, hn, he6]
  repeat' ((first | refine guardB_of (fun h => ?_) (fun h => ?_) | refine condS_of (fun h => ?_) (fun h => ?_)) <;> simp only [W, seval, c136, h, hn, he6])
  all_goals
   refine ARun.ret Tryz.func136 rfl (Left.box ?_)
   (try clear ih)
   (try simp only [dnw] at *)
   simp only [fnw, seval, Same] <;> simp [*]
   skip
 have hs : shapeB k s.names s.lefts s.exprs nm lf bd ot cs = false := by
  unfold shapeB
  rw [if_neg k1, if_neg k2, if_neg k3, if_neg k4, if_neg k5, if_neg k6]
 rw [hs]
 have e1 := decide_eq_false k1
 have e2 := decide_eq_false k2
 have e3 := decide_eq_false k3
 have e4 := decide_eq_false k4
 have e5 := decide_eq_false k5
 have e6 := decide_eq_false k6
 refine ARun.go 200 ?_
 simp only [W, seval, c136, hn, e1, e2, e3, e4, e5, e6]
 refine ARun.ret Tryz.func136 rfl (Left.box ?_)
 (try clear ih)
 (try simp only [dnw] at *)
 simp only [fnw, seval, Same] <;> simp [*]
 skip
set_option maxHeartbeats 4000000 in
theorem shape_ab (s : StT) (B : List (List V)) (T : List (Nat × Nat)) : AFn Tryz.prog TabI 136 [stV s] ⟨B, T⟩ (Same (.d (.bool (shapeR s))) ⟨B, T⟩) := by
 obtain ⟨N, hn⟩ : ∃ N, B.length = N := ⟨_, rfl⟩
 have hnz := none_ab s.type (B ++ [stB s]) T
 have z1 := nat_dec s.names.length 0
 have z2 := nat_dec s.lefts.length 0
 have z3 := nat_dec s.body.length 0
 have z4 := nat_dec s.els.length 0
 have z5 := nat_dec s.cases.length 0
 have z6 := nat_dec s.exprs.length 1
 simp only [Int.natCast_zero, Int.natCast_one, Int.ofNat_zero, Int.cast_ofNat_Int] at z1 z2 z3 z4 z5 z6
 unfold shapeR
 unfold stV tyV at *
 refine b136.go 6 rfl fun _ => ?_
 simp only [W, seval, c136, hn]
 change ARun _ _ _ _ _ _ ⟨B ++ [stB s], T⟩ _
 refine ARun.after [_] _ (fun _ : Unit => (envS 189 [(1, .ptr N 0), (3, .d (.bool (decide (s.names.length = 0) && zeroS s.type)))], ⟨B ++ [stB s], T⟩)) (fun _ => True) ?_ ?_
 ·rintro ⟨⟩ -
  have hsw := shape_sw s (decide (s.names.length = 0) && zeroS s.type) (decide (s.lefts.length = 0)) (decide (s.body.length = 0)) (decide (s.els.length = 0)) (decide (s.cases.length = 0)) N B T hn
  generalize (decide (s.names.length = 0) && zeroS s.type) = nm at hsw ⊢
  refine ARun.go 40 ?_
  simp only [W, seval, c136, hn, stB, z2, z3, z4, z5, z6]
  unfold stB at hsw
  refine ARun.weak ?_ hsw
  refine Agree.env _ ?_
  simp only [agw, seval]
 intro K' hend
 cases en : decide (s.names.length = 0)
 ·rw [en] at z1 hend
  refine ARun.goK 60 ?_
  simp only [W, seval, c136, hn, stB, z1]
  unfold stB at hend
  refine hend () trivial _ _ ?_ rfl
  refine Agree.env _ ?_
  simp only [agw, seval]
  try rfl
 ·rw [en] at z1 hend
  refine ARun.goK 60 ?_
  simp only [W, seval, c136, hn, stB, z1]
  refine callS_fn hnz ?_
  rintro _ _ ⟨rfl, rfl⟩
  refine ARun.goK 60 ?_
  simp only [W, seval, c136, hn, stB, z1]
  unfold stB at hend
  refine hend () trivial _ _ ?_ rfl
  refine Agree.env _ ?_
  simp only [agw, seval]
  try rfl
def posSt : Nat → StT → Prop
 | 0, _ => True
 | n + 1, s => (∀ x ∈ s.lefts, posE x) ∧ (∀ x ∈ s.exprs, posE x) ∧ (∀ x ∈ s.body, posSt n x) ∧ (∀ x ∈ s.els, posSt n x) ∧ ∀ c ∈ s.cases, ∀ x ∈ c.body, posSt n x
def zM (b : Bool) : Int := if b = true then 0 else -1
def casR (R : StT → Int → Int) (d : Int) : List Int → List CaT → Int
 | _, [] => 0
 | seen, c :: l => plusM (if 60 < d + 1 then -1 else 1) (plusM (zM (!seen.contains c.int)) (plusM (sumM (fun s => R s (d + 2)) c.body) (casR R d (seen ++ [c.int]) l)))
def restR (R : StT → Int → Int) (s : StT) (d : Int) : Int :=
 plusM (if s.kind = 1 then tyR s.type (d + 1) else 0) (plusM (casR R d [] s.cases) (plusM (xs40R s.lefts (d + 1)) (plusM (xs40R s.exprs (d + 1)) (plusM (sumM (fun x => R x (d + 1)) s.body) (sumM (fun x => R x (d + 1)) s.els)))))
def stR : Nat → StT → Int → Int
 | 0, _, _ => -1
 | n + 1, s, d => plusM (if 60 < d then -1 else 1) (plusM (zM (shapeR s && decide (s.cases.length ≤ 40))) (restR (stR n) s d))
theorem cas_agr {S : StT → Int → Int → Bool × Int} {R : StT → Int → Int} (d : Int) : ∀ (l : List CaT) (seen : List Int), (∀ c ∈ l, ∀ s ∈ c.body, ∀ d, Agr (S s d) (R s d)) → Agr (casS S d seen l) (casR R d seen l)
 | [], seen, _ => by
  unfold casR
  exact (Agr.allow true).congr fun p _ _ => by unfold casS; exact ⟨rfl, fun _ => rfl⟩
 | c :: l, seen, h => by
  have h1 := (Agr.part (d + 1)).and ((Agr.allow (!seen.contains c.int)).and ((Agr.row (f := fun s => S s (d + 2)) (c := fun s => R s (d + 2)) c.body fun s hs => h c List.mem_cons_self s hs (d + 2)).and (cas_agr d l (seen ++ [c.int]) fun c' hc => h c' (List.mem_cons_of_mem _ hc))))
  unfold casR zM
  exact h1
theorem headOf_eq (es : List ExT) (d : Int) (h : 0 ≤ xs40R es d) : headOfR es = headOf es := by
 have h2 : 0 ≤ exsR es d := by unfold xs40R at h; split at h <;> omega
 rcases es with _ | ⟨x, _ | ⟨y, l⟩⟩
 ·rfl
 ·unfold exsR at h2
  exact headR_eq x d (plusM_nn h2).1
 ·rfl
theorem shape_eq (s : StT) (d : Int) (h : 0 ≤ xs40R s.exprs d) : shapeR s = sizedS s := by
 have hh := headOf_eq s.exprs d h
 have e (n : Nat) : (!decide ((0 : Int) < (n : Int))) = decide (n = 0) := by
  rw [Bool.eq_iff_iff, Bool.not_eq_true', decide_eq_false_iff_not, decide_eq_true_iff]; omega
 rw [sizedS_eq]
 unfold shapeR shapeB sizedB
 rw [hh]
 simp only [e, Bool.not_not]
 repeat' split
 all_goals first | rfl | ac_rfl
theorem zM_swap {a b : Bool} {c X : Int} (h : 0 ≤ X → a = b) : plusM c (plusM (zM a) X) = plusM c (plusM (zM b) X) := by
 by_cases hx : 0 ≤ X
 ·rw [h hx]
 ·have : ∀ y, plusM y X = -1 := fun y => by unfold plusM; rw [if_pos (.inr (.inl (by omega)))]
  rw [this, this]
theorem st_agr : ∀ (n : Nat) (s : StT) (d : Int), posSt n s → Agr (stS n s d) (stR n s d)
 | 0, s, d, _ => Agr.bad fun _ _ _ => rfl
 | n + 1, s, d, hp => by
  unfold posSt at hp
  obtain ⟨p1, p2, p3, p4, p5⟩ := hp
  have ih := st_agr n
  have hty : Agr (if s.kind = 1 then fun p => tyS identS s.type (d + 1) p else allowS true) (if s.kind = 1 then tyR s.type (d + 1) else 0) := by
   by_cases hk : s.kind = 1
   ·rw [if_pos hk, if_pos hk]; exact tyR_agr s.type (d + 1)
   ·rw [if_neg hk, if_neg hk]; exact Agr.allow true
  have h := (Agr.part d).and ((Agr.allow (sizedS s && decide (s.cases.length ≤ 40))).and (hty.and ((cas_agr (S := stS n) (R := stR n) d s.cases [] fun c hc x hx d => ih x d (p5 c hc x hx)).and ((xs40_agr s.lefts (d + 1) p1).and ((xs40_agr s.exprs (d + 1) p2).and ((Agr.row (f := fun x => stS n x (d + 1)) (c := fun x => stR n x (d + 1)) s.body fun x hx => ih x (d + 1) (p3 x hx)).and (Agr.row (f := fun x => stS n x (d + 1)) (c := fun x => stR n x (d + 1)) s.els fun x hx => ih x (d + 1) (p4 x hx))))))))
  have e : stR (n + 1) s d = plusM (if 60 < d then -1 else 1) (plusM (zM (sizedS s && decide (s.cases.length ≤ 40))) (restR (stR n) s d)) := by
   refine zM_swap fun hx => ?_
   unfold restR at hx
   rw [shape_eq s (d + 1) (plusM_nn (plusM_nn (plusM_nn (plusM_nn hx).2).2).2).1]
  rw [e]
  exact h
def paR (most : Nat) (l : List PaT) : Int := plusM (sumM (fun x : PaT => plusM 1 (tyR x.type 0)) l) (zM (decide (l.length ≤ most) && diffS l.length (l.map PaT.name)))
def suR (s : SuT) : Int := plusM 1 (plusM (zM (identS s.name)) (paR 60 s.fields))
def fncR (n : Nat) (f : FuT) : Int := plusM 1 (plusM (zM (identS f.name)) (plusM (paR 20 f.params) (plusM (zM (decide (1 ≤ f.results.length) && decide (f.results.length ≤ 20))) (plusM (sumM (fun t => tyR t 0) f.results) (sumM (fun s => stR n s 0) f.body)))))
def prR (n : Nat) (p : PrT) : Int := plusM (sumM suR p.structs) (sumM (fncR n) p.funcs)
theorem pa_agr (most : Nat) (l : List PaT) : Agr (paS most l) (paR most l) :=
 (Agr.row (f := fun x : PaT => andS (partS 0) (fun p => tyS identS x.type 0 p)) (c := fun x : PaT => plusM 1 (tyR x.type 0)) l fun x _ => (Agr.part 0).and (tyR_agr x.type 0)).and (Agr.allow _)
theorem su_agr (s : SuT) : Agr (suS s) (suR s) := (Agr.part 0).and ((Agr.allow (identS s.name)).and (pa_agr 60 s.fields))
theorem fu_agr (n : Nat) (f : FuT) (h : ∀ x ∈ f.body, posSt n x) : Agr (fuS n f) (fncR n f) :=
 (Agr.part 0).and ((Agr.allow (identS f.name)).and ((pa_agr 20 f.params).and ((Agr.allow _).and ((Agr.row (f := fun t p => tyS identS t 0 p) (c := fun t => tyR t 0) f.results fun t _ => tyR_agr t 0).and (Agr.row (f := fun s => stS n s 0) (c := fun s => stR n s 0) f.body fun s hs => st_agr n s 0 (h s hs))))))
theorem pr_agr (n : Nat) (p : PrT) (h : ∀ f ∈ p.funcs, ∀ x ∈ f.body, posSt n x) : (prS n p 0).1 = decide (0 ≤ prR n p) := by
 have ha : Agr (prS n p) (prR n p) := (Agr.row p.structs fun s _ => su_agr s).and (Agr.row p.funcs fun f hf => fu_agr n f (h f hf))
 have h1 := ha.ok 0 (Int.le_refl _) (by omega)
 have h2 := ha.hi
 rw [Bool.eq_iff_iff, h1, decide_eq_true_iff]
 omega
end Go.Proofs.YtnnnhlkmdnacaaaGreatDoor
