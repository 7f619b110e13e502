/- Proved: GoprintOne, for any text: no condition. Part 5 of 6 of the proof. -/
import Derived.Test.YtfaoamebphckbaaGreatDoorGoprintOned
namespace Go.Proofs.YtfaoamebphckbaaGreatDoor
open Go.RowKit Go.Av Go.Ab
set_option linter.unusedSimpArgs false
set_option maxRecDepth 100000
set_option linter.defProp false
def c184 := by
 have c := KK_of Tryz.f184 (by conv => lhs; cbv)
 dsimp only [KK, KxP, doO, opO, List.map_cons, List.map_nil, List.toList_toArray] at c
 exact c
theorem b184 : FnIs Tryz.prog 184 Tryz.f184 74 := ⟨Tryz.func184, by kernel_rfl⟩
def sgD (l : List Int) : List (List D) := l.map fun k => [.int .i64 k]
theorem sgD_len (l : List Int) : (sgD l).length = l.length := by simp [sgD]
theorem sgD_app (l : List Int) (k : Int) : sgD l ++ [[.int .i64 k]] = sgD (l ++ [k]) := by simp [sgD]
theorem sg1 (k : Int) : rowsSz 1 [[D.int .i64 k]] = true := rfl
theorem sgD_get (l : List Int) (i : Nat) : (sgD l)[i]? = (l[i]?).map fun k => [.int .i64 k] := by simp [sgD]
theorem fits_pf {B J : List (List V)} {T K : List (Nat × Nat)} {c : Nat} {x y : List V} (hf : Fits ⟨B.set c x, T⟩) (hy : ∀ n m, y.all (fit n m) = true) (hJ : ∀ vs ∈ J, ∀ n m, vs.all (fit n m) = true) : Fits ⟨B.set c y ++ J, T ++ K⟩ := by
 have h1 := Fits.set hf (i := c) (hy (B.set c x).length T.length)
 rw [List.set_set] at h1
 exact h1.more fun vs hvs => hJ vs hvs _ _
theorem sign_app : ∀ (l : List Int) (k : Int) (x : ExT), signT (l ++ (some k).toList) x = signT l (.mk k [] 0 noT [] [x])
 | [], k, x => rfl
 | j :: l, k, x => by
  show ExT.mk j [] 0 noT [] [signT (l ++ (some k).toList) x] = _
  rw [sign_app l k x]
  rfl
def operQ (P E : EP) (m : Nat) : EP := fun s => match sgnL m s with
 | (l, s1) => match P s1 with
  | (x, s2) => match pstL E m x s2 with
   | (y, s3) => (signT l y, s3)
set_option maxHeartbeats 8000000 in
theorem oper_pp (bs : List UInt8) (h0 : True) (hl : bs.length ≤ 400000) {P E : EP} {n : Nat} (hP : ∀ s, mu s ≤ n → PP bs 186 [] s (exV (P s).1) (P s).2) (hdP : DnE P) (hE : EOk bs E n) (hdE : DnE E) (m : Nat) (hnm : n < m) (s : Ps) (hs : mu s ≤ n) :
 PP bs 184 [] s (exV (operQ P E m s).1) (operQ P E m s).2 := by
 intro c B T i hc hok
 obtain ⟨N, hn⟩ : ∃ N, B.length = N := ⟨_, rfl⟩
 obtain ⟨t, ht⟩ : ∃ t, T.length = t := ⟨_, rfl⟩
 have hi : c < N := by omega
 have hi2 : c < N + 2 := by omega
 have hN1 : N < N + 2 := by omega
 have hN2 : N + 1 < N + 2 := by omega
 have ht1 : t < t + 1 := by omega
 have hmu := hok.mu_le
 obtain ⟨⟨l0, s0⟩, hL⟩ : ∃ r, sgnL m s = r := ⟨_, rfl⟩
 obtain ⟨⟨x0, s2⟩, hX⟩ : ∃ r, P s0 = r := ⟨_, rfl⟩
 obtain ⟨⟨y0, s3⟩, hY⟩ : ∃ r, pstL E m x0 s2 = r := ⟨_, rfl⟩
 have hres : operQ P E m s = (signT l0 y0, s3) := by unfold operQ; rw [hL]; dsimp only; rw [hX]; dsimp only; rw [hY]
 rw [hres]
 dsimp only
 have hd1 := (dn_sgn m hL).le
 have hpx := hP s0 (by omega)
 have hd2 := (hdP.at hX).le
 rw [hX] at hpx
 dsimp only at hpx
 refine b184.go 0 rfl fun hsm => ?_
 simp only [smw] at hsm
 simp only [W, seval, c184, hn, hi]
 refine ARun.fits fun hf => ?_
 refine ARun.go 14 ?_
 simp only [W, seval, c184, hn, hi]
 refine ARun.token 3 [] (by rfl) 1 (by omega) rfl ?_
 simp only [envS_put, ht]
 refine ARun.after [_, _] _ (fun _ : Unit => (envS 74 [(0, .ptr c 0), (2, .ptr N 0), (3, .sl (sgD l0) (.own t))], ⟨B.set c (bxP bs s0) ++ [[.d (.int .i64 0), .d (.str []), .d (.int .u64 0), .d (.int .i64 0), .d (.str []), .sl [] .full, .sl [] .full, .sl [] .full]], T ++ [(l0.length, 1)]⟩)) (fun _ => OkP bs s0 ∧ l0.length ≤ mu s) ?_ ?_
 case refine_2 =>
  intro K' hend
  refine ARun.loopW (fun a : List Int × Ps => (envS 74 [(0, .ptr c 0), (2, .ptr N 0), (3, .sl (sgD a.1) (.own t))], ⟨B.set c (bxP bs a.2) ++ [[.d (.int .i64 0), .d (.str []), .d (.int .u64 0), .d (.int .i64 0), .d (.str []), .sl [] .full, .sl [] .full, .sl [] .full]], T ++ [(a.1.length, 1)]⟩)) (fun a => OkP bs a.2 ∧ a.1.length + mu a.2 ≤ mu s ∧ ∃ m', mu a.2 < m' ∧ (a.1 ++ (sgnL m' a.2).1, (sgnL m' a.2).2) = (l0, s0)) (fun a => mu a.2) ([], s) ⟨hok, by simp, m, by dsimp only; omega, by dsimp only; rw [hL, List.nil_append]⟩ ?_ rfl ?_
  ·skip
   refine Agree.env _ ?_
   simp only [agw, seval, hn]
   trivial
  rintro ⟨l, s1⟩ ⟨hok1, hle, m', hm, hr⟩ ih
  dsimp only at hok1 hle hm hr ih ⊢
  cases m' with
  | zero => omega
  | succ m' =>
  rw [sgnL] at hr
  have hstep : ∀ k : Int, mu (nextP s1) < mu s1 → (l ++ (k :: (sgnL m' (nextP s1)).1), (sgnL m' (nextP s1)).2) = (l0, s0) → OkP bs (nextP s1) → OkP bs (nextP s1) ∧ (l ++ [k]).length + mu (nextP s1) ≤ mu s ∧ ∃ m', mu (nextP s1) < m' ∧ ((l ++ [k]) ++ (sgnL m' (nextP s1)).1, (sgnL m' (nextP s1)).2) = (l0, s0) := fun k h1 h2 h3 => ⟨h3, by simp; omega, m', by omega, by rw [← h2]; simp⟩
  have hlen : ∀ k : Int, (l ++ [k]).length = l.length + 1 := fun k => by simp
  have hcap : (l.length + 1) * 8 ≤ 140737488355328 := by omega
  refine ARun.goK (k := [_, _, _]) 20 ?_
  simp only [W, seval, c184, hn, hi]
  refine PP.call (is_pp bs s1 [33]) hc hok1 fun _ => ?_
  cases h1 : isP s1 [33]
  case' true =>
   have hlv := is_live h1
   have hnx := next_lt s1 hlv.1 (by omega)
   have ht45 : decide (s1.w.text = [45]) = false := by rw [hlv.2.2]; rfl
   rw [if_pos h1] at hr
   refine ARun.goK 60 ?_
   simp only [W, seval, c184, hn, hi, bxP, ht45, ht, sgD_len, sgD_app, sg1, hcap, mapD_nil, mapD_cons, Nat.reduceMul]
   refine PP.call (next_pp bs h0 hl s1 fun _ => by omega) hc hok1 fun hok3 => ?_
   refine ARun.goK 20 ?_
   simp only [W, seval, c184, hn, hi]
   refine ih (l ++ [4], nextP s1) (hstep 4 hnx hr hok3) (by dsimp only; omega) _ _ ?_ (by dsimp only; rw [hlen])
   refine Agree.env _ ?_
   simp only [agw, seval, hn]
  case' false =>
   rw [if_neg (by rw [h1]; simp)] at hr
   refine ARun.goK 60 ?_
   simp only [W, seval, c184, hn, hi]
   refine PP.call (is_pp bs s1 [45]) hc hok1 fun _ => ?_
   cases h2 : isP s1 [45]
   case' true =>
    have hlv := is_live h2
    have hnx := next_lt s1 hlv.1 (by omega)
    have ht45 : decide (s1.w.text = [45]) = true := by rw [hlv.2.2]; rfl
    rw [if_pos h2] at hr
    refine ARun.goK 60 ?_
    simp only [W, seval, c184, hn, hi, bxP, ht45, ht, sgD_len, sgD_app, sg1, hcap, mapD_nil, mapD_cons, Nat.reduceMul]
    refine PP.call (next_pp bs h0 hl s1 fun _ => by omega) hc hok1 fun hok3 => ?_
    refine ARun.goK 20 ?_
    simp only [W, seval, c184, hn, hi]
    refine ih (l ++ [5], nextP s1) (hstep 5 hnx hr hok3) (by dsimp only; omega) _ _ ?_ (by dsimp only; rw [hlen])
    refine Agree.env _ ?_
    simp only [agw, seval, hn]
   case' false =>
    rw [if_neg (by rw [h2]; simp)] at hr
    dsimp only at hr
    rw [List.append_nil] at hr
    obtain ⟨rfl, rfl⟩ := Prod.mk.inj hr
    refine ARun.goK 60 ?_
    simp only [W, seval, c184, hn, hi]
    refine hend () ⟨hok1, by omega⟩ _ _ ?_ rfl
    refine Agree.env _ ?_
    simp only [agw, seval, hn]
 rintro ⟨⟩ ⟨hok0, hl0⟩
 refine ARun.go 6 ?_
 simp only [W, seval, c184, hn, hi]
 refine PP.call hpx hc hok0 fun hok2 => ?_
 unfold exV
 refine ARun.go 9 ?_
 simp only [W, seval, c184, hn, hi]
 refine ARun.after [_, _] _ (fun _ : Unit => (envS 74 [(0, .ptr c 0), (2, .ptr N 0), (3, .sl (sgD l0) (.own t)), (5, .ptr (N + 1) 0)], ⟨B.set c (bxP bs s3) ++ [[.d (.int .i64 0), .d (.str []), .d (.int .u64 0), .d (.int .i64 0), .d (.str []), .sl [] .full, .sl [] .full, .sl [] .full], exL y0], T ++ [(l0.length, 1)]⟩)) (fun _ => OkP bs s3) ?_ ?_
 case refine_2 =>
  intro K' hend
  refine ARun.loopA (fun a : ExT × Ps => (envS 74 [(0, .ptr c 0), (2, .ptr N 0), (3, .sl (sgD l0) (.own t)), (5, .ptr (N + 1) 0)], ⟨B.set c (bxP bs a.2) ++ [[.d (.int .i64 0), .d (.str []), .d (.int .u64 0), .d (.int .i64 0), .d (.str []), .sl [] .full, .sl [] .full, .sl [] .full], exL a.1], T ++ [(l0.length, 1)]⟩)) (fun a => OkP bs a.2 ∧ mu a.2 ≤ n ∧ ∃ m', mu a.2 < m' ∧ pstL E m' a.1 a.2 = (y0, s3)) (fun a => mu a.2) (x0, s2) ⟨hok2, by dsimp only; omega, m, by dsimp only; omega, hY⟩ ?_ rfl ?_
  ·skip
   refine Agree.env _ ?_
   simp only [agw, seval, hn]
  rintro ⟨x, s1⟩ ⟨hok1, hn2, m', hm, hr⟩ ih0
  dsimp only at hok1 hn2 hm hr ih0 ⊢
  have ih : ∀ b : ExT × Ps, OkP bs b.2 ∧ mu b.2 ≤ n ∧ (∃ m', mu b.2 < m' ∧ pstL E m' b.1 b.2 = (y0, s3)) → mu b.2 < mu s1 → ∀ (K : List (Nat × Nat)) (u : List (Nat × V)), AgreeF (N + 2) (t + 1) u [(0, .ptr c 0), (2, .ptr N 0), (3, .sl (sgD l0) (.own t)), (5, .ptr (N + 1) 0)] → ARun Tryz.prog TabI (N, t) 184 ([.inLoop (kF Tryz.f184 30), .inBlock 2] ++ K') (envS 74 u) ⟨B.set c (bxP bs b.2) ++ [[.d (.int .i64 0), .d (.str []), .d (.int .u64 0), .d (.int .i64 0), .d (.str []), .sl [] .full, .sl [] .full, .sl [] .full], exL b.1], T ++ ([(l0.length, 1)] ++ K)⟩ _ := fun b h1 h2 K u hu => by
   have := ih0 b h1 h2 (envS 74 u) _ [] _ K rfl ⟨by simp; omega, by simp; omega⟩ (fits_pf hf (fun _ _ => rfl) (by
    intro vs hvs
    simp only [List.mem_cons, List.not_mem_nil, or_false] at hvs
    rcases hvs with rfl | rfl <;> exact fun _ _ => rfl)) (by
    refine AgreeF.env _ ?_
    simpa [hn, ht] using hu)
   rw [List.append_nil, List.append_assoc] at this
   exact this
  clear ih0
  cases m' with
  | zero => omega
  | succ m' =>
  rw [pstL] at hr
  by_cases he : s1.e = 0
  case neg =>
   rw [if_pos he] at hr
   obtain ⟨rfl, rfl⟩ := Prod.mk.inj hr
   have e1 := decide_eq_false he
   refine ARun.goK (k := [_, _, _]) 60 ?_
   simp only [W, seval, c184, hn, hi, bxP, e1]
   refine hend () hok1 _ _ ?_ rfl
   refine Agree.env _ ?_
   simp only [agw, seval, hn]
  case pos =>
   rw [if_neg (by simpa using he)] at hr
   have e1 := decide_eq_true he
   refine ARun.goK (k := [_, _, _]) 60 ?_
   simp only [W, seval, c184, hn, hi, bxP, e1]
   obtain ⟨⟨b, s4⟩, hg_s4⟩ : ∃ r, gotP s1 [46] = r := ⟨_, rfl⟩
   have hp_s4 := got_pp bs h0 hl s1 [46]
   rw [hg_s4] at hp_s4
   dsimp only at hp_s4
   first
    | refine PP.call0 hp_s4 hc hok1 fun hok4 => ?_
    | refine PP.call hp_s4 hc hok1 fun hok4 => ?_
   rw [hg_s4] at hr
   cases b
   case' true =>
    have hlt := got_lt hg_s4
    dsimp only at hr
    obtain ⟨⟨tx, s5⟩, hnm5⟩ : ∃ r, nameP s4 = r := ⟨_, rfl⟩
    have hpn := name_pp bs h0 hl s4
    have hdn := (dn_name hnm5).le
    rw [hnm5] at hpn hr
    dsimp only at hpn hr
    refine ARun.goK 5 ?_
    simp only [W, seval, c184, hn, hi]
    refine PP.wit hpn hc hok4 (ha0 (by rfl)) fun hok5 => ?_
    refine ARun.drawE 5 [1, 5] (fun S => S.boxes[N + 1]? = some (exL x)) (by kernel_rfl) (by kernel_rfl) (by kernel_rfl) (by kernel_rfl) (by kernel_rfl) ?_
    simp only [W, seval, c184]
    refine lexC_q (v := ?_) (by rfl) (by kernel_rfl) (fun S hS => ?_) ?_
    rotate_left
    ·simp only [W, seval, c184]
     exact rfl
    simp only [W, seval, c184]
    refine PP.lexc (hpn) hc hok4 hok5 ?_ (by rfl) (by kernel_rfl) ?_ ?_
    ·first | trivial | simp [bx_loc, bx_loc0, hn]
    ·simp only [W, seval, c184]
     exact ⟨_, _, rfl, rfl, by rfl, by simp only [W, seval, c184]⟩
    simp only [W, seval, c184]
    refine lexC_q (v := ?_) (by rfl) (by kernel_rfl) (fun S hS => ?_) ?_
    rotate_left
    ·try dsimp only at hS
     simp only [W, seval, c184, hS, exL]
     exact rfl
    simp only [W, seval, c184]
    refine lexC_q (v := ?_) (by rfl) (by kernel_rfl) (fun S hS => ?_) ?_
    rotate_left
    ·simp only [W, seval, c184, mapD_nil, mapD_cons, Nat.reduceMul, rows8]
     exact rfl
    simp only [W, seval, c184]
    refine lexC_q (v := ?_) (by rfl) (by kernel_rfl) (fun S hS => ?_) ?_
    rotate_left
    ·simp only [W, seval, c184]
     exact rfl
    simp only [W, seval, c184]
    refine lexC_end (by simp [bx_loc, hn]) ?_
    refine lexC_w (v := ?_) (S' := ?_) ?_ (by rfl) (by kernel_rfl) ?_ ?_
    rotate_left 2
    ·first | trivial | simp [bx_loc, bx_loc0, hn, exL]
    ·simp only [W, seval, c184, hn, exL]
     exact rfl
    simp only [W, seval, c184]
    refine lexC_end trivial ?_
    refine ARun.plainJ 1 _ (exL (.mk 9 tx 0 noT [] [x])) (by rfl) (.same (.same (.same (.same (.same (.sl (.sl (.sl .nil)))))))) ?_
    refine ARun.goK (k := [_, _, _, _, _]) 10 ?_
    simp only [W, seval, c184]
    refine ih (.mk 9 tx 0 noT [] [x], s5) ⟨hok5, by dsimp only; omega, m', by dsimp only; omega, hr⟩ (by dsimp only; omega) [] _ ?_
    simp only [agf, seval, hi2, hN1, hN2, ht1]
   case' false =>
    have e4 := got_no hg_s4
    subst e4
    dsimp only at hr
    refine ARun.goK 20 ?_
    simp only [W, seval, c184, hn, hi]
    obtain ⟨⟨b, s5⟩, hg_s5⟩ : ∃ r, gotP s4 [91] = r := ⟨_, rfl⟩
    have hp_s5 := got_pp bs h0 hl s4 [91]
    rw [hg_s5] at hp_s5
    dsimp only at hp_s5
    first
     | refine PP.call0 hp_s5 hc hok4 fun hok5 => ?_
     | refine PP.call hp_s5 hc hok4 fun hok5 => ?_
    rw [hg_s5] at hr
    cases b
    case' false =>
     have e5 := got_no hg_s5
     subst e5
     dsimp only at hr
     obtain ⟨rfl, rfl⟩ := Prod.mk.inj hr
     refine ARun.goK 60 ?_
     simp only [W, seval, c184, hn, hi]
     refine hend () hok5 _ _ ?_ rfl
     refine Agree.env _ ?_
     simp only [agw, seval, hn]
    case' true =>
     have hlt := got_lt hg_s5
     dsimp only at hr
     obtain ⟨⟨y, s6⟩, hy⟩ : ∃ r, E s5 = r := ⟨_, rfl⟩
     have hpy := hE s5 (by omega)
     have hdy := (hdE.at hy).le
     rw [hy] at hpy hr
     dsimp only at hpy hr
     unfold exV at hpy
     refine ARun.goK 6 ?_
     simp only [W, seval, c184, hn, hi]
     refine PP.wit hpy hc hok5 (haN 1 (by rfl)) fun hok6 => ?_
     refine ARun.drawE 5 [2, 5] (fun S => S.boxes[N + 1]? = some (exL x)) (by kernel_rfl) (by kernel_rfl) (by kernel_rfl) (by kernel_rfl) (by kernel_rfl) ?_
     simp only [W, seval, c184]
     refine lexC_q (v := ?_) (by rfl) (by kernel_rfl) (fun S hS => ?_) ?_
     rotate_left
     ·try dsimp only at hS
      simp only [W, seval, c184, hS, exL]
      exact rfl
     simp only [W, seval, c184]
     refine lexC_q (v := ?_) (by rfl) (by kernel_rfl) (fun S hS => ?_) ?_
     rotate_left
     ·simp only [W, seval, c184]
      exact rfl
     simp only [W, seval, c184]
     refine PP.lexc (hpy) hc hok5 hok6 ?_ (by rfl) (by kernel_rfl) ?_ ?_
     ·first | trivial | simp [bx_loc, bx_loc0, hn]
     ·simp only [W, seval, c184]
      exact ⟨_, _, rfl, rfl, by rfl, by simp only [W, seval, c184]⟩
     simp only [W, seval, c184]
     refine lexC_q (v := ?_) (by rfl) (by kernel_rfl) (fun S hS => ?_) ?_
     rotate_left
     ·simp only [W, seval, c184, mapD_nil, mapD_cons, Nat.reduceMul, rows8]
      exact rfl
     simp only [W, seval, c184]
     refine lexC_q (v := ?_) (by rfl) (by kernel_rfl) (fun S hS => ?_) ?_
     rotate_left
     ·simp only [W, seval, c184]
      exact rfl
     simp only [W, seval, c184]
     refine lexC_end (by simp [bx_loc, hn]) ?_
     refine lexC_w (v := ?_) (S' := ?_) ?_ (by rfl) (by kernel_rfl) ?_ ?_
     rotate_left 2
     ·first | trivial | simp [bx_loc, bx_loc0, hn, exL]
     ·simp only [W, seval, c184, hn, exL]
      exact rfl
     simp only [W, seval, c184]
     refine lexC_end trivial ?_
     refine ARun.goK (k := [_, _, _, _]) 10 ?_
     simp only [W, seval, c184]
     obtain ⟨⟨b, s7⟩, hg_s7⟩ : ∃ r, gotP s6 [58] = r := ⟨_, rfl⟩
     have hp_s7 := got_pp bs h0 hl s6 [58]
     rw [hg_s7] at hp_s7
     dsimp only at hp_s7
     first
      | refine PP.call0 hp_s7 hc hok6 fun hok7 => ?_
      | refine PP.call hp_s7 hc hok6 fun hok7 => ?_
     have hd7 := (dn_got hg_s7).le
     rw [hg_s7] at hr
     cases b
     case' false =>
      dsimp only at hr
      have hd8 := (dn_want s7 [93]).le
      refine ARun.goK 20 ?_
      simp only [W, seval, c184, hn, hi]
      first
       | refine PP.call0 (want_pp bs h0 hl s7 [93]) hc hok7 fun hok8 => ?_
       | refine PP.call (want_pp bs h0 hl s7 [93]) hc hok7 fun hok8 => ?_
      refine ARun.plainJ 1 _ (exL (.mk 10 [] 0 noT [] [x, y])) (by rfl) (.same (.same (.same (.same (.same (.sl (.sl (.sl .nil)))))))) ?_
      refine ARun.goK 20 ?_
      simp only [W, seval, c184, hn, hi]
      refine ih (.mk 10 [] 0 noT [] [x, y], wantP s7 [93]) ⟨hok8, by dsimp only; omega, m', by dsimp only; omega, hr⟩ (by dsimp only; omega) [] _ ?_
      simp only [agf, seval, hi2, hN1, hN2, ht1]
     case' true =>
      dsimp only at hr
      obtain ⟨⟨u, s8⟩, hu⟩ : ∃ r, E s7 = r := ⟨_, rfl⟩
      have hpu := hE s7 (by omega)
      have hdu := (hdE.at hu).le
      rw [hu] at hpu hr
      dsimp only at hpu hr
      unfold exV at hpu
      have hrows : rowsSz 8 [exD x, exD y] = true := rowsSz_ex [x, y]
      have hr1 : rowsSz 8 [exD u] = true := ex1 u
      have hd9 := (dn_want s8 [93]).le
      refine ARun.goK 6 ?_
      simp only [W, seval, c184, hn, hi]
      refine PP.wit hpu hc hok7 (haN 1 (by rfl)) fun hok8 => ?_
      refine ARun.drawE 8 [3, 5, 7, 9] (fun S => ∃ k0 : Int, S.boxes[N + 1]? = some [.d (.int .i64 k0), .d (.str []), .d (.int .u64 0), .d (.int .i64 0), .d (.str []), .sl [] .full, .sl [] .full, .sl [exD x, exD y] .full]) (by kernel_rfl) (by kernel_rfl) (by kernel_rfl) (by kernel_rfl) (by kernel_rfl) ?_
      simp only [W, seval, c184]
      refine lexC_q (v := ?_) (by rfl) (by kernel_rfl) (fun S hS => ?_) ?_
      rotate_left
      ·simp only [W, seval, c184]
       exact rfl
      simp only [W, seval, c184]
      refine lexC_q (v := ?_) (by rfl) (by kernel_rfl) (fun S hS => ?_) ?_
      rotate_left
      ·obtain ⟨k0, hS⟩ := hS
       simp only [W, seval, c184, hS]
       exact rfl
      simp only [W, seval, c184]
      refine lexC_q (v := ?_) (by rfl) (by kernel_rfl) (fun S hS => ?_) ?_
      rotate_left
      ·simp only [W, seval, c184]
       exact rfl
      simp only [W, seval, c184]
      refine PP.lexc hpu hc hok7 hok8 ⟨10, by simp [bx_loc, hn]⟩ (by rfl) (by kernel_rfl) ?_ ?_
      ·simp only [W, seval, c184]
       exact ⟨_, _, rfl, rfl, by rfl, by rfl⟩
      simp only [W, seval, c184]
      refine lexC_q (v := ?_) (by rfl) (by kernel_rfl) (fun S hS => ?_) ?_
      rotate_left
      ·simp only [W, seval, c184, mapD_nil, mapD_cons, Nat.reduceMul, rows8]
       exact rfl
      simp only [W, seval, c184]
      refine lexC_w (v := ?_) (S' := ?_) ⟨10, by simp [bx_loc, hn]⟩ (by rfl) (by kernel_rfl) ?_ ?_
      rotate_left 2
      ·simp only [W, seval, c184, hn, ht, hrows, hr1, Nat.reduceMul]
       exact rfl
      simp only [W, seval, c184]
      refine lexC_q (v := ?_) (by rfl) (by kernel_rfl) (fun S hS => ?_) ?_
      rotate_left
      ·simp only [W, seval, c184]
       exact rfl
      simp only [W, seval, c184]
      refine lexC_w (v := ?_) (S' := ?_) ⟨10, by simp [bx_loc, hn]⟩ (by rfl) (by kernel_rfl) ?_ ?_
      rotate_left 2
      ·simp only [W, seval, c184, hn, ht]
       exact rfl
      simp only [W, seval, c184]
      refine lexC_end ⟨11, by simp [bx_loc, hn]⟩ ?_
      refine lexC_q (v := ?_) (by rfl) (by kernel_rfl) (fun S hS => ?_) ?_
      rotate_left
      ·simp only [W, seval, c184]
       exact rfl
      simp only [W, seval, c184]
      refine lexC_w (v := ?_) (S' := ?_) ?_ (by rfl) (by kernel_rfl) ?_ ?_
      rotate_left 2
      ·first | trivial | simp [bx_loc, bx_loc0, hn]
      ·simp only [W, seval, c184, hn]
       exact rfl
      simp only [W, seval, c184]
      refine lexC_end trivial ?_
      refine ARun.goK (k := [_, _, _, _]) 10 ?_
      simp only [W, seval, c184]
      first
       | refine PP.call0 (want_pp bs h0 hl s8 [93]) hc hok8 fun hok9 => ?_
       | refine PP.call (want_pp bs h0 hl s8 [93]) hc hok8 fun hok9 => ?_
      refine ARun.plainJ 1 _ (exL (.mk 11 [] 0 noT [] [x, y, u])) (by rfl) (.same (.same (.same (.same (.same (.sl (.sl (.sl .nil)))))))) ?_
      refine ARun.goK 20 ?_
      simp only [W, seval, c184, hn, hi]
      refine ih (.mk 11 [] 0 noT [] [x, y, u], wantP s8 [93]) ⟨hok9, by dsimp only; omega, m', by dsimp only; omega, hr⟩ (by dsimp only; omega) [(3, 8)] _ ?_
      simp only [agf, seval, hi2, hN1, hN2, ht1]
 rintro ⟨⟩ hok3
 have hwl := wrap_in ((l0.length : Int) - 1) (by omega)
 refine ARun.go 10 ?_
 simp only [W, seval, c184, hn, hi, sgD_len, hwl]
 refine ARun.loopW (fun a : Nat × ExT => (envS 74 [(0, .ptr c 0), (2, .ptr N 0), (3, .sl (sgD l0) (.own t)), (5, .ptr (N + 1) 0), (6, .d (.int .i64 ((a.1 : Int) - 1)))], ⟨B.set c (bxP bs s3) ++ [[.d (.int .i64 0), .d (.str []), .d (.int .u64 0), .d (.int .i64 0), .d (.str []), .sl [] .full, .sl [] .full, .sl [] .full], exL a.2], T ++ [(l0.length, 1)]⟩)) (fun a => a.1 ≤ l0.length ∧ signT (l0.take a.1) a.2 = signT l0 y0) (fun a => a.1) (l0.length, y0) ⟨Nat.le_refl _, by dsimp only; rw [List.take_length]⟩ ?_ rfl ?_
 ·skip
  refine Agree.env _ ?_
  simp only [agw, seval, hn]
 rintro ⟨j, x⟩ ⟨hj, hsx⟩ ih
 dsimp only at hj hsx ih ⊢
 cases j with
 | zero =>
  rw [List.take_zero, signT] at hsx
  subst hsx
  have hz : ((0 : Nat) : Int) - 1 = -1 := rfl
  rw [hz]
  refine ARun.go 40 ?_
  simp only [W, seval, c184, hn, hi, exL]
  refine retc (v := ?_) Tryz.func184 (by rfl) ?_ ?_
  rotate_left
  ·simp only [W, seval, c184, hn, hi]
   exact rfl
  refine PF.ret (fun _ _ => rfl) ?_
  exact ⟨rfl, 0, hok3, rfl⟩
 | succ q =>
  have hq : ((q + 1 : Nat) : Int) - 1 = (q : Int) := by omega
  have hw := wrap_in ((q : Int) - 1) (by omega)
  obtain ⟨k, hk⟩ : ∃ k, l0[q]? = some k := ⟨_, List.getElem?_eq_getElem (by omega)⟩
  rw [hq]
  refine ARun.go 12 ?_
  simp only [W, seval, c184, hn, hi]
  refine ARun.drawE 7 [7] (fun S => S.boxes[N + 1]? = some (exL x)) (by kernel_rfl) (by kernel_rfl) (by kernel_rfl) (by kernel_rfl) (by kernel_rfl) ?_
  simp only [W, seval, c184]
  refine lexC_q (v := ?_) (by rfl) (by kernel_rfl) (fun S hS => ?_) ?_
  rotate_left
  ·simp only [W, seval, c184]
   exact rfl
  simp only [W, seval, c184]
  refine lexC_q (v := ?_) (by rfl) (by kernel_rfl) (fun S hS => ?_) ?_
  rotate_left
  ·simp only [W, seval, c184]
   exact rfl
  simp only [W, seval, c184]
  refine lexC_q (v := ?_) (by rfl) (by kernel_rfl) (fun S hS => ?_) ?_
  rotate_left
  ·simp only [W, seval, c184, sgD_get, hk]
   exact rfl
  simp only [W, seval, c184]
  refine lexC_q (v := ?_) (by rfl) (by kernel_rfl) (fun S hS => ?_) ?_
  rotate_left
  ·simp only [W, seval, c184]
   exact rfl
  simp only [W, seval, c184]
  refine lexC_q (v := ?_) (by rfl) (by kernel_rfl) (fun S hS => ?_) ?_
  rotate_left
  ·try dsimp only at hS
   simp only [W, seval, c184, hS, exL]
   exact rfl
  simp only [W, seval, c184]
  refine lexC_q (v := ?_) (by rfl) (by kernel_rfl) (fun S hS => ?_) ?_
  rotate_left
  ·simp only [W, seval, c184, mapD_nil, mapD_cons, Nat.reduceMul, rows8]
   exact rfl
  simp only [W, seval, c184]
  refine lexC_q (v := ?_) (by rfl) (by kernel_rfl) (fun S hS => ?_) ?_
  rotate_left
  ·simp only [W, seval, c184]
   exact rfl
  simp only [W, seval, c184]
  refine lexC_end (by simp [bx_loc, hn]) ?_
  refine lexC_w (v := ?_) (S' := ?_) ?_ (by rfl) (by kernel_rfl) ?_ ?_
  rotate_left 2
  ·first | trivial | simp [bx_loc, bx_loc0, hn, exL]
  ·simp only [W, seval, c184, hn, exL]
   exact rfl
  simp only [W, seval, c184]
  refine lexC_end trivial ?_
  refine ARun.plainJ 1 _ (exL (.mk k [] 0 noT [] [x])) (by rfl) (.same (.same (.same (.same (.same (.sl (.sl (.sl .nil)))))))) ?_
  refine ARun.go 20 ?_
  simp only [W, seval, c184, hn, hi, hw]
  refine ih (q, .mk k [] 0 noT [] [x]) ⟨by dsimp only; omega, ?_⟩ (by dsimp only; omega) _ _ ?_ rfl
  ·dsimp only
   rw [← hsx, List.take_add_one, hk]
   exact (sign_app (l0.take q) k x).symm
  ·skip
   refine Agree.env _ ?_
   simp only [agw, seval, hn]
end Go.Proofs.YtfaoamebphckbaaGreatDoor
namespace Go.Proofs.YtfaoamebphckbaaGreatDoor
open Go.RowKit Go.Av
def Eqv {α : Type} (a b : α × Ps) : Prop := a.2 = b.2 ∧ (a.2.e = 0 → a.1 = b.1)
theorem Eqv.refl {α : Type} (a : α × Ps) : Eqv a a := ⟨rfl, fun _ => rfl⟩
def EqE {α : Type} (n : Nat) (E E' : Ps → α × Ps) : Prop := ∀ s, mu s < n → Eqv (E s) (E' s)
theorem EqE.at {α : Type} {n : Nat} {E E' : Ps → α × Ps} (h : EqE n E E') (s : Ps) (hn : mu s < n) : ∃ x x' s1, E s = (x, s1) ∧ E' s = (x', s1) ∧ (s1.e = 0 → x = x') := by
 obtain ⟨h1, h2⟩ := h s hn
 exact ⟨(E s).1, (E' s).1, (E s).2, rfl, by rw [h1], h2⟩
theorem fail_dead {s : Ps} (h : ¬ s.e = 0) (e : Int) : failP s e = s := by unfold failP; rw [if_neg h]
theorem fail_e {s : Ps} (h : s.e = 0) : ¬ (failP s 51).e = 0 := by
 unfold failP
 rw [if_pos h]
 show ¬ (51 : Int) = 0
 omega
theorem Eqv.open {α : Type} {a b : α × Ps} (h : Eqv a b) : ∃ x x' s1, a = (x, s1) ∧ b = (x', s1) ∧ (s1.e = 0 → x = x') := ⟨a.1, b.1, a.2, rfl, by rw [h.1], h.2⟩
theorem typ_lt {m : Nat} {s s2 : Ps} {t : TyT} (hi : isP s [91] = true) (hm : mu s ≤ m) (ht : typP m s = (t, s2)) : mu s2 < mu s := by
 cases hg : gotP s [91] with
 | mk b s1 =>
  have hb : b = true := by
   unfold gotP at hg
   rw [if_pos hi] at hg
   cases hg
   rfl
  subst hb
  have h1 := got_lt hg
  cases m with
  | zero => omega
  | succ m =>
   unfold typP at ht
   split at ht
   rename_i hu
   split at ht
   rename_i hb
   cases ht
   unfold upP at hu
   rw [hg] at hu
   cases hu2 : upP m (wantP s1 [93]) with
   | mk k s3 =>
   dsimp only at hu
   rw [hu2] at hu
   dsimp only at hu
   cases hu
   have := (dn_want s1 [93]).le
   have := (dn_up m hu2).le
   have := (dn_base hb).le
   omega
end Go.Proofs.YtfaoamebphckbaaGreatDoor
namespace Go.Proofs.YtfaoamebphckbaaGreatDoor
open Go.RowKit Go.Av Go.Ab
set_option linter.unusedSimpArgs false
set_option maxRecDepth 100000
set_option linter.defProp false
def c187 := by
 have c := KK_of Tryz.f187 (by conv => lhs; cbv)
 dsimp only [KK, KxP, doO, opO, List.map_cons, List.map_nil, List.toList_toArray] at c
 exact c
theorem b187 : FnIs Tryz.prog 187 Tryz.f187 32 := ⟨Tryz.func187, by kernel_rfl⟩
def c186 := by
 have c := KK_of Tryz.f186 (by conv => lhs; cbv)
 dsimp only [KK, KxP, doO, opO, List.map_cons, List.map_nil, List.toList_toArray] at c
 exact c
theorem b186 : FnIs Tryz.prog 186 Tryz.f186 92 := ⟨Tryz.func186, by kernel_rfl⟩
def exF (tx : List UInt8) : List V := [.d (.int .i64 14), .d (.str []), .d (.int .u64 0), .d (.int .i64 7), .d (.str tx), .sl [] .full, .sl [] .full, .sl [] .full]
def FOk (bs : List UInt8) (E : EP) (n : Nat) : Prop := ∀ (M : Nat) (s : Ps) (tx : List UInt8) (Z : List V) (c : Nat) (B : List (List V)) (T : List (Nat × Nat)), mu s < n → mu s < M → c < B.length → OkP bs s →
 AFn Tryz.prog TabI 190 [.ptr c 0, .ptr (B.length + 1) 0] ⟨B.set c (bxP bs s) ++ [Z, exF tx], T⟩ fun v m => v = .tup [] ∧ OkP bs (wantP (fldL E M s).2 [125]) ∧ m = ⟨B.set c (bxP bs (wantP (fldL E M s).2 [125])) ++ [Z, exL (.mk 14 [] 0 (.mk 7 tx []) (fldL E M s).1.1 (fldL E M s).1.2)], T⟩
set_option maxHeartbeats 4000000 in
theorem named_pp (bs : List UInt8) (h0 : True) (hl : bs.length ≤ 400000) {E : EP} {n : Nat} (hE : EOk bs E n) (hd : DnE E) (hF : FOk bs E n) (m : Nat) (hnm : n ≤ m) (s : Ps) (hs : mu s ≤ n) :
 PP bs 187 [] s (exV (namedP true E m s).1) (namedP true E m s).2 := by
 intro c B T i hc hok
 obtain ⟨N, hn⟩ : ∃ N, B.length = N := ⟨_, rfl⟩
 have hi : c < N := by omega
 obtain ⟨K, hK⟩ : ∃ K, namedP true E m s = K := ⟨_, rfl⟩
 rw [hK]
 unfold namedP at hK
 refine b187.go 10 rfl fun hsm => ?_
 simp only [smw] at hsm
 simp only [W, seval, c187, hn, hi]
 obtain ⟨⟨tx, s1⟩, hg_s1⟩ : ∃ r, nameP s = r := ⟨_, rfl⟩
 have hp_s1 := name_pp bs h0 hl s
 rw [hg_s1] at hp_s1
 dsimp only at hp_s1
 first
  | refine PP.call0 hp_s1 hc hok fun hok1 => ?_
  | refine PP.call hp_s1 hc hok fun hok1 => ?_
 have hd1 := (dn_name hg_s1).le
 rw [hg_s1] at hK
 dsimp only at hK
 refine ARun.go 10 ?_
 simp only [W, seval, c187, hn, hi]
 obtain ⟨⟨b, s2⟩, hg_s2⟩ : ∃ r, gotP s1 [40] = r := ⟨_, rfl⟩
 have hp_s2 := got_pp bs h0 hl s1 [40]
 rw [hg_s2] at hp_s2
 dsimp only at hp_s2
 first
  | refine PP.call0 hp_s2 hc hok1 fun hok2 => ?_
  | refine PP.call hp_s2 hc hok1 fun hok2 => ?_
 rw [hg_s2] at hK
 cases b
 case' true =>
  have hlt := got_lt hg_s2
  dsimp only [argsP] at hK
  obtain ⟨⟨l, s3⟩, hL⟩ : ∃ r, listP E [41] false m s2 = r := ⟨_, rfl⟩
  have hpl := list_pp bs h0 hl hE hd [41] false m s2 (by omega) (by omega)
  rw [hL] at hK hpl
  dsimp only at hK hpl
  subst hK
  refine ARun.go 20 ?_
  simp only [W, seval, c187, hn, hi]
  refine PP.call hpl hc hok2 fun hok3 => ?_
  refine ARun.go 20 ?_
  simp only [W, seval, c187, hn, hi]
  refine retc (v := ?_) Tryz.func187 (by rfl) ?_ ?_
  rotate_left
  ·simp only [W, seval, c187, hn, hi]
   exact rfl
  refine PF.retJ (fun _ _ => rfl) ?_
  exact ⟨rfl, 0, hok3, rfl⟩
 case' false =>
  have e2 := got_no hg_s2
  subst e2
  dsimp only at hK
  cases hh : s2.h
  case' true =>
   rw [hh, if_neg (by simp)] at hK
   subst hK
   refine ARun.go 60 ?_
   simp only [W, seval, c187, hn, hi, bxP, hh]
   refine retc (v := ?_) Tryz.func187 (by rfl) ?_ ?_
   rotate_left
   ·simp only [W, seval, c187, hn, hi]
    exact rfl
   refine PF.retJ (fun _ _ => rfl) ?_
   exact ⟨rfl, 0, hok2, rfl⟩
  case' false =>
   rw [hh, if_pos rfl] at hK
   refine ARun.go 60 ?_
   simp only [W, seval, c187, hn, hi, bxP, hh]
   obtain ⟨⟨b, s3⟩, hg3⟩ : ∃ r, gotP s2 [123] = r := ⟨_, rfl⟩
   have hp3 := got_pp bs h0 hl s2 [123]
   rw [hg3] at hp3 hK
   dsimp only at hp3
   have hbx : [V.d (D.sl (byD bs)), V.d (D.int IntKind.i64 ↑s2.w.kind), V.d (D.str s2.w.text), V.d (D.int IntKind.u64 ↑s2.w.int), V.d (D.int IntKind.i64 ↑s2.w.at'), V.d (D.int IntKind.i64 ↑s2.w.next), V.d (D.int IntKind.i64 s2.e), V.d (D.int IntKind.i64 s2.o), V.d (D.bool false)] = bxP bs s2 := by unfold bxP; rw [hh]
   rw [hbx]
   refine PP.call hp3 hc hok2 fun hok3 => ?_
   cases b
   case' false =>
    have e3 := got_no hg3
    subst e3
    dsimp only at hK
    subst hK
    refine ARun.go 60 ?_
    simp only [W, seval, c187, hn, hi]
    refine retc (v := ?_) Tryz.func187 (by rfl) ?_ ?_
    rotate_left
    ·simp only [W, seval, c187, hn, hi]
     exact rfl
    refine PF.retJ (fun _ _ => rfl) ?_
    exact ⟨rfl, 0, hok3, rfl⟩
   case' true =>
    have hlt := got_lt hg3
    have hf := hF m s3 tx [.d (.int .i64 0), .d (.str []), .d (.int .u64 0), .d (.int .i64 0), .d (.str []), .sl [] .full, .sl [] .full, .sl [] .full] c B T (by omega) (by omega) hc hok3
    obtain ⟨⟨⟨ts, xs⟩, s4⟩, hX⟩ : ∃ r, fldL E m s3 = r := ⟨_, rfl⟩
    rw [hX] at hf
    dsimp only at hK
    rw [hX] at hK
    dsimp only at hf hK
    subst hK
    rw [hn] at hf
    refine ARun.go 60 ?_
    simp only [W, seval, c187, hn, hi]
    refine callS_fn hf ?_
    rintro _ _ ⟨rfl, hok4, rfl⟩
    refine ARun.go 60 ?_
    simp only [W, seval, c187, hn, hi, exL]
    refine retc (v := ?_) Tryz.func187 (by rfl) ?_ ?_
    rotate_left
    ·simp only [W, seval, c187, hn, hi]
     exact rfl
    refine PF.retJ (fun _ _ => rfl) ?_
    exact ⟨rfl, 0, hok4, rfl⟩
theorem typ_kind {m : Nat} {s : Ps} (hi : isP s [91] = true) (hm : 0 < m) : (typP m s).1.kind = 8 := by
 cases m with
 | zero => omega
 | succ m =>
  have hw : ∀ (n : Nat) (t : TyT), (wrapT (n + 1) t).kind = 8 := by
   intro n
   induction n with
   | zero => intro t; rfl
   | succ n ih => intro t; rw [wrapT]; exact ih _
  unfold typP
  rw [upP]
  have hg : (gotP s [91]).1 = true := by unfold gotP; rw [hi]; rfl
  obtain ⟨⟨b, s1⟩, h1⟩ : ∃ r, gotP s [91] = r := ⟨_, rfl⟩
  rw [h1] at hg ⊢
  have hb : b = true := hg
  subst hb
  exact hw _ _
set_option maxHeartbeats 8000000 in
theorem prim_pp (bs : List UInt8) (h0 : True) (hl : bs.length ≤ 400000) {E : EP} {n : Nat} (hE : EOk bs E n) (hd : DnE E) (hF : FOk bs E n) (m : Nat) (hnm : n < m) (s : Ps) (hs : mu s ≤ n) :
 PP bs 186 [] s (exV (primP true E m s).1) (primP true E m s).2 := by
 intro c B T i hc hok
 obtain ⟨N, hn⟩ : ∃ N, B.length = N := ⟨_, rfl⟩
 have hi : c < N := by omega
 obtain ⟨K, hK⟩ : ∃ K, primP true E m s = K := ⟨_, rfl⟩
 rw [hK]
 unfold primP at hK
 by_cases he : s.e = 0
 case neg =>
  have e1 := decide_eq_false he
  rw [if_pos he] at hK
  subst hK
  refine b186.go 60 rfl fun hsm => ?_
  simp only [smw] at hsm
  simp only [W, seval, c186, hn, hi, bxP, e1]
  refine PP.call (fail_pp bs s 51 (by decide)) hc hok fun hok1 => ?_
  rw [fail_dead he] at hok1 ⊢
  refine ARun.go 60 ?_
  simp only [W, seval, c186, hn, hi]
  refine retc (v := ?_) Tryz.func186 (by rfl) ?_ ?_
  rotate_left
  ·simp only [W, seval, c186, hn, hi]
   exact rfl
  refine PF.retJ (fun _ _ => rfl) ?_
  exact ⟨rfl, 0, hok1, rfl⟩
 rw [if_neg (by simpa using he)] at hK
 have e1 := decide_eq_true he
 by_cases h2 : s.w.kind = 2
 case pos =>
  have e2 : decide ((s.w.kind : Int) = 2) = true := decide_eq_true (by omega)
  rw [if_pos h2] at hK
  subst hK
  have hnp := num_pp bs h0 hl s
  have hnv : numP s = ((s.w.int : Int), nextP s) := if_pos ⟨he, h2⟩
  rw [hnv] at hnp
  refine b186.go 60 rfl fun hsm => ?_
  simp only [smw] at hsm
  simp only [W, seval, c186, hn, hi, bxP, e1, e2]
  refine PP.call hnp hc hok fun hok1 => ?_
  refine ARun.go 60 ?_
  simp only [W, seval, c186, hn, hi]
  refine retc (v := ?_) Tryz.func186 (by rfl) ?_ ?_
  rotate_left
  ·simp only [W, seval, c186, hn, hi]
   exact rfl
  refine PF.retJ (fun _ _ => rfl) ?_
  exact ⟨rfl, 0, hok1, rfl⟩
 rw [if_neg h2] at hK
 have e2 : decide ((s.w.kind : Int) = 2) = false := decide_eq_false (by omega)
 by_cases h3 : s.w.kind = 1
 case pos =>
  have e3 : decide ((s.w.kind : Int) = 1) = true := decide_eq_true (by omega)
  rw [if_pos h3] at hK
  have hnp := named_pp bs h0 hl hE hd hF m (by omega) s hs
  rw [hK] at hnp
  unfold exV at hnp ⊢
  refine b186.go 60 rfl fun hsm => ?_
  simp only [smw] at hsm
  simp only [W, seval, c186, hn, hi, bxP, e1, e2, e3]
  refine PP.call hnp hc hok fun hok1 => ?_
  refine ARun.go 60 ?_
  simp only [W, seval, c186, hn, hi]
  refine retc (v := ?_) Tryz.func186 (by rfl) ?_ ?_
  rotate_left
  ·simp only [W, seval, c186, hn, hi]
   exact rfl
  refine PF.retJ (fun _ _ => rfl) ?_
  exact ⟨rfl, 0, hok1, rfl⟩
 rw [if_neg h3] at hK
 have e3 : decide ((s.w.kind : Int) = 1) = false := decide_eq_false (by omega)
 have hpos : s.w.kind = 0 ∨ mu (nextP s) < n ∧ ¬ s.w.kind = 0 := by
  by_cases hz : s.w.kind = 0
  ·exact .inl hz
  ·have := next_lt s he hz
   exact .inr ⟨by omega, hz⟩
 refine b186.go 60 rfl fun hsm => ?_
 simp only [smw] at hsm
 simp only [W, seval, c186, hn, hi, bxP, e1, e2, e3]
 refine PP.call (is_pp bs s [116, 114, 117, 101]) hc hok fun _ => ?_
 have hkd4 : decide ((s.w.kind : Int) = 4) = decide (s.w.kind = 4) := dec_nat s.w.kind 4
 refine ARun.after [_, _] _ (fun _ : Unit => (envS 92 [(0, .ptr c 0), (2, .ptr N 0), (30, .d (.bool (keyB s)))], ⟨B.set c (bxP bs s) ++ [[.d (.int .i64 0), .d (.str []), .d (.int .u64 0), .d (.int .i64 0), .d (.str []), .sl [] .full, .sl [] .full, .sl [] .full]], T⟩)) (fun _ => True) ?_ ?_
 case refine_2 =>
  intro K' hend
  cases q1 : isP s [116, 114, 117, 101]
  case' true =>
   have hkb : keyB s = true := by simp [keyB, q1]
   refine ARun.goK (k := [_, _]) 20 ?_
   simp only [W, seval, c186]
   refine hend () trivial _ _ ?_ rfl
   refine Agree.env _ ?_
   simp only [agw, seval, hkb]
  case' false =>
   refine ARun.goK (k := [_, _]) 20 ?_
   simp only [W, seval, c186]
   refine PP.call (is_pp bs s [102, 97, 108, 115, 101]) hc hok fun _ => ?_
   cases q2 : isP s [102, 97, 108, 115, 101]
   case' true =>
    have hkb : keyB s = true := by simp [keyB, q2]
    refine ARun.goK 20 ?_
    simp only [W, seval, c186]
    refine hend () trivial _ _ ?_ rfl
    refine Agree.env _ ?_
    simp only [agw, seval, hkb]
   case' false =>
    refine ARun.goK 20 ?_
    simp only [W, seval, c186]
    refine PP.call (is_pp bs s [108, 101, 110]) hc hok fun _ => ?_
    cases q3 : isP s [108, 101, 110]
    case' true =>
     have hkb : keyB s = true := by simp [keyB, q3]
     refine ARun.goK 20 ?_
     simp only [W, seval, c186]
     refine hend () trivial _ _ ?_ rfl
     refine Agree.env _ ?_
     simp only [agw, seval, hkb]
    case' false =>
     refine ARun.goK 20 ?_
     simp only [W, seval, c186]
     refine PP.call (is_pp bs s [97, 112, 112, 101, 110, 100]) hc hok fun _ => ?_
     cases q4 : isP s [97, 112, 112, 101, 110, 100]
     case' true =>
      have hkb : keyB s = true := by simp [keyB, q4]
      refine ARun.goK 20 ?_
      simp only [W, seval, c186]
      refine hend () trivial _ _ ?_ rfl
      refine Agree.env _ ?_
      simp only [agw, seval, hkb]
     case' false =>
      have hkb : keyB s = (decide (s.w.kind = 4) && decide (1 < kindS s.w.text)) := by simp [keyB, q1, q2, q3, q4]
      cases q5 : decide (s.w.kind = 4)
      case' false =>
       rw [q5] at hkd4 hkb
       rw [Bool.false_and] at hkb
       refine ARun.goK 60 ?_
       simp only [W, seval, c186, hn, hi, bxP, hkd4]
       refine hend () trivial _ _ ?_ rfl
       refine Agree.env _ ?_
       simp only [agw, seval, hkb]
      case' true =>
       rw [q5] at hkd4 hkb
       rw [Bool.true_and] at hkb
       refine ARun.goK 60 ?_
       simp only [W, seval, c186, hn, hi, bxP, hkd4]
       refine callS_fn (basic_ab s.w.text _) ?_
       rintro _ _ ⟨rfl, rfl⟩
       refine ARun.goK 60 ?_
       simp only [W, seval, c186]
       refine hend () trivial _ _ ?_ rfl
       refine Agree.env _ ?_
       simp only [agw, seval, hkb]
 rintro ⟨⟩ -
 cases hkb : keyB s
 case' true =>
  have hkn : ¬ s.w.kind = 0 := by
   intro hz
   unfold keyB at hkb
   simp only [Bool.or_eq_true, Bool.and_eq_true, decide_eq_true_eq] at hkb
   rcases hkb with (((h | h) | h) | h) | h
   ·have := (is_live h).2.1; omega
   ·have := (is_live h).2.1; omega
   ·have := (is_live h).2.1; omega
   ·have := (is_live h).2.1; omega
   ·omega
  rw [hkb, if_pos rfl] at hK
  have hkp := keyed_pp bs h0 hl hE hd s (fun _ => hkn) (by have := next_lt s he hkn; omega)
  rw [hK] at hkp
  unfold exV at hkp ⊢
  refine ARun.go 20 ?_
  simp only [W, seval, c186, hn, hi]
  refine PP.call hkp hc hok fun hok1 => ?_
  refine ARun.go 60 ?_
  simp only [W, seval, c186, hn, hi]
  refine retc (v := ?_) Tryz.func186 (by rfl) ?_ ?_
  rotate_left
  ·simp only [W, seval, c186, hn, hi]
   exact rfl
  refine PF.retJ (fun _ _ => rfl) ?_
  exact ⟨rfl, 0, hok1, rfl⟩
 rw [hkb, if_neg (by simp)] at hK
 refine ARun.go 20 ?_
 simp only [W, seval, c186, hn, hi]
 obtain ⟨⟨b, s1⟩, hg_s1⟩ : ∃ r, gotP s [40] = r := ⟨_, rfl⟩
 have hp_s1 := got_pp bs h0 hl s [40]
 rw [hg_s1] at hp_s1
 dsimp only at hp_s1
 first
  | refine PP.call0 hp_s1 hc hok fun hok1 => ?_
  | refine PP.call hp_s1 hc hok fun hok1 => ?_
 rw [hg_s1] at hK
 cases b
 case' true =>
  have hlt := got_lt hg_s1
  dsimp only at hK
  obtain ⟨⟨x, s2⟩, hx⟩ : ∃ r, E s1 = r := ⟨_, rfl⟩
  have hpx := hE s1 (by omega)
  rw [hx] at hpx hK
  dsimp only at hpx hK
  subst hK
  unfold exV at hpx ⊢
  refine ARun.go 20 ?_
  simp only [W, seval, c186, hn, hi]
  refine PP.call hpx hc hok1 fun hok2 => ?_
  refine ARun.go 20 ?_
  simp only [W, seval, c186, hn, hi]
  first
   | refine PP.call0 (want_pp bs h0 hl s2 [41]) hc hok2 fun hok3 => ?_
   | refine PP.call (want_pp bs h0 hl s2 [41]) hc hok2 fun hok3 => ?_
  refine ARun.go 60 ?_
  simp only [W, seval, c186, hn, hi]
  refine retc (v := ?_) Tryz.func186 (by rfl) ?_ ?_
  rotate_left
  ·simp only [W, seval, c186, hn, hi]
   exact rfl
  refine PF.retJ (fun _ _ => rfl) ?_
  exact ⟨rfl, 0, hok3, rfl⟩
 have e1' := got_no hg_s1
 subst e1'
 dsimp only at hK
 refine ARun.after [_, _] _ (fun _ : Unit => (envS 92 [(0, .ptr c 0), (2, .ptr N 0)], ⟨B.set c (bxP bs s1) ++ [[.d (.int .i64 0), .d (.str []), .d (.int .u64 0), .d (.int .i64 0), .d (.str []), .sl [] .full, .sl [] .full, .sl [] .full]], T⟩)) (fun _ => K = (zeroE, failP s1 51)) ?_ ?_
 ·rintro ⟨⟩ hKe
  clear hK
  subst hKe
  refine ARun.go 20 ?_
  simp only [W, seval, c186, hn, hi]
  refine PP.call (fail_pp bs s1 51 (by decide)) hc hok1 fun hok2 => ?_
  refine ARun.go 60 ?_
  simp only [W, seval, c186, hn, hi]
  refine retc (v := ?_) Tryz.func186 (by rfl) ?_ ?_
  rotate_left
  ·simp only [W, seval, c186, hn, hi]
   exact rfl
  refine PF.retJ (fun _ _ => rfl) ?_
  exact ⟨rfl, 0, hok2, rfl⟩
 intro K' hend
 cases hh : s1.h
 case' true =>
  have hend := hend () (by rw [← hK, if_neg (by simp [hh])])
  unfold bxP at hend
  rw [hh] at hend
  refine ARun.goK (k := [_, _]) 60 ?_
  simp only [W, seval, c186, hn, hi, bxP, hh]
  refine hend _ _ ?_ rfl
  refine Agree.env _ ?_
  simp only [agw, seval, hn]
 have hbx : [V.d (D.sl (byD bs)), V.d (D.int IntKind.i64 ↑s1.w.kind), V.d (D.str s1.w.text), V.d (D.int IntKind.u64 ↑s1.w.int), V.d (D.int IntKind.i64 ↑s1.w.at'), V.d (D.int IntKind.i64 ↑s1.w.next), V.d (D.int IntKind.i64 s1.e), V.d (D.int IntKind.i64 s1.o), V.d (D.bool false)] = bxP bs s1 := by unfold bxP; rw [hh]
 refine ARun.goK (k := [_, _]) 60 ?_
 simp only [W, seval, c186, hn, hi, bxP, hh]
 rw [hbx]
 refine PP.call (is_pp bs s1 [91]) hc hok1 fun _ => ?_
 cases h91 : isP s1 [91]
 case' false =>
  have hend := hend () (by rw [← hK, if_neg (by simp [h91])])
  refine ARun.goK 60 ?_
  simp only [W, seval, c186, hn, hi]
  refine hend _ _ ?_ rfl
  refine Agree.env _ ?_
  simp only [agw, seval, hn]
 rw [if_pos ⟨hh, h91⟩] at hK
 have htp := typ_pp bs h0 hl m s1 (by omega)
 have hk8 := typ_kind h91 (show 0 < m by omega)
 obtain ⟨⟨t0, s2⟩, ht0⟩ : ∃ r, typP m s1 = r := ⟨_, rfl⟩
 have htl := typ_lt h91 (show mu s1 ≤ m by omega) ht0
 have hd3 := (dn_want s2 [123]).le
 rw [ht0] at htp hK hk8
 dsimp only at htp hK hk8
 have hlp := list_pp bs h0 hl hE hd [125] true m (wantP s2 [123]) (by omega) (by omega)
 obtain ⟨⟨l, s3⟩, hL⟩ : ∃ r, listP E [125] true m (wantP s2 [123]) = r := ⟨_, rfl⟩
 rw [hL] at hlp hK
 dsimp only at hlp hK
 subst hK
 unfold tyV at htp
 refine ARun.goK 20 ?_
 simp only [W, seval, c186, hn, hi]
 refine PP.call htp hc hok1 fun hok2 => ?_
 refine ARun.goK 60 ?_
 simp only [W, seval, c186, hn, hi, hk8]
 first
  | refine PP.call0 (want_pp bs h0 hl s2 [123]) hc hok2 fun hok3 => ?_
  | refine PP.call (want_pp bs h0 hl s2 [123]) hc hok2 fun hok3 => ?_
 refine ARun.goK 20 ?_
 simp only [W, seval, c186, hn, hi]
 refine PP.call hlp hc hok3 fun hok4 => ?_
 refine ARun.goK 60 ?_
 simp only [W, seval, c186, hn, hi]
 refine retc (v := ?_) Tryz.func186 (by rfl) ?_ ?_
 rotate_left
 ·simp only [W, seval, c186, hn, hi]
  exact rfl
 refine PF.retJ (fun _ _ => rfl) ?_
 refine ⟨?_, 0, hok4, rfl⟩
 unfold exV
 rw [← hk8]
 rfl
def c59 := by
 have c := KK_of Tryz.f59 (by conv => lhs; cbv)
 dsimp only [KK, KxP, doO, opO, List.map_cons, List.map_nil, List.toList_toArray] at c
 exact c
theorem b59 : FnIs Tryz.prog 59 Tryz.f59 11 := ⟨Tryz.func59, by kernel_rfl⟩
def c98 := by
 have c := KK_of Tryz.f98 (by conv => lhs; cbv)
 dsimp only [KK, KxP, doO, opO, List.map_cons, List.map_nil, List.toList_toArray] at c
 exact c
theorem b98 : FnIs Tryz.prog 98 Tryz.f98 30 := ⟨Tryz.func98, by kernel_rfl⟩
def c61 := by
 have c := KK_of Tryz.f61 (by conv => lhs; cbv)
 dsimp only [KK, KxP, doO, opO, List.map_cons, List.map_nil, List.toList_toArray] at c
 exact c
theorem b61 : FnIs Tryz.prog 61 Tryz.f61 11 := ⟨Tryz.func61, by kernel_rfl⟩
theorem fail_lt {s : Ps} (h : 0 < mu s) : mu (failP s 51) < mu s := by
 have he : s.e = 0 := Classical.byContradiction fun he => by rw [mu_dead he] at h; omega
 rw [mu_dead (fail_e he)]
 exact h
theorem name_lt {s s1 : Ps} {t : List UInt8} (h : nameP s = (t, s1)) (hp : 0 < mu s) : mu s1 < mu s := by
 unfold nameP at h
 split at h
 ·rename_i hk
  obtain ⟨_, rfl⟩ := Prod.mk.inj h
  exact next_lt s hk.1 (by omega)
 ·obtain ⟨_, rfl⟩ := Prod.mk.inj h
  exact fail_lt hp
theorem set_lt {E : EP} (hE : DnE E) {m : Nat} (hm : 0 < m) {s s1 : Ps} {x : StT} (h : setP E m s = (x, s1)) (hp : 0 < mu s) : mu s1 < mu s := by
 unfold setP at h
 obtain ⟨⟨l, s2⟩, h2⟩ : ∃ r, leftL m m s = r := ⟨_, rfl⟩
 obtain ⟨⟨v, s3⟩, h3⟩ : ∃ r, valsP E m (wantP s2 [61]) = r := ⟨_, rfl⟩
 rw [h2] at h
 dsimp only at h
 rw [h3] at h
 replace h := (Prod.mk.inj h).2
 try dsimp only at h
 subst h
 have d3 := (dn_vals hE m h3).le
 have dw := (dn_want s2 [61]).le
 have d2 : mu s2 < mu s := by
  cases m with
  | zero => omega
  | succ m =>
   rw [leftL] at h2
   obtain ⟨⟨t, s4⟩, h4⟩ : ∃ r, nameP s = r := ⟨_, rfl⟩
   rw [h4] at h2
   dsimp only at h2
   obtain ⟨⟨y, s5⟩, h5⟩ : ∃ r, dotL (m + 1) (.mk 1 t 0 noT [] []) s4 = r := ⟨_, rfl⟩
   rw [h5] at h2
   dsimp only at h2
   obtain ⟨⟨b, s6⟩, h6⟩ : ∃ r, gotP s5 [44] = r := ⟨_, rfl⟩
   rw [h6] at h2
   have d4 := name_lt h4 hp
   have d5 := (dn_dot _ h5).le
   have d6 := (dn_got h6).le
   cases b
   ·replace h2 := (Prod.mk.inj h2).2
    try dsimp only at h2
    subst h2
    omega
   ·dsimp only at h2
    obtain ⟨⟨l7, s7⟩, h7⟩ : ∃ r, leftL (m + 1) m s6 = r := ⟨_, rfl⟩
    rw [h7] at h2
    replace h2 := (Prod.mk.inj h2).2
    try dsimp only at h2
    subst h2
    have d7 := (dn_left _ _ h7).le
    omega
 omega
theorem stmt_lt {E : EP} (hE : DnE E) {S : SP} (hS : DnE S) {m : Nat} (hm : 0 < m) {s s1 : Ps} {x : StT} (h : stmtP E S m s = (x, s1)) (hp : 0 < mu s) : mu s1 < mu s := by
 have hall : ∀ t : List UInt8, ∀ s2, gotP s t = (true, s2) → mu s2 < mu s := fun t s2 hg => got_lt hg
 unfold stmtP at h
 obtain ⟨⟨b1, q1⟩, h1⟩ : ∃ r, gotP s [118, 97, 114] = r := ⟨_, rfl⟩
 rw [h1] at h
 cases b1
 case true =>
  have := got_lt h1
  dsimp only at h
  obtain ⟨⟨t, s2⟩, h2⟩ : ∃ r, nameP q1 = r := ⟨_, rfl⟩
  obtain ⟨⟨y, s3⟩, h3⟩ : ∃ r, typP m s2 = r := ⟨_, rfl⟩
  rw [h2] at h; dsimp only at h; rw [h3] at h
  replace h := (Prod.mk.inj h).2
  try dsimp only at h
  subst h
  have := (dn_name h2).le
  have := (dn_typ h3).le
  omega
 dsimp only at h
 obtain ⟨⟨b2, q2⟩, h2⟩ : ∃ r, gotP s [105, 102] = r := ⟨_, rfl⟩
 rw [h2] at h
 cases b2
 case true =>
  have := got_lt h2
  dsimp only at h
  obtain ⟨⟨y, s3⟩, h3⟩ : ∃ r, headP E q2 = r := ⟨_, rfl⟩
  obtain ⟨⟨b, s4⟩, h4⟩ : ∃ r, blockP S m s3 = r := ⟨_, rfl⟩
  obtain ⟨⟨b5, s5⟩, h5⟩ : ∃ r, gotP s4 [101, 108, 115, 101] = r := ⟨_, rfl⟩
  rw [h3] at h; dsimp only at h; rw [h4] at h; dsimp only at h; rw [h5] at h
  have := (dn_head hE h3).le
  have := (dn_block hS h4).le
  have := (dn_got h5).le
  cases b5
  ·replace h := (Prod.mk.inj h).2
   try dsimp only at h
   subst h
   omega
  ·dsimp only at h
   obtain ⟨⟨c, s6⟩, h6⟩ : ∃ r, blockP S m s5 = r := ⟨_, rfl⟩
   rw [h6] at h
   replace h := (Prod.mk.inj h).2
   try dsimp only at h
   subst h
   have := (dn_block hS h6).le
   omega
 dsimp only at h
 obtain ⟨⟨b3, q3⟩, h3⟩ : ∃ r, gotP s [102, 111, 114] = r := ⟨_, rfl⟩
 rw [h3] at h
 cases b3
 case true =>
  have := got_lt h3
  dsimp only at h
  obtain ⟨⟨y, s4⟩, h4⟩ : ∃ r, headP E q3 = r := ⟨_, rfl⟩
  obtain ⟨⟨b, s5⟩, h5⟩ : ∃ r, blockP S m s4 = r := ⟨_, rfl⟩
  rw [h4] at h; dsimp only at h; rw [h5] at h
  replace h := (Prod.mk.inj h).2
  try dsimp only at h
  subst h
  have := (dn_head hE h4).le
  have := (dn_block hS h5).le
  omega
 dsimp only at h
 obtain ⟨⟨b4, q4⟩, h4⟩ : ∃ r, gotP s [115, 119, 105, 116, 99, 104] = r := ⟨_, rfl⟩
 rw [h4] at h
 cases b4
 case true =>
  have := got_lt h4
  dsimp only at h
  obtain ⟨⟨y, s5⟩, h5⟩ : ∃ r, headP E q4 = r := ⟨_, rfl⟩
  obtain ⟨⟨b, s6⟩, h6⟩ : ∃ r, casL S m m (wantP s5 [123]) = r := ⟨_, rfl⟩
  obtain ⟨⟨e, s7⟩, h7⟩ : ∃ r, elseP S m s6 = r := ⟨_, rfl⟩
  rw [h5] at h; dsimp only at h; rw [h6] at h; dsimp only at h; rw [h7] at h
  replace h := (Prod.mk.inj h).2
  try dsimp only at h
  subst h
  have := (dn_head hE h5).le
  have := (dn_want s5 [123]).le
  have := (dn_cas hS _ _ h6).le
  have := (dn_else hS h7).le
  have := (dn_want s7 [125]).le
  omega
 dsimp only at h
 obtain ⟨⟨b5, q5⟩, h5⟩ : ∃ r, gotP s [114, 101, 116, 117, 114, 110] = r := ⟨_, rfl⟩
 rw [h5] at h
 cases b5
 case true =>
  have := got_lt h5
  dsimp only at h
  obtain ⟨⟨y, s6⟩, h6⟩ : ∃ r, valsP E m q5 = r := ⟨_, rfl⟩
  rw [h6] at h
  replace h := (Prod.mk.inj h).2
  try dsimp only at h
  subst h
  have := (dn_vals hE m h6).le
  omega
 dsimp only at h
 exact set_lt hE hm h hp
def SOk (bs : List UInt8) (S : SP) (n : Nat) : Prop := (∀ s, mu s < n → PP bs 133 [] s (stV (S s).1) (S s).2) ∧ ∀ s, mu s < n → 0 < mu s → mu (S s).2 < mu s
set_option maxHeartbeats 4000000 in
theorem param_pp (bs : List UInt8) (h0 : True) (hl : bs.length ≤ 400000) (M : Nat) (s : Ps) (hM : mu s < M) : PP bs 59 [] s (paV (paramP M s).1) (paramP M s).2 := by
 intro c B T i hc hok
 obtain ⟨N, hn⟩ : ∃ N, B.length = N := ⟨_, rfl⟩
 have hi : c < N := by omega
 obtain ⟨K, hK⟩ : ∃ K, paramP M s = K := ⟨_, rfl⟩
 rw [hK]
 unfold paramP at hK
 refine b59.go 10 rfl fun hsm => ?_
 simp only [smw] at hsm
 simp only [W, seval, c59, hn, hi]
 obtain ⟨⟨tx, s1⟩, hg_s1⟩ : ∃ r, nameP s = r := ⟨_, rfl⟩
 have hp_s1 := name_pp bs h0 hl s
 rw [hg_s1] at hp_s1
 dsimp only at hp_s1
 first
  | refine PP.call0 hp_s1 hc hok fun hok1 => ?_
  | refine PP.call hp_s1 hc hok fun hok1 => ?_
 have hd1 := (dn_name hg_s1).le
 have htp := typ_pp bs h0 hl M s1 (by omega)
 obtain ⟨⟨y, s2⟩, hy⟩ : ∃ r, typP M s1 = r := ⟨_, rfl⟩
 rw [hg_s1] at hK
 dsimp only at hK
 rw [hy] at hK htp
 dsimp only at hK htp
 subst hK
 unfold tyV at htp
 refine ARun.go 20 ?_
 simp only [W, seval, c59, hn, hi]
 refine PP.call htp hc hok1 fun hok2 => ?_
 refine ARun.go 40 ?_
 simp only [W, seval, c59, hn, hi]
 refine retc (v := ?_) Tryz.func59 (by rfl) ?_ ?_
 rotate_left
 ·simp only [W, seval, c59, hn, hi]
  exact rfl
 refine PF.retJ (fun _ _ => rfl) ?_
 exact ⟨rfl, 0, hok2, rfl⟩
theorem st1 (x : StT) : rowsSz 10 [stD x] = true := rowsSz_st [x]
theorem rows10 (x : StT) : [D.int .i64 x.kind, .sl (ssD x.names), .int .i64 x.type.kind, .str x.type.name, .sl (x.type.elem.map tyD), .sl (x.lefts.map exD), .sl (x.exprs.map exD), .sl (x.body.map stD), .sl (x.els.map stD), .sl (x.cases.map caD)] = stD x := (stD_eq x).symm
set_option maxHeartbeats 4000000 in
theorem stmts_pp (bs : List UInt8) (hl : bs.length ≤ 400000) {S : SP} {n : Nat} (hS : SOk bs S n) (M : Nat) (s : Ps) (hn1 : mu s < n) (hM : mu s < M) :
 PP bs 98 [] s (.d (.sl ((stmtsL S M s).1.map stD))) (stmtsL S M s).2 := by
 intro c B T i hc hok
 obtain ⟨N, hn⟩ : ∃ N, B.length = N := ⟨_, rfl⟩
 obtain ⟨t, ht⟩ : ∃ t, T.length = t := ⟨_, rfl⟩
 have hi : c < N := by omega
 have hmu := hok.mu_le
 obtain ⟨⟨l0, s0⟩, hL⟩ : ∃ r, stmtsL S M s = r := ⟨_, rfl⟩
 rw [hL]
 dsimp only
 refine b98.go 14 rfl fun hsm => ?_
 simp only [smw] at hsm
 simp only [W, seval, c98, hn, hi]
 refine ARun.token 3 [] (by rfl) 10 (by omega) rfl ?_
 simp only [envS_put, ht]
 refine ARun.after [_, _] _ (fun _ : Unit => (envS 30 [(0, .ptr c 0), (3, .sl (l0.map stD) (.own t))], ⟨B.set c (bxP bs s0), T ++ [(l0.length, 10)]⟩)) (fun _ => OkP bs s0) ?_ ?_
 ·rintro ⟨⟩ hok0
  refine ARun.go 20 ?_
  simp only [W, seval, c98]
  refine ARun.ret Tryz.func98 rfl (PF.retK (fun _ _ => rfl) ?_)
  refine ⟨?_, 0, hok0, rfl⟩
  simp only [W, seval, c98, wk, ht]
  simp
 intro K' hend
 refine ARun.loopW (fun a : List StT × Ps => (envS 30 [(0, .ptr c 0), (3, .sl (a.1.map stD) (.own t))], ⟨B.set c (bxP bs a.2), T ++ [(a.1.length, 10)]⟩)) (fun a => OkP bs a.2 ∧ mu a.2 < n ∧ a.1.length + mu a.2 ≤ mu s ∧ ∃ m, mu a.2 < m ∧ (a.1 ++ (stmtsL S m a.2).1, (stmtsL S m a.2).2) = (l0, s0)) (fun a => mu a.2) ([], s) ⟨hok, hn1, by simp, M, hM, by dsimp only; rw [hL, List.nil_append]⟩ ?_ rfl ?_
 ·skip
  refine Agree.env _ ?_
  simp only [agw, seval, hn]
  trivial
 rintro ⟨l, s1⟩ ⟨hok1, hn2, hle, m, hm, hr⟩ ih
 dsimp only at hok1 hn2 hle hm hr ih ⊢
 cases m with
 | zero => omega
 | succ m =>
 rw [stmtsL] at hr
 by_cases he : s1.e = 0
 case neg =>
  have e1 := decide_eq_false he
  rw [if_neg (fun h => he h.1)] at hr
  dsimp only at hr
  rw [List.append_nil] at hr
  obtain ⟨rfl, rfl⟩ := Prod.mk.inj hr
  refine ARun.goK (k := [_, _, _]) 80 ?_
  simp only [W, seval, c98, hn, hi, bxP, e1]
  refine hend () hok1 _ _ ?_ rfl
  refine Agree.env _ ?_
  simp only [agw, seval, hn]
 have e1 := decide_eq_true he
 refine ARun.goK (k := [_, _, _]) 80 ?_
 simp only [W, seval, c98, hn, hi, bxP, e1]
 refine PP.call0 (is_pp bs s1 [125]) hc hok1 fun _ => ?_
 cases q1 : isP s1 [125]
 case' true =>
  rw [if_neg (fun h => by rw [q1] at h; exact absurd h.2.1 (by decide))] at hr
  dsimp only at hr
  rw [List.append_nil] at hr
  obtain ⟨rfl, rfl⟩ := Prod.mk.inj hr
  refine ARun.goK 80 ?_
  simp only [W, seval, c98, hn, hi]
  refine hend () hok1 _ _ ?_ rfl
  refine Agree.env _ ?_
  simp only [agw, seval, hn]
 case' false =>
  refine ARun.goK 80 ?_
  simp only [W, seval, c98, hn, hi]
  refine PP.call0 (is_pp bs s1 [99, 97, 115, 101]) hc hok1 fun _ => ?_
  cases q2 : isP s1 [99, 97, 115, 101]
  case' true =>
   rw [if_neg (fun h => by rw [q2] at h; exact absurd h.2.2.1 (by decide))] at hr
   dsimp only at hr
   rw [List.append_nil] at hr
   obtain ⟨rfl, rfl⟩ := Prod.mk.inj hr
   refine ARun.goK 80 ?_
   simp only [W, seval, c98, hn, hi]
   refine hend () hok1 _ _ ?_ rfl
   refine Agree.env _ ?_
   simp only [agw, seval, hn]
  case' false =>
   refine ARun.goK 80 ?_
   simp only [W, seval, c98, hn, hi]
   refine PP.call0 (is_pp bs s1 [100, 101, 102, 97, 117, 108, 116]) hc hok1 fun _ => ?_
   cases q3 : isP s1 [100, 101, 102, 97, 117, 108, 116]
   case' true =>
    rw [if_neg (fun h => by rw [q3] at h; exact absurd h.2.2.2 (by decide))] at hr
    dsimp only at hr
    rw [List.append_nil] at hr
    obtain ⟨rfl, rfl⟩ := Prod.mk.inj hr
    refine ARun.goK 80 ?_
    simp only [W, seval, c98, hn, hi]
    refine hend () hok1 _ _ ?_ rfl
    refine Agree.env _ ?_
    simp only [agw, seval, hn]
   case' false =>
    rw [if_pos ⟨he, q1, q2, q3⟩] at hr
    have hmp : 0 < mu s1 := by rw [mu_live he, (hok1 he).2.2]; simp
    obtain ⟨⟨x, s2⟩, hx⟩ : ∃ r, S s1 = r := ⟨_, rfl⟩
    have hpx := hS.1 s1 hn2
    have hlx := hS.2 s1 hn2 hmp
    rw [hx] at hpx hr hlx
    dsimp only at hpx hr hlx
    refine ARun.goK 80 ?_
    simp only [W, seval, c98, hn, hi]
    refine PP.call0 hpx hc hok1 fun hok2 => ?_
    have hcap : (l.length + 1) * 200 ≤ 140737488355328 := by omega
    have hmap : l.map stD ++ [stD x] = (l ++ [x]).map stD := by simp
    have hlen : (l ++ [x]).length = l.length + 1 := by simp
    unfold stV
    refine ARun.goK 60 ?_
    simp only [W, seval, c98, hn, hi, ht, mapD_nil, mapD_cons, Nat.reduceMul, rows10, hcap, hmap, st1]
    refine ih (l ++ [x], s2) ⟨hok2, by dsimp only; omega, by dsimp only; omega, m, by dsimp only; omega, ?_⟩ (by dsimp only; omega) _ _ ?_ (by dsimp only; rw [hlen])
    ·dsimp only
     rw [← hr]
     simp
    ·skip
     refine Agree.env _ ?_
     simp only [agw, seval, hn]
theorem block_pp (bs : List UInt8) (h0 : True) (hl : bs.length ≤ 400000) {S : SP} {n : Nat} (hS : SOk bs S n) (M : Nat) (s : Ps) (hn1 : mu s < n) (hM : mu s < M) :
 PP bs 61 [] s (.d (.sl ((blockP S M s).1.map stD))) (blockP S M s).2 := by
 intro c B T i hc hok
 obtain ⟨K, hK⟩ : ∃ K, blockP S M s = K := ⟨_, rfl⟩
 rw [hK]
 unfold blockP at hK
 have hd := (dn_want s [123]).le
 have hsp := stmts_pp bs hl hS M (wantP s [123]) (by omega) (by omega)
 obtain ⟨⟨l, s1⟩, hL⟩ : ∃ r, stmtsL S M (wantP s [123]) = r := ⟨_, rfl⟩
 rw [hL] at hK hsp
 dsimp only at hK hsp
 subst hK
 refine b61.go 20 rfl fun hsm => ?_
 simp only [smw] at hsm
 simp only [W, seval, c61]
 first
  | refine PP.call0 (want_pp bs h0 hl s [123]) hc hok fun hok1 => ?_
  | refine PP.call (want_pp bs h0 hl s [123]) hc hok fun hok1 => ?_
 refine ARun.go 20 ?_
 simp only [W, seval, c61]
 refine PP.call0 hsp hc hok1 fun hok2 => ?_
 refine ARun.go 20 ?_
 simp only [W, seval, c61]
 first
  | refine PP.call0 (want_pp bs h0 hl s1 [125]) hc hok2 fun hok3 => ?_
  | refine PP.call (want_pp bs h0 hl s1 [125]) hc hok2 fun hok3 => ?_
 refine ARun.go 20 ?_
 simp only [W, seval, c61]
 refine ARun.ret Tryz.func61 rfl (PF.ret0 (fun _ _ => rfl) ?_)
 exact ⟨rfl, 0, hok3, rfl⟩
def c154 := by
 have c := KK_of Tryz.f154 (by conv => lhs; cbv)
 dsimp only [KK, KxP, doO, opO, List.map_cons, List.map_nil, List.toList_toArray] at c
 exact c
theorem b154 : FnIs Tryz.prog 154 Tryz.f154 32 := ⟨Tryz.func154, by kernel_rfl⟩
theorem fits_pf2 {B J : List (List V)} {T K : List (Nat × Nat)} {c : Nat} {x y : List V} (hf : Fits ⟨B.set c x, T⟩) (hy : ∀ n m, y.all (fit n m) = true) (hJ : ∀ vs ∈ J, vs.all (fit (B.set c y ++ J).length (T ++ K).length) = true) : Fits ⟨B.set c y ++ J, T ++ K⟩ := by
 have h1 := Fits.set hf (i := c) (hy (B.set c x).length T.length)
 rw [List.set_set] at h1
 exact h1.more hJ
theorem ARun_split {P : Program} {I : Inv} {z : Nat × Nat} {fn : FuncId} {R : V → Mem → Prop} {k : List Item} {env : List V} {L J J2 : List (List V)} {T : List (Nat × Nat)} (h : ARun P I z fn k env ⟨(L ++ J) ++ J2, T ++ []⟩ R) : ARun P I z fn k env ⟨L ++ (J ++ J2), T⟩ R := by
 rwa [List.append_nil, List.append_assoc] at h
def ze10 : List V := [.d (.int .i64 0), .sl [] .full, .d (.int .i64 0), .d (.str []), .sl [] .full, .sl [] .full, .sl [] .full, .sl [] .full, .sl [] .full, .sl [] .full]
def setL (l : List ExT) (t : Nat) : List V := [.d (.int .i64 2), .sl [] .full, .d (.int .i64 0), .d (.str []), .sl [] .full, .sl (l.map exD) (.own t), .sl [] .full, .sl [] .full, .sl [] .full, .sl [] .full]
set_option maxHeartbeats 8000000 in
theorem set_pp (bs : List UInt8) (h0 : True) (hl : bs.length ≤ 400000) {E : EP} {n : Nat} (hE : EOk bs E n) (hd : DnE E) (m : Nat) (hnm : n ≤ m) (s : Ps) (hs : mu s < n) :
 PP bs 154 [] s (stV (setP E m s).1) (setP E m s).2 := by
 intro c B T i hc hok
 obtain ⟨N, hn⟩ : ∃ N, B.length = N := ⟨_, rfl⟩
 obtain ⟨t, ht⟩ : ∃ t, T.length = t := ⟨_, rfl⟩
 have hi : c < N := by omega
 have hi2 : c < N + 2 := by omega
 have hN1 : N < N + 2 := by omega
 have hN2 : N + 1 < N + 2 := by omega
 have ht1 : t < t + 1 := by omega
 have hmu := hok.mu_le
 obtain ⟨K, hK⟩ : ∃ K, setP E m s = K := ⟨_, rfl⟩
 rw [hK]
 unfold setP at hK
 obtain ⟨⟨l0, s0⟩, hL⟩ : ∃ r, leftL m m s = r := ⟨_, rfl⟩
 rw [hL] at hK
 dsimp only at hK
 refine b154.go 0 rfl fun hsm => ?_
 simp only [smw] at hsm
 simp only [W, seval, c154, hn, hi]
 refine ARun.fits fun hf => ?_
 refine ARun.go 14 ?_
 simp only [W, seval, c154, hn, hi]
 refine ARun.tokenB (N + 1) 5 _ [] (by rw [bx_loc (by simpa using hn)]; rfl) (by rfl) 8 (by omega) rfl ?_
 rw [bx_set_loc (by simpa using hn)]
 change ARun _ _ _ _ _ _ ⟨B.set c (bxP bs s) ++ [ze10, setL [] T.length], T ++ [(0, 8)]⟩ _
 rw [ht]
 refine ARun.go 5 ?_
 simp only [W, seval, c154]
 refine ARun.after [_, _] _ (fun _ : Unit => (envS 32 [(0, .ptr c 0), (2, .ptr N 0), (3, .ptr (N + 1) 0)], ⟨B.set c (bxP bs s0) ++ [ze10, setL l0 t], T ++ [(l0.length, 8)]⟩)) (fun _ => OkP bs s0 ∧ mu s0 ≤ mu s) ?_ ?_
 ·rintro ⟨⟩ ⟨hok0, hm0⟩
  have hd1 := (dn_want s0 [61]).le
  have hvp := values_pp bs h0 hl hE hd m (wantP s0 [61]) (by omega) (by omega)
  obtain ⟨⟨v, s1⟩, hV⟩ : ∃ r, valsP E m (wantP s0 [61]) = r := ⟨_, rfl⟩
  rw [hV] at hK hvp
  dsimp only at hK hvp
  subst hK
  refine ARun.go 20 ?_
  simp only [W, seval, c154]
  first
   | refine PP.call0 (want_pp bs h0 hl s0 [61]) hc hok0 fun hok1 => ?_
   | refine PP.call (want_pp bs h0 hl s0 [61]) hc hok0 fun hok1 => ?_
  refine ARun.go 20 ?_
  simp only [W, seval, c154]
  refine PP.call hvp hc hok1 fun hok2 => ?_
  refine ARun.go 40 ?_
  simp only [W, seval, c154, hn, hi, setL, ze10]
  refine retc (v := ?_) Tryz.func154 (by rfl) ?_ ?_
  rotate_left
  ·simp only [W, seval, c154, hn, hi]
   exact rfl
  refine PF.ret (fun _ _ => rfl) ?_
  refine ⟨?_, 0, hok2, rfl⟩
  simp only [W, seval, c154, wk, wkL, stV, List.length_set, ht, Nat.lt_irrefl]
  rfl
 intro K' hend
 refine ARun.loopA (fun a : List ExT × Bool × Ps => (envS 32 [(0, .ptr c 0), (2, .ptr N 0), (3, .ptr (N + 1) 0), (4, .d (.bool a.2.1))], ⟨B.set c (bxP bs a.2.2) ++ [ze10, setL a.1 t], T ++ [(a.1.length, 8)]⟩)) (fun a => OkP bs a.2.2 ∧ mu a.2.2 ≤ mu s ∧ (a.2.1 = true → a.1.length + mu a.2.2 ≤ mu s ∧ ∃ k, mu a.2.2 < k ∧ (a.1 ++ (leftL m k a.2.2).1, (leftL m k a.2.2).2) = (l0, s0)) ∧ (a.2.1 = false → (a.1, a.2.2) = (l0, s0))) (fun a => if a.2.1 = true then mu a.2.2 + 1 else 0) ([], true, s) ⟨hok, Nat.le_refl _, fun _ => ⟨by simp, m, by dsimp only; omega, by dsimp only; rw [hL, List.nil_append]⟩, fun h => absurd h (by simp)⟩ ?_ rfl ?_
 ·skip
  refine Agree.env _ ?_
  simp only [agw, seval, hn]
 rintro ⟨l, b, s1⟩ ⟨hok1, hn2, hy, hno⟩ ih0
 dsimp only at hok1 hn2 hy hno ih0 ⊢
 cases b
 case' false =>
  obtain ⟨rfl, rfl⟩ := Prod.mk.inj (hno rfl)
  refine ARun.goK (k := [_, _, _]) 20 ?_
  simp only [W, seval, c154, hn, hi]
  refine hend () ⟨hok1, hn2⟩ _ _ ?_ rfl
  refine Agree.env _ ?_
  simp only [agw, seval, hn]
 case' true =>
  obtain ⟨hle, k, hk, hr⟩ := hy rfl
  cases k with
  | zero => omega
  | succ k =>
  rw [leftL] at hr
  refine ARun.goK (k := [_, _, _]) 20 ?_
  simp only [W, seval, c154, hn, hi]
  obtain ⟨⟨tx, s2⟩, hg_s2⟩ : ∃ r, nameP s1 = r := ⟨_, rfl⟩
  have hp_s2 := name_pp bs h0 hl s1
  rw [hg_s2] at hp_s2
  dsimp only at hp_s2
  first
   | refine PP.call0 hp_s2 hc hok1 fun hok2 => ?_
   | refine PP.call hp_s2 hc hok1 fun hok2 => ?_
  have hd2 := (dn_name hg_s2).le
  rw [hg_s2] at hr
  dsimp only at hr
  refine ARun.goK 20 ?_
  simp only [W, seval, c154, hn, hi]
  refine ARun.plainJ 2 _ (exL (.mk 1 tx 0 noT [] [])) (by rfl) (.same (.same (.same (.same (.same (.sl (.sl (.sl .nil)))))))) ?_
  obtain ⟨⟨y0, s3⟩, hY⟩ : ∃ r, dotL m (.mk 1 tx 0 noT [] []) s2 = r := ⟨_, rfl⟩
  rw [hY] at hr
  dsimp only at hr
  have hd3 := (dn_dot m hY).le
  refine ARun.after [_, _] _ (fun _ : Unit => (envS 32 [(0, .ptr c 0), (2, .ptr N 0), (3, .ptr (N + 1) 0), (5, .ptr (N + 2) 0)], ⟨B.set c (bxP bs s3) ++ [ze10, setL l t, exL y0], T ++ [(l.length, 8)]⟩)) (fun _ => OkP bs s3) ?_ ?_
  case' refine_2 =>
   intro K2 hend2
   refine ARun.loopW (fun a : ExT × Ps => (envS 32 [(0, .ptr c 0), (2, .ptr N 0), (3, .ptr (N + 1) 0), (5, .ptr (N + 2) 0)], ⟨B.set c (bxP bs a.2) ++ [ze10, setL l t, exL a.1], T ++ [(l.length, 8)]⟩)) (fun a => OkP bs a.2 ∧ ∃ q, mu a.2 < q ∧ dotL q a.1 a.2 = (y0, s3)) (fun a => mu a.2) (.mk 1 tx 0 noT [] [], s2) ⟨hok2, m, by dsimp only; omega, hY⟩ ?_ rfl ?_
   ·skip
    refine Agree.env _ ?_
    simp only [agw, seval, hn]
   rintro ⟨x, s4⟩ ⟨hok4, q, hq, hr4⟩ ih
   dsimp only at hok4 hq hr4 ih ⊢
   cases q with
   | zero => omega
   | succ q =>
   rw [dotL] at hr4
   refine ARun.goK (k := [_, _, _]) 20 ?_
   simp only [W, seval, c154, hn, hi]
   obtain ⟨⟨b, s5⟩, hg_s5⟩ : ∃ r, gotP s4 [46] = r := ⟨_, rfl⟩
   have hp_s5 := got_pp bs h0 hl s4 [46]
   rw [hg_s5] at hp_s5
   dsimp only at hp_s5
   first
    | refine PP.call0 hp_s5 hc hok4 fun hok5 => ?_
    | refine PP.call hp_s5 hc hok4 fun hok5 => ?_
   rw [hg_s5] at hr4
   cases b
   case' false =>
    dsimp only at hr4
    obtain ⟨rfl, rfl⟩ := Prod.mk.inj hr4
    refine ARun.goK 20 ?_
    simp only [W, seval, c154, hn, hi]
    refine hend2 () hok5 _ _ ?_ rfl
    refine Agree.env _ ?_
    simp only [agw, seval, hn]
   case' true =>
    have hlt := got_lt hg_s5
    dsimp only at hr4
    obtain ⟨⟨ty, s6⟩, hnm6⟩ : ∃ r, nameP s5 = r := ⟨_, rfl⟩
    have hpn := name_pp bs h0 hl s5
    have hdn := (dn_name hnm6).le
    rw [hnm6] at hpn hr4
    dsimp only at hpn hr4
    refine ARun.goK 5 ?_
    simp only [W, seval, c154, hn, hi]
    refine PP.wit hpn hc hok5 (ha0 (by rfl)) fun hok6 => ?_
    refine ARun.drawE 5 [1, 5] (fun S => S.boxes[N + 2]? = some (exL x)) (by kernel_rfl) (by kernel_rfl) (by kernel_rfl) (by kernel_rfl) (by kernel_rfl) ?_
    simp only [W, seval, c154]
    refine lexC_q (v := ?_) (by rfl) (by kernel_rfl) (fun S hS => ?_) ?_
    rotate_left
    ·simp only [W, seval, c154]
     exact rfl
    simp only [W, seval, c154]
    refine PP.lexc (hpn) hc hok5 hok6 ?_ (by rfl) (by kernel_rfl) ?_ ?_
    ·first | trivial | simp [bx_loc, bx_loc0, hn]
    ·simp only [W, seval, c154]
     exact ⟨_, _, rfl, rfl, by rfl, by simp only [W, seval, c154]⟩
    simp only [W, seval, c154]
    refine lexC_q (v := ?_) (by rfl) (by kernel_rfl) (fun S hS => ?_) ?_
    rotate_left
    ·try dsimp only at hS
     simp only [W, seval, c154, hS, exL]
     exact rfl
    simp only [W, seval, c154]
    refine lexC_q (v := ?_) (by rfl) (by kernel_rfl) (fun S hS => ?_) ?_
    rotate_left
    ·simp only [W, seval, c154, mapD_nil, mapD_cons, Nat.reduceMul, rows8]
     exact rfl
    simp only [W, seval, c154]
    refine lexC_q (v := ?_) (by rfl) (by kernel_rfl) (fun S hS => ?_) ?_
    rotate_left
    ·simp only [W, seval, c154]
     exact rfl
    simp only [W, seval, c154]
    refine lexC_end (by simp [bx_loc, hn]) ?_
    refine lexC_w (v := ?_) (S' := ?_) ?_ (by rfl) (by kernel_rfl) ?_ ?_
    rotate_left 2
    ·first | trivial | simp [bx_loc, bx_loc0, hn, exL]
    ·simp only [W, seval, c154, hn, exL]
     exact rfl
    simp only [W, seval, c154]
    refine lexC_end trivial ?_
    refine ARun.plainJ 2 _ (exL (.mk 9 ty 0 noT [] [x])) (by rfl) (.same (.same (.same (.same (.same (.sl (.sl (.sl .nil)))))))) ?_
    refine ARun.goK (k := [_, _]) 5 ?_
    simp only [W, seval, c154]
    refine ih (.mk 9 ty 0 noT [] [x], s6) ⟨hok6, q, by dsimp only; omega, hr4⟩ (by dsimp only; omega) _ _ ?_ rfl
    refine Agree.env _ ?_
    simp only [agw, seval, hn]
  rintro ⟨⟩ hok3
  have hcap : (l.length + 1) * 128 ≤ 140737488355328 := by omega
  have hmap : l.map exD ++ [exD y0] = (l ++ [y0]).map exD := by simp
  have hlen : (l ++ [y0]).length = l.length + 1 := by simp
  refine ARun.goK (k := [_, _, _, _, _]) 40 ?_
  simp only [W, seval, c154, hn, hi, ht, setL, exL, mapD_nil, mapD_cons, Nat.reduceMul, rows8, hcap, hmap, ex1]
  obtain ⟨⟨b, s5⟩, hg_s5⟩ : ∃ r, gotP s3 [44] = r := ⟨_, rfl⟩
  have hp_s5 := got_pp bs h0 hl s3 [44]
  rw [hg_s5] at hp_s5
  dsimp only at hp_s5
  first
   | refine PP.call0 hp_s5 hc hok3 fun hok5 => ?_
   | refine PP.call hp_s5 hc hok3 fun hok5 => ?_
  rw [hg_s5] at hr
  have hd5 := (dn_got hg_s5).le
  have hfit : ∀ b5 : Ps, Fits ⟨B.set c (bxP bs b5) ++ [ze10, setL (l ++ [y0]) t], T ++ [((l ++ [y0]).length, 8)]⟩ := fun b5 => fits_pf2 hf (fun _ _ => rfl) (by
   intro vs hvs
   simp only [List.mem_cons, List.not_mem_nil, or_false] at hvs
   rcases hvs with rfl | rfl
   ·rfl
   ·simp [setL, fit, ht])
  cases b
  case' false =>
   dsimp only at hr
   obtain ⟨hr1, hr2⟩ := Prod.mk.inj hr
   refine ARun.goK 20 ?_
   simp only [W, seval, c154, hn, hi]
   refine ARun_split (J := [_, _]) (J2 := [_]) ?_
   refine ih0 (l ++ [y0], false, s5) ⟨hok5, by dsimp only; omega, fun h => absurd h (by simp), fun _ => by rw [hr1, hr2]⟩ (by simp) _ _ _ _ _ (by dsimp only; rw [hlen]; rfl) ⟨by simp; omega, by simp; omega⟩ (by rw [← hlen]; exact hfit s5) ?_
   refine AgreeF.env _ ?_
   simp only [agf, seval, hn, ht, hi2, hN1, hN2, ht1, List.length_append, List.length_cons, List.length_nil, Nat.zero_add]
  case' true =>
   have hlt := got_lt hg_s5
   dsimp only at hr
   refine ARun.goK 20 ?_
   simp only [W, seval, c154, hn, hi]
   refine ARun_split (J := [_, _]) (J2 := [_]) ?_
   refine ih0 (l ++ [y0], true, s5) ⟨hok5, by dsimp only; omega, fun _ => ⟨by dsimp only; omega, k, by dsimp only; omega, by rw [← hr]; simp⟩, fun h => absurd h (by simp)⟩ (by simp; omega) _ _ _ _ _ (by dsimp only; rw [hlen]; rfl) ⟨by simp; omega, by simp; omega⟩ (by rw [← hlen]; exact hfit s5) ?_
   refine AgreeF.env _ ?_
   simp only [agf, seval, hn, ht, hi2, hN1, hN2, ht1, List.length_append, List.length_cons, List.length_nil, Nat.zero_add]
def c152 := by
 have c := KK_of Tryz.f152 (by conv => lhs; cbv)
 dsimp only [KK, KxP, doO, opO, List.map_cons, List.map_nil, List.toList_toArray] at c
 exact c
theorem b152 : FnIs Tryz.prog 152 Tryz.f152 38 := ⟨Tryz.func152, by kernel_rfl⟩
theorem PF.ret2K {B : List (List V)} {T K : List (Nat × Nat)} {c : Nat} {x y Z X0 X1 : List V} {R : V → Mem → Prop} {v : V} (hc : c < B.length) (hy : ∀ n m, y.all (fit n m) = true) (hX : ∀ n m, X1.all (fit n m) = true) (h : R (wk (B.set c x ++ [Z, X0]).length T.length v) ⟨B.set c y ++ [Z, X1], T⟩) : Ab.Left ⟨B.set c x ++ [Z, X0], T⟩ R v ⟨B.set c y ++ [Z, X1], T ++ K⟩ := by
 have h1 := ((FitL.refl (B.set c x ++ [Z, X0]).length T.length (B.set c x ++ [Z, X0])).set c (hy _ _)).set (B.length + 1) (hX _ _)
 rw [List.set_append_left _ _ (by simpa using hc), List.set_set, List.set_append_right _ _ (by simp)] at h1
 have e : [Z, X0].set (B.length + 1 - (B.set c y).length) X1 = [Z, X1] := by
  rw [List.length_set, Nat.add_sub_cancel_left]
  rfl
 rw [e] at h1
 have := Ab.Left.of (B := B.set c x ++ [Z, X0]) (J := []) (K := K) (R := R) (v := v) (by simp) rfl h1 h
 rwa [List.append_nil] at this
theorem fits_Z {B : List (List V)} {T K : List (Nat × Nat)} {c : Nat} {x y Z X0 X1 : List V} (hf : Fits ⟨B.set c x ++ [Z, X0], T⟩) (hc : c < B.length) (hy : ∀ n m, y.all (fit n m) = true) (hX : X1.all (fit (B.length + 2) (T ++ K).length) = true) : Fits ⟨B.set c y ++ [Z, X1], T ++ K⟩ := by
 have h1 := Fits.set hf (i := c) (hy (B.set c x ++ [Z, X0]).length T.length)
 rw [List.set_append_left _ _ (by simpa using hc), List.set_set] at h1
 have h2 := h1.more (X := []) (Y := K) (fun vs hvs => absurd hvs List.not_mem_nil)
 rw [List.append_nil] at h2
 have h3 := Fits.set h2 (i := B.length + 1) (vs := X1) (by simpa using hX)
 rw [List.set_append_right _ _ (by simp), List.length_set, Nat.add_sub_cancel_left] at h3
 exact h3
def stL (s : StT) : List V := [.d (.int .i64 s.kind), .d (.sl (ssD s.names)), .d (.int .i64 s.type.kind), .d (.str s.type.name), .d (.sl (s.type.elem.map tyD)), .d (.sl (s.lefts.map exD)), .d (.sl (s.exprs.map exD)), .d (.sl (s.body.map stD)), .d (.sl (s.els.map stD)), .d (.sl (s.cases.map caD))]
def swL (x : ExT) : List V := [.d (.int .i64 5), .sl [] .full, .d (.int .i64 0), .d (.str []), .sl [] .full, .sl [] .full, .d (.sl [exD x]), .sl [] .full, .sl [] .full, .sl [] .full]
def swT (x : ExT) (l : List CaT) (t : Nat) : List V := [.d (.int .i64 5), .sl [] .full, .d (.int .i64 0), .d (.str []), .sl [] .full, .sl [] .full, .d (.sl [exD x]), .sl [] .full, .sl [] .full, .sl (l.map caD) (.own t)]
theorem rows2 (i : Int) (b : List StT) : [D.int .u64 i, .sl (b.map stD)] = caD (.mk i b) := (caD_eq (.mk i b)).symm
theorem ca1 (x : CaT) : rowsSz 2 [caD x] = true := rowsSz_ca [x]
set_option maxHeartbeats 8000000 in
theorem cases_ab (bs : List UInt8) (h0 : True) (hl : bs.length ≤ 400000) {S : SP} {n : Nat} (hS : SOk bs S n) (hdS : DnE S) (M : Nat) (s : Ps) (hn1 : mu s < n) (hM : mu s < M) (x : ExT) (Z : List V) (c : Nat) (B : List (List V)) (T : List (Nat × Nat)) (hc : c < B.length) (hok : OkP bs s)
 (cs : List CaT) (s2 : Ps) (els : List StT) (s3 : Ps) (hC : casL S M M (wantP s [123]) = (cs, s2)) (hEl : elseP S M s2 = (els, s3)) :
 AFn Tryz.prog TabI 152 [.ptr c 0, .ptr (B.length + 1) 0] ⟨B.set c (bxP bs s) ++ [Z, swL x], T⟩ fun v m => v = .tup [] ∧ OkP bs (wantP s3 [125]) ∧ m = ⟨B.set c (bxP bs (wantP s3 [125])) ++ [Z, stL (.mk 5 [] noT [] [x] [] els cs)], T⟩ := by
 obtain ⟨N, hn⟩ : ∃ N, B.length = N := ⟨_, rfl⟩
 obtain ⟨t, ht⟩ : ∃ t, T.length = t := ⟨_, rfl⟩
 have hi : c < N := by omega
 have hi2 : c < N + 2 := by omega
 have hN1 : N < N + 2 := by omega
 have hN2 : N + 1 < N + 2 := by omega
 have ht1 : t < t + 1 := by omega
 have hmu := hok.mu_le
 have hd1 := (dn_want s [123]).le
 rw [hn]
 refine b152.go 0 rfl fun hsm => ?_
 simp only [smw] at hsm
 simp only [W, seval, c152, hn, hi]
 refine ARun.fits fun hf => ?_
 refine ARun.go 14 ?_
 simp only [W, seval, c152, hn, hi]
 refine PP.call (want_pp bs h0 hl s [123]) hc hok fun hok1 => ?_
 refine ARun.go 2 ?_
 simp only [W, seval, c152]
 refine ARun.tokenB (N + 1) 9 _ [] (by rw [bx_loc (by simpa using hn)]; rfl) (by rfl) 2 (by omega) rfl ?_
 rw [bx_set_loc (by simpa using hn)]
 change ARun _ _ _ _ _ _ ⟨B.set c (bxP bs (wantP s [123])) ++ [Z, swT x [] T.length], T ++ [(0, 2)]⟩ _
 rw [ht]
 refine ARun.go 5 ?_
 simp only [W, seval, c152]
 have hfit : ∀ (b5 : Ps) (l : List CaT), Fits ⟨B.set c (bxP bs b5) ++ [Z, swT x l t], T ++ [(l.length, 2)]⟩ := fun b5 l => fits_Z hf hc (fun _ _ => rfl) (by simp [swT, fit, ht])
 refine ARun.after [_, _] _ (fun _ : Unit => (envS 38 [(0, .ptr c 0), (1, .ptr (N + 1) 0)], ⟨B.set c (bxP bs s2) ++ [Z, swT x cs t], T ++ [(cs.length, 2)]⟩)) (fun _ => OkP bs s2 ∧ mu s2 ≤ mu s) ?_ ?_
 ·rintro ⟨⟩ ⟨hok2, hm2⟩
  unfold elseP at hEl
  refine ARun.go 20 ?_
  simp only [W, seval, c152]
  obtain ⟨⟨b, s4⟩, hg_s4⟩ : ∃ r, gotP s2 [100, 101, 102, 97, 117, 108, 116] = r := ⟨_, rfl⟩
  have hp_s4 := got_pp bs h0 hl s2 [100, 101, 102, 97, 117, 108, 116]
  rw [hg_s4] at hp_s4
  dsimp only at hp_s4
  first
   | refine PP.call0 hp_s4 hc hok2 fun hok4 => ?_
   | refine PP.call hp_s4 hc hok2 fun hok4 => ?_
  rw [hg_s4] at hEl
  have hd4 := (dn_got hg_s4).le
  cases b
  case' false =>
   dsimp only at hEl
   obtain ⟨rfl, rfl⟩ := Prod.mk.inj hEl
   refine ARun.go 20 ?_
   simp only [W, seval, c152]
   first
    | refine PP.call0 (want_pp bs h0 hl s4 [125]) hc hok4 fun hok5 => ?_
    | refine PP.call (want_pp bs h0 hl s4 [125]) hc hok4 fun hok5 => ?_
   refine ARun.plainJ 1 _ (stL (.mk 5 [] noT [] [x] [] [] cs)) (by rfl) (.same (.sl (.same (.same (.sl (.sl (.same (.sl (.sl (.sl .nil)))))))))) ?_
   refine ARun.go 20 ?_
   simp only [W, seval, c152]
   refine ARun.fin Tryz.func152 rfl (PF.ret2K hc (fun _ _ => rfl) (fun _ _ => rfl) ?_)
   exact ⟨rfl, hok5, rfl⟩
  case' true =>
   dsimp only at hEl
   have hdw := (dn_want s4 [58]).le
   have hsp := stmts_pp bs hl hS M (wantP s4 [58]) (by omega) (by omega)
   rw [hEl] at hsp
   dsimp only at hsp
   refine ARun.go 20 ?_
   simp only [W, seval, c152]
   first
    | refine PP.call0 (want_pp bs h0 hl s4 [58]) hc hok4 fun hok5 => ?_
    | refine PP.call (want_pp bs h0 hl s4 [58]) hc hok4 fun hok5 => ?_
   refine ARun.go 20 ?_
   simp only [W, seval, c152]
   refine PP.call hsp hc hok5 fun hok6 => ?_
   refine ARun.go 20 ?_
   simp only [W, seval, c152, hn, hi, swT]
   first
    | refine PP.call0 (want_pp bs h0 hl s3 [125]) hc hok6 fun hok7 => ?_
    | refine PP.call (want_pp bs h0 hl s3 [125]) hc hok6 fun hok7 => ?_
   refine ARun.plainJ 1 _ (stL (.mk 5 [] noT [] [x] [] els cs)) (by rfl) (.same (.sl (.same (.same (.sl (.sl (.same (.sl (.same (.sl .nil)))))))))) ?_
   refine ARun.go 20 ?_
   simp only [W, seval, c152]
   refine ARun.fin Tryz.func152 rfl (PF.ret2K hc (fun _ _ => rfl) (fun _ _ => rfl) ?_)
   exact ⟨rfl, hok7, rfl⟩
 intro K' hend
 refine ARun.loopA (fun a : List CaT × Ps => (envS 38 [(0, .ptr c 0), (1, .ptr (N + 1) 0)], ⟨B.set c (bxP bs a.2) ++ [Z, swT x a.1 t], T ++ [(a.1.length, 2)]⟩)) (fun a => OkP bs a.2 ∧ a.1.length + mu a.2 ≤ mu s ∧ ∃ q, mu a.2 < q ∧ (a.1 ++ (casL S M q a.2).1, (casL S M q a.2).2) = (cs, s2)) (fun a => mu a.2) ([], wantP s [123]) ⟨hok1, by simp; omega, M, by dsimp only; omega, by dsimp only; rw [hC, List.nil_append]⟩ ?_ rfl ?_
 ·skip
  refine Agree.env _ ?_
  simp only [agw, seval, hn]
 rintro ⟨l, s1⟩ ⟨hok1, hle, q, hq, hr⟩ ih0
 dsimp only at hok1 hle hq hr ih0 ⊢
 cases q with
 | zero => omega
 | succ q =>
 rw [casL] at hr
 refine ARun.goK (k := [_, _, _]) 20 ?_
 simp only [W, seval, c152, hn, hi]
 obtain ⟨⟨b, s4⟩, hg_s4⟩ : ∃ r, gotP s1 [99, 97, 115, 101] = r := ⟨_, rfl⟩
 have hp_s4 := got_pp bs h0 hl s1 [99, 97, 115, 101]
 rw [hg_s4] at hp_s4
 dsimp only at hp_s4
 first
  | refine PP.call0 hp_s4 hc hok1 fun hok4 => ?_
  | refine PP.call hp_s4 hc hok1 fun hok4 => ?_
 rw [hg_s4] at hr
 cases b
 case' false =>
  dsimp only at hr
  rw [List.append_nil] at hr
  obtain ⟨rfl, rfl⟩ := Prod.mk.inj hr
  have := (dn_got hg_s4).le
  refine ARun.goK 20 ?_
  simp only [W, seval, c152, hn, hi]
  refine hend () ⟨hok4, by omega⟩ _ _ ?_ rfl
  refine Agree.env _ ?_
  simp only [agw, seval, hn]
 case' true =>
  have hlt := got_lt hg_s4
  dsimp only at hr
  refine ARun.goK 20 ?_
  simp only [W, seval, c152, hn, hi]
  obtain ⟨⟨k, s5⟩, hg_s5⟩ : ∃ r, numP s4 = r := ⟨_, rfl⟩
  have hp_s5 := num_pp bs h0 hl s4
  rw [hg_s5] at hp_s5
  dsimp only at hp_s5
  first
   | refine PP.call0 hp_s5 hc hok4 fun hok5 => ?_
   | refine PP.call hp_s5 hc hok4 fun hok5 => ?_
  have hd5 := (dn_num hg_s5).le
  rw [hg_s5] at hr
  dsimp only at hr
  refine ARun.goK 20 ?_
  simp only [W, seval, c152, hn, hi]
  have hd6 := (dn_want s5 [58]).le
  first
   | refine PP.call0 (want_pp bs h0 hl s5 [58]) hc hok5 fun hok6 => ?_
   | refine PP.call (want_pp bs h0 hl s5 [58]) hc hok5 fun hok6 => ?_
  have hsp := stmts_pp bs hl hS M (wantP s5 [58]) (by omega) (by omega)
  obtain ⟨⟨b, s7⟩, hb⟩ : ∃ r, stmtsL S M (wantP s5 [58]) = r := ⟨_, rfl⟩
  have hd7 := (dn_stmts hdS M hb).le
  rw [hb] at hsp hr
  dsimp only at hsp hr
  refine ARun.goK 20 ?_
  simp only [W, seval, c152, hn, hi]
  refine PP.call hsp hc hok6 fun hok7 => ?_
  obtain ⟨⟨l8, s8⟩, h8⟩ : ∃ r, casL S M q s7 = r := ⟨_, rfl⟩
  rw [h8] at hr
  dsimp only at hr
  have hcap : (l.length + 1) * 32 ≤ 140737488355328 := by omega
  have hmap : l.map caD ++ [caD (.mk k b)] = (l ++ [CaT.mk k b]).map caD := by simp
  have hlen : (l ++ [CaT.mk k b]).length = l.length + 1 := by simp
  refine ARun.goK 8 ?_
  simp only [W, seval, c152, hn, hi]
  refine ARun.drawE 8 [7, 10] (fun S => S.boxes[N + 1]? = some (swT x l t) ∧ S.boxes[N + 2]? = some [.d (.int .u64 k), .d (.sl (b.map stD))]) (by kernel_rfl) (by kernel_rfl) (by kernel_rfl) (by kernel_rfl) (by kernel_rfl) ?_
  simp only [W, seval, c152]
  refine lexC_q (v := ?_) (by rfl) (by kernel_rfl) (fun S hS => ?_) ?_
  rotate_left
  ·simp only [W, seval, c152]
   exact rfl
  simp only [W, seval, c152]
  refine lexC_q (v := ?_) (by rfl) (by kernel_rfl) (fun S hS => ?_) ?_
  rotate_left
  ·simp only [W, seval, c152]
   exact rfl
  simp only [W, seval, c152]
  refine lexC_q (v := ?_) (by rfl) (by kernel_rfl) (fun S hS => ?_) ?_
  rotate_left
  ·simp only [W, seval, c152]
   exact rfl
  simp only [W, seval, c152]
  refine lexC_q (v := ?_) (by rfl) (by kernel_rfl) (fun S hS => ?_) ?_
  rotate_left
  ·simp only [W, seval, c152]
   exact rfl
  simp only [W, seval, c152]
  refine lexC_q (v := ?_) (by rfl) (by kernel_rfl) (fun S hS => ?_) ?_
  rotate_left
  ·try dsimp only at hS
   simp only [W, seval, c152, hS.1, swT]
   exact rfl
  simp only [W, seval, c152]
  refine lexC_q (v := ?_) (by rfl) (by kernel_rfl) (fun S hS => ?_) ?_
  rotate_left
  ·try dsimp only at hS
   simp only [W, seval, c152, hS.2]
   exact rfl
  simp only [W, seval, c152]
  refine lexC_q (v := ?_) (by rfl) (by kernel_rfl) (fun S hS => ?_) ?_
  rotate_left
  ·simp only [W, seval, c152, mapD_nil, mapD_cons, Nat.reduceMul, rows2]
   exact rfl
  simp only [W, seval, c152]
  refine lexC_w (v := ?_) (S' := ?_) ⟨by simp [bx_loc, hn], by simp [bx_loc, hn]⟩ (by rfl) (by kernel_rfl) ?_ ?_
  rotate_left 2
  ·simp only [W, seval, c152, hn, ht, hcap, hmap, ca1, Nat.reduceMul]
   exact rfl
  simp only [W, seval, c152]
  refine lexC_end ⟨by simp [bx_loc, hn], by simp [bx_loc, hn]⟩ ?_
  refine lexC_q (v := ?_) (by rfl) (by kernel_rfl) (fun S hS => ?_) ?_
  rotate_left
  ·simp only [W, seval, c152]
   exact rfl
  simp only [W, seval, c152]
  refine lexC_q (v := ?_) (by rfl) (by kernel_rfl) (fun S hS => ?_) ?_
  rotate_left
  ·simp only [W, seval, c152]
   exact rfl
  simp only [W, seval, c152]
  refine lexC_w (v := ?_) (S' := ?_) ?_ (by rfl) (by kernel_rfl) ?_ ?_
  rotate_left 2
  ·first | trivial | simp [bx_loc, bx_loc0, hn, swT]
  ·simp only [W, seval, c152, hn, swT]
   exact rfl
  simp only [W, seval, c152]
  refine lexC_end trivial ?_
  refine ARun.goK (k := [_, _, _]) 1 ?_
  simp only [W, seval, c152]
  refine ARun_split (J := [_, _]) (J2 := [_]) ?_
  refine ih0 (l ++ [.mk k b], s7) ⟨hok7, by dsimp only; omega, q, by dsimp only; omega, by rw [← hr]; dsimp only; rw [h8]; simp⟩ (by dsimp only; omega) _ _ _ _ _ (by dsimp only; rw [hlen]; rfl) ⟨by simp; omega, by simp; omega⟩ (by rw [← hlen]; exact hfit s7 _) ?_
  refine AgreeF.env _ ?_
  simp only [agf, seval, hn, ht, hi2, hN1, hN2, ht1, List.length_append, List.length_cons, List.length_nil, Nat.zero_add]
def c133 := by
 have c := KK_of Tryz.f133 (by conv => lhs; cbv)
 dsimp only [KK, KxP, doO, opO, List.map_cons, List.map_nil, List.toList_toArray] at c
 exact c
theorem b133 : FnIs Tryz.prog 133 Tryz.f133 54 := ⟨Tryz.func133, by kernel_rfl⟩
set_option maxHeartbeats 8000000 in
theorem stmt_pp (bs : List UInt8) (h0 : True) (hl : bs.length ≤ 400000) {E : EP} {S : SP} {n : Nat} (hE : EOk bs E (n + 1)) (hdE : DnE E) (hS : SOk bs S n) (hdS : DnE S) (m : Nat) (hm : n < m) (s : Ps) (hs : mu s < n + 1) :
 PP bs 133 [] s (stV (stmtP E S m s).1) (stmtP E S m s).2 := by
 intro c B T i hc hok
 obtain ⟨N, hn⟩ : ∃ N, B.length = N := ⟨_, rfl⟩
 have hi : c < N := by omega
 obtain ⟨K, hK⟩ : ∃ K, stmtP E S m s = K := ⟨_, rfl⟩
 rw [hK]
 unfold stmtP at hK
 refine b133.go 20 rfl fun hsm => ?_
 simp only [smw] at hsm
 simp only [W, seval, c133, hn, hi]
 obtain ⟨⟨b, s1⟩, hg_s1⟩ : ∃ r, gotP s [118, 97, 114] = r := ⟨_, rfl⟩
 have hp_s1 := got_pp bs h0 hl s [118, 97, 114]
 rw [hg_s1] at hp_s1
 dsimp only at hp_s1
 first
  | refine PP.call0 hp_s1 hc hok fun hok1 => ?_
  | refine PP.call hp_s1 hc hok fun hok1 => ?_
 rw [hg_s1] at hK
 cases b
 case' true =>
  have hlt := got_lt hg_s1
  dsimp only at hK
  refine ARun.go 20 ?_
  simp only [W, seval, c133, hn, hi]
  obtain ⟨⟨tx, s2⟩, hg_s2⟩ : ∃ r, nameP s1 = r := ⟨_, rfl⟩
  have hp_s2 := name_pp bs h0 hl s1
  rw [hg_s2] at hp_s2
  dsimp only at hp_s2
  first
   | refine PP.call0 hp_s2 hc hok1 fun hok2 => ?_
   | refine PP.call hp_s2 hc hok1 fun hok2 => ?_
  have hd2 := (dn_name hg_s2).le
  have htp := typ_pp bs h0 hl m s2 (by omega)
  obtain ⟨⟨y, s3⟩, hy⟩ : ∃ r, typP m s2 = r := ⟨_, rfl⟩
  rw [hg_s2] at hK
  dsimp only at hK
  rw [hy] at hK htp
  dsimp only at hK htp
  subst hK
  unfold tyV at htp
  refine ARun.go 40 ?_
  simp only [W, seval, c133, hn, hi, mapD_nil, mapD_cons, Nat.reduceMul]
  refine PP.call htp hc hok2 fun hok3 => ?_
  refine ARun.go 60 ?_
  simp only [W, seval, c133, hn, hi]
  refine retc (v := ?_) Tryz.func133 (by rfl) ?_ ?_
  rotate_left
  ·simp only [W, seval, c133, hn, hi]
   exact rfl
  refine PF.retJ (fun _ _ => rfl) ?_
  exact ⟨rfl, 0, hok3, rfl⟩
 have e1 := got_no hg_s1
 subst e1
 dsimp only at hK
 refine ARun.go 20 ?_
 simp only [W, seval, c133, hn, hi]
 obtain ⟨⟨b, s2⟩, hg_s2⟩ : ∃ r, gotP s1 [105, 102] = r := ⟨_, rfl⟩
 have hp_s2 := got_pp bs h0 hl s1 [105, 102]
 rw [hg_s2] at hp_s2
 dsimp only at hp_s2
 first
  | refine PP.call0 hp_s2 hc hok1 fun hok2 => ?_
  | refine PP.call hp_s2 hc hok1 fun hok2 => ?_
 rw [hg_s2] at hK
 cases b
 case' true =>
  have hlt := got_lt hg_s2
  dsimp only at hK
  obtain ⟨⟨x, s3⟩, hx⟩ : ∃ r, headP E s2 = r := ⟨_, rfl⟩
  have hhp := head_pp bs hE s2 (by omega)
  have hd3 := (dn_head hdE hx).le
  rw [hx] at hhp hK
  dsimp only at hhp hK
  obtain ⟨⟨b1, s4⟩, hb1⟩ : ∃ r, blockP S m s3 = r := ⟨_, rfl⟩
  have hbp := block_pp bs h0 hl hS m s3 (by omega) (by omega)
  have hd4 := (dn_block hdS hb1).le
  rw [hb1] at hbp hK
  dsimp only at hbp hK
  refine ARun.go 20 ?_
  simp only [W, seval, c133, hn, hi]
  refine PP.call hhp hc hok2 fun hok3 => ?_
  refine ARun.go 40 ?_
  simp only [W, seval, c133, hn, hi]
  refine PP.call hbp hc hok3 fun hok4 => ?_
  refine ARun.go 40 ?_
  simp only [W, seval, c133, hn, hi]
  obtain ⟨⟨b, s5⟩, hg_s5⟩ : ∃ r, gotP s4 [101, 108, 115, 101] = r := ⟨_, rfl⟩
  have hp_s5 := got_pp bs h0 hl s4 [101, 108, 115, 101]
  rw [hg_s5] at hp_s5
  dsimp only at hp_s5
  first
   | refine PP.call0 hp_s5 hc hok4 fun hok5 => ?_
   | refine PP.call hp_s5 hc hok4 fun hok5 => ?_
  rw [hg_s5] at hK
  have hd5 := (dn_got hg_s5).le
  cases b
  case' true =>
   dsimp only at hK
   obtain ⟨⟨b2, s6⟩, hb2⟩ : ∃ r, blockP S m s5 = r := ⟨_, rfl⟩
   have hbp := block_pp bs h0 hl hS m s5 (by omega) (by omega)
   rw [hb2] at hbp hK
   dsimp only at hbp hK
   subst hK
   refine ARun.go 40 ?_
   simp only [W, seval, c133, hn, hi]
   refine PP.call hbp hc hok5 fun hok6 => ?_
   refine ARun.go 60 ?_
   simp only [W, seval, c133, hn, hi]
   refine retc (v := ?_) Tryz.func133 (by rfl) ?_ ?_
   rotate_left
   ·simp only [W, seval, c133, hn, hi]
    exact rfl
   refine PF.retJ (fun _ _ => rfl) ?_
   exact ⟨rfl, 0, hok6, rfl⟩
  case' false =>
   dsimp only at hK
   subst hK
   refine ARun.go 60 ?_
   simp only [W, seval, c133, hn, hi]
   refine retc (v := ?_) Tryz.func133 (by rfl) ?_ ?_
   rotate_left
   ·simp only [W, seval, c133, hn, hi]
    exact rfl
   refine PF.retJ (fun _ _ => rfl) ?_
   exact ⟨rfl, 0, hok5, rfl⟩
 have e2 := got_no hg_s2
 subst e2
 dsimp only at hK
 refine ARun.go 20 ?_
 simp only [W, seval, c133, hn, hi]
 obtain ⟨⟨b, s3⟩, hg_s3⟩ : ∃ r, gotP s2 [102, 111, 114] = r := ⟨_, rfl⟩
 have hp_s3 := got_pp bs h0 hl s2 [102, 111, 114]
 rw [hg_s3] at hp_s3
 dsimp only at hp_s3
 first
  | refine PP.call0 hp_s3 hc hok2 fun hok3 => ?_
  | refine PP.call hp_s3 hc hok2 fun hok3 => ?_
 rw [hg_s3] at hK
 cases b
 case' true =>
  have hlt := got_lt hg_s3
  dsimp only at hK
  obtain ⟨⟨x, s4⟩, hx⟩ : ∃ r, headP E s3 = r := ⟨_, rfl⟩
  have hhp := head_pp bs hE s3 (by omega)
  have hd3 := (dn_head hdE hx).le
  rw [hx] at hhp hK
  dsimp only at hhp hK
  obtain ⟨⟨b1, s5⟩, hb1⟩ : ∃ r, blockP S m s4 = r := ⟨_, rfl⟩
  have hbp := block_pp bs h0 hl hS m s4 (by omega) (by omega)
  rw [hb1] at hbp hK
  dsimp only at hbp hK
  subst hK
  refine ARun.go 20 ?_
  simp only [W, seval, c133, hn, hi]
  refine PP.call hhp hc hok3 fun hok4 => ?_
  refine ARun.go 40 ?_
  simp only [W, seval, c133, hn, hi]
  refine PP.call hbp hc hok4 fun hok5 => ?_
  refine ARun.go 60 ?_
  simp only [W, seval, c133, hn, hi]
  refine retc (v := ?_) Tryz.func133 (by rfl) ?_ ?_
  rotate_left
  ·simp only [W, seval, c133, hn, hi]
   exact rfl
  refine PF.retJ (fun _ _ => rfl) ?_
  exact ⟨rfl, 0, hok5, rfl⟩
 have e3 := got_no hg_s3
 subst e3
 dsimp only at hK
 refine ARun.go 20 ?_
 simp only [W, seval, c133, hn, hi]
 obtain ⟨⟨b, s4⟩, hg_s4⟩ : ∃ r, gotP s3 [115, 119, 105, 116, 99, 104] = r := ⟨_, rfl⟩
 have hp_s4 := got_pp bs h0 hl s3 [115, 119, 105, 116, 99, 104]
 rw [hg_s4] at hp_s4
 dsimp only at hp_s4
 first
  | refine PP.call0 hp_s4 hc hok3 fun hok4 => ?_
  | refine PP.call hp_s4 hc hok3 fun hok4 => ?_
 rw [hg_s4] at hK
 cases b
 case' true =>
  have hlt := got_lt hg_s4
  dsimp only at hK
  obtain ⟨⟨x, s5⟩, hx⟩ : ∃ r, headP E s4 = r := ⟨_, rfl⟩
  have hhp := head_pp bs hE s4 (by omega)
  have hd3 := (dn_head hdE hx).le
  rw [hx] at hhp hK
  dsimp only at hhp hK
  obtain ⟨⟨cs, s6⟩, hC⟩ : ∃ r, casL S m m (wantP s5 [123]) = r := ⟨_, rfl⟩
  obtain ⟨⟨el, s7⟩, hEl⟩ : ∃ r, elseP S m s6 = r := ⟨_, rfl⟩
  rw [hC] at hK
  dsimp only at hK
  rw [hEl] at hK
  dsimp only at hK
  subst hK
  refine ARun.go 20 ?_
  simp only [W, seval, c133, hn, hi]
  refine PP.call hhp hc hok4 fun hok5 => ?_
  refine ARun.go 40 ?_
  simp only [W, seval, c133, hn, hi]
  have hca := cases_ab bs h0 hl hS hdS m s5 (by omega) (by omega) x ze10 c B T hc hok5 cs s6 el s7 hC hEl
  rw [hn] at hca
  refine callS_fn hca ?_
  rintro _ _ ⟨rfl, hok6, rfl⟩
  refine ARun.go 60 ?_
  simp only [W, seval, c133, hn, hi, stL, ze10]
  refine retc (v := ?_) Tryz.func133 (by rfl) ?_ ?_
  rotate_left
  ·simp only [W, seval, c133, hn, hi]
   exact rfl
  refine PF.retJ (fun _ _ => rfl) ?_
  exact ⟨rfl, 0, hok6, rfl⟩
 have e4 := got_no hg_s4
 subst e4
 dsimp only at hK
 refine ARun.go 20 ?_
 simp only [W, seval, c133, hn, hi]
 obtain ⟨⟨b, s5⟩, hg_s5⟩ : ∃ r, gotP s4 [114, 101, 116, 117, 114, 110] = r := ⟨_, rfl⟩
 have hp_s5 := got_pp bs h0 hl s4 [114, 101, 116, 117, 114, 110]
 rw [hg_s5] at hp_s5
 dsimp only at hp_s5
 first
  | refine PP.call0 hp_s5 hc hok4 fun hok5 => ?_
  | refine PP.call hp_s5 hc hok4 fun hok5 => ?_
 rw [hg_s5] at hK
 cases b
 case' true =>
  have hlt := got_lt hg_s5
  dsimp only at hK
  obtain ⟨⟨l, s6⟩, hL⟩ : ∃ r, valsP E m s5 = r := ⟨_, rfl⟩
  have hvp := values_pp bs h0 hl hE hdE m s5 (by omega) (by omega)
  rw [hL] at hvp hK
  dsimp only at hvp hK
  subst hK
  refine ARun.go 20 ?_
  simp only [W, seval, c133, hn, hi]
  refine PP.call hvp hc hok5 fun hok6 => ?_
  refine ARun.go 60 ?_
  simp only [W, seval, c133, hn, hi]
  refine retc (v := ?_) Tryz.func133 (by rfl) ?_ ?_
  rotate_left
  ·simp only [W, seval, c133, hn, hi]
   exact rfl
  refine PF.retJ (fun _ _ => rfl) ?_
  exact ⟨rfl, 0, hok6, rfl⟩
 have e5 := got_no hg_s5
 subst e5
 dsimp only at hK
 have hsp := set_pp bs h0 hl hE hdE m (by omega) s5 (by omega)
 rw [hK] at hsp
 unfold stV at hsp ⊢
 refine ARun.go 20 ?_
 simp only [W, seval, c133, hn, hi]
 refine PP.call hsp hc hok5 fun hok6 => ?_
 refine ARun.go 60 ?_
 simp only [W, seval, c133, hn, hi]
 refine retc (v := ?_) Tryz.func133 (by rfl) ?_ ?_
 rotate_left
 ·simp only [W, seval, c133, hn, hi]
  exact rfl
 refine PF.retJ (fun _ _ => rfl) ?_
 exact ⟨rfl, 0, hok6, rfl⟩
def c25 := by
 have c := KK_of Tryz.f25 (by conv => lhs; cbv)
 dsimp only [KK, KxP, doO, opO, List.map_cons, List.map_nil, List.toList_toArray] at c
 exact c
theorem b25 : FnIs Tryz.prog 25 Tryz.f25 31 := ⟨Tryz.func25, by kernel_rfl⟩
theorem param_lt {m : Nat} {s s1 : Ps} {x : PaT} (h : paramP m s = (x, s1)) (hp : 0 < mu s) : mu s1 < mu s := by
 unfold paramP at h
 obtain ⟨⟨t, s2⟩, h2⟩ : ∃ r, nameP s = r := ⟨_, rfl⟩
 obtain ⟨⟨y, s3⟩, h3⟩ : ∃ r, typP m s2 = r := ⟨_, rfl⟩
 rw [h2] at h
 dsimp only at h
 rw [h3] at h
 obtain ⟨_, rfl⟩ := Prod.mk.inj h
 have := name_lt h2 hp
 have := (dn_typ h3).le
 dsimp only
 omega
theorem pa1 (x : PaT) : rowsSz 4 [paD x] = true := rowsSz_pa [x]
theorem rows4 (x : PaT) : [D.str x.name, .int .i64 x.type.kind, .str x.type.name, .sl (x.type.elem.map tyD)] = paD x := rfl
def suT (tx : List UInt8) (l : List PaT) (t : Nat) : List V := [.d (.str tx), .sl (l.map paD) (.own t)]
set_option maxHeartbeats 8000000 in
theorem struct_pp (bs : List UInt8) (h0 : True) (hl : bs.length ≤ 400000) (m : Nat) (s : Ps) (hs : mu s < m) :
 PP bs 25 [] s (suV (structP m s).1) (structP m s).2 := by
 intro c B T i hc hok
 obtain ⟨N, hn⟩ : ∃ N, B.length = N := ⟨_, rfl⟩
 obtain ⟨t, ht⟩ : ∃ t, T.length = t := ⟨_, rfl⟩
 have hi : c < N := by omega
 have hmu := hok.mu_le
 obtain ⟨K, hK⟩ : ∃ K, structP m s = K := ⟨_, rfl⟩
 rw [hK]
 unfold structP at hK
 refine b25.go 20 rfl fun hsm => ?_
 simp only [smw] at hsm
 simp only [W, seval, c25, hn, hi]
 obtain ⟨⟨tx, s1⟩, hg_s1⟩ : ∃ r, nameP s = r := ⟨_, rfl⟩
 have hp_s1 := name_pp bs h0 hl s
 rw [hg_s1] at hp_s1
 dsimp only at hp_s1
 first
  | refine PP.call0 hp_s1 hc hok fun hok1 => ?_
  | refine PP.call hp_s1 hc hok fun hok1 => ?_
 have hd1 := (dn_name hg_s1).le
 rw [hg_s1] at hK
 dsimp only at hK
 have hd2 := (dn_want s1 [115, 116, 114, 117, 99, 116]).le
 have hd3 := (dn_want (wantP s1 [115, 116, 114, 117, 99, 116]) [123]).le
 refine ARun.go 20 ?_
 simp only [W, seval, c25, hn, hi]
 first
  | refine PP.call0 (want_pp bs h0 hl s1 [115, 116, 114, 117, 99, 116]) hc hok1 fun hok2 => ?_
  | refine PP.call (want_pp bs h0 hl s1 [115, 116, 114, 117, 99, 116]) hc hok1 fun hok2 => ?_
 refine ARun.go 20 ?_
 simp only [W, seval, c25, hn, hi]
 first
  | refine PP.call0 (want_pp bs h0 hl (wantP s1 [115, 116, 114, 117, 99, 116]) [123]) hc hok2 fun hok3 => ?_
  | refine PP.call (want_pp bs h0 hl (wantP s1 [115, 116, 114, 117, 99, 116]) [123]) hc hok2 fun hok3 => ?_
 generalize wantP (wantP s1 [115, 116, 114, 117, 99, 116]) [123] = s4 at *
 obtain ⟨⟨l0, s0⟩, hL⟩ : ∃ r, fieldL m m s4 = r := ⟨_, rfl⟩
 rw [hL] at hK
 dsimp only at hK
 subst hK
 refine ARun.go 2 ?_
 simp only [W, seval, c25]
 refine ARun.tokenB (N + 1) 1 _ [] (by rw [bx_loc (by simpa using hn)]; rfl) (by rfl) 4 (by omega) rfl ?_
 rw [bx_set_loc (by simpa using hn)]
 change ARun _ _ _ _ _ _ ⟨B.set c (bxP bs s4) ++ [[.d (.str []), .sl [] .full], suT tx [] T.length], T ++ [(0, 4)]⟩ _
 rw [ht]
 refine ARun.go 5 ?_
 simp only [W, seval, c25]
 refine ARun.after [_, _] _ (fun _ : Unit => (envS 31 [(0, .ptr c 0), (2, .ptr N 0), (3, .ptr (N + 1) 0)], ⟨B.set c (bxP bs s0) ++ [[.d (.str []), .sl [] .full], suT tx l0 t], T ++ [(l0.length, 4)]⟩)) (fun _ => OkP bs s0) ?_ ?_
 ·rintro ⟨⟩ hok0
  refine ARun.go 20 ?_
  simp only [W, seval, c25]
  first
   | refine PP.call0 (want_pp bs h0 hl s0 [125]) hc hok0 fun hok5 => ?_
   | refine PP.call (want_pp bs h0 hl s0 [125]) hc hok0 fun hok5 => ?_
  refine ARun.go 20 ?_
  simp only [W, seval, c25, hn, hi, suT]
  refine retc (v := ?_) Tryz.func25 (by rfl) ?_ ?_
  rotate_left
  ·simp only [W, seval, c25, hn, hi]
   exact rfl
  refine PF.ret (fun _ _ => rfl) ?_
  refine ⟨?_, 0, hok5, rfl⟩
  simp only [W, seval, c25, wk, wkL, suV, List.length_set, ht, Nat.lt_irrefl]
 intro K' hend
 refine ARun.loopW (fun a : List PaT × Ps => (envS 31 [(0, .ptr c 0), (2, .ptr N 0), (3, .ptr (N + 1) 0)], ⟨B.set c (bxP bs a.2) ++ [[.d (.str []), .sl [] .full], suT tx a.1 t], T ++ [(a.1.length, 4)]⟩)) (fun a => OkP bs a.2 ∧ a.1.length + mu a.2 ≤ mu s ∧ ∃ q, mu a.2 < q ∧ (a.1 ++ (fieldL m q a.2).1, (fieldL m q a.2).2) = (l0, s0)) (fun a => mu a.2) ([], s4) ⟨hok3, by simp; omega, m, by dsimp only; omega, by dsimp only; rw [hL, List.nil_append]⟩ ?_ rfl ?_
 ·skip
  refine Agree.env _ ?_
  simp only [agw, seval, hn]
 rintro ⟨l, s5⟩ ⟨hok5, hle, q, hq, hr⟩ ih
 dsimp only at hok5 hle hq hr ih ⊢
 cases q with
 | zero => omega
 | succ q =>
 rw [fieldL] at hr
 by_cases he : s5.e = 0
 case neg =>
  have e1 := decide_eq_false he
  rw [if_neg (fun h => he h.1)] at hr
  dsimp only at hr
  rw [List.append_nil] at hr
  obtain ⟨rfl, rfl⟩ := Prod.mk.inj hr
  refine ARun.goK (k := [_, _, _]) 80 ?_
  simp only [W, seval, c25, hn, hi, bxP, e1]
  refine hend () hok5 _ _ ?_ rfl
  refine Agree.env _ ?_
  simp only [agw, seval, hn]
 have e1 := decide_eq_true he
 refine ARun.goK (k := [_, _, _]) 80 ?_
 simp only [W, seval, c25, hn, hi, bxP, e1]
 refine PP.call (is_pp bs s5 [125]) hc hok5 fun _ => ?_
 cases q1 : isP s5 [125]
 case' true =>
  rw [if_neg (fun h => by rw [q1] at h; exact absurd h.2 (by decide))] at hr
  dsimp only at hr
  rw [List.append_nil] at hr
  obtain ⟨rfl, rfl⟩ := Prod.mk.inj hr
  refine ARun.goK 80 ?_
  simp only [W, seval, c25, hn, hi]
  refine hend () hok5 _ _ ?_ rfl
  refine Agree.env _ ?_
  simp only [agw, seval, hn]
 case' false =>
  rw [if_pos ⟨he, q1⟩] at hr
  have hmp : 0 < mu s5 := by rw [mu_live he, (hok5 he).2.2]; simp
  obtain ⟨⟨x, s6⟩, hx⟩ : ∃ r, paramP m s5 = r := ⟨_, rfl⟩
  have hpx := param_pp bs h0 hl m s5 (by omega)
  have hlx := param_lt hx hmp
  rw [hx] at hpx hr
  dsimp only at hpx hr
  unfold paV at hpx
  have hcap : (l.length + 1) * 64 ≤ 140737488355328 := by omega
  have hmap : l.map paD ++ [paD x] = (l ++ [x]).map paD := by simp
  have hlen : (l ++ [x]).length = l.length + 1 := by simp
  refine ARun.goK 10 ?_
  simp only [W, seval, c25, hn, hi]
  refine PP.wit hpx hc hok5 (ha0 (by rfl)) fun hok6 => ?_
  refine ARun.drawE 6 [3, 5, 7] (fun S => S.boxes[N + 1]? = some (suT tx l t)) (by kernel_rfl) (by kernel_rfl) (by kernel_rfl) (by kernel_rfl) (by kernel_rfl) ?_
  simp only [W, seval, c25]
  refine lexC_q (v := ?_) (by rfl) (by kernel_rfl) (fun S hS => ?_) ?_
  rotate_left
  ·simp only [W, seval, c25]
   exact rfl
  simp only [W, seval, c25]
  refine lexC_q (v := ?_) (by rfl) (by kernel_rfl) (fun S hS => ?_) ?_
  rotate_left
  ·try dsimp only at hS
   simp only [W, seval, c25, hS, suT]
   exact rfl
  simp only [W, seval, c25]
  refine lexC_q (v := ?_) (by rfl) (by kernel_rfl) (fun S hS => ?_) ?_
  rotate_left
  ·simp only [W, seval, c25]
   exact rfl
  simp only [W, seval, c25]
  refine PP.lexc (hpx) hc hok5 hok6 ?_ (by rfl) (by kernel_rfl) ?_ ?_
  ·first | trivial | simp [bx_loc, bx_loc0, hn]
  ·simp only [W, seval, c25]
   exact ⟨_, _, rfl, rfl, by rfl, by simp only [W, seval, c25]⟩
  simp only [W, seval, c25]
  refine lexC_q (v := ?_) (by rfl) (by kernel_rfl) (fun S hS => ?_) ?_
  rotate_left
  ·simp only [W, seval, c25, mapD_nil, mapD_cons, Nat.reduceMul, rows4]
   exact rfl
  simp only [W, seval, c25]
  refine lexC_w (v := ?_) (S' := ?_) ?_ (by rfl) (by kernel_rfl) ?_ ?_
  rotate_left 2
  ·first | trivial | simp [bx_loc, bx_loc0, hn, ht, hcap, hmap, pa1, Nat.reduceMul]
  ·simp only [W, seval, c25, hn, ht, hcap, hmap, pa1, Nat.reduceMul]
   exact rfl
  simp only [W, seval, c25]
  refine lexC_end (by simp [bx_loc, hn]) ?_
  refine lexC_q (v := ?_) (by rfl) (by kernel_rfl) (fun S hS => ?_) ?_
  rotate_left
  ·simp only [W, seval, c25]
   exact rfl
  simp only [W, seval, c25]
  refine lexC_w (v := ?_) (S' := ?_) ?_ (by rfl) (by kernel_rfl) ?_ ?_
  rotate_left 2
  ·first | trivial | simp [bx_loc, bx_loc0, hn, suT]
  ·simp only [W, seval, c25, hn, suT]
   exact rfl
  simp only [W, seval, c25]
  refine lexC_end trivial ?_
  refine ARun.goK (k := [_, _, _]) 1 ?_
  simp only [W, seval, c25]
  refine ih (l ++ [x], s6) ⟨hok6, by dsimp only; omega, q, by dsimp only; omega, by rw [← hr]; simp⟩ (by dsimp only; omega) _ _ ?_ (by dsimp only; rw [hlen]; rfl)
  refine Agree.env _ ?_
  simp only [agw, seval, hn]
def c26 := by
 have c := KK_of Tryz.f26 (by conv => lhs; cbv)
 dsimp only [KK, KxP, doO, opO, List.map_cons, List.map_nil, List.toList_toArray] at c
 exact c
theorem b26 : FnIs Tryz.prog 26 Tryz.f26 44 := ⟨Tryz.func26, by kernel_rfl⟩
theorem rows3 (x : TyT) : [D.int .i64 x.kind, .str x.name, .sl (x.elem.map tyD)] = tyD x := (tyD_eq x).symm
theorem tyr1 (x : TyT) : rowsSz 3 [tyD x] = true := rowsSz_ty [x]
def fuP (tx : List UInt8) (l : List PaT) (t : Nat) : List V := [.d (.str tx), .sl (l.map paD) (.own t), .sl [] .full, .sl [] .full]
def fuR (tx : List UInt8) (l : List PaT) (r : List TyT) (t : Nat) : List V := [.d (.str tx), .sl (l.map paD) (.own t), .sl (r.map tyD) (.own (t + 1)), .sl [] .full]
set_option maxHeartbeats 8000000 in
theorem func_pp (bs : List UInt8) (h0 : True) (hl : bs.length ≤ 400000) {S : SP} {n : Nat} (hS : SOk bs S n) (m : Nat) (hm : n ≤ m) (s : Ps) (hs : mu s < n) :
 PP bs 26 [] s (fuV (funcP S m s).1) (funcP S m s).2 := by
 intro c B T i hc hok
 obtain ⟨N, hn⟩ : ∃ N, B.length = N := ⟨_, rfl⟩
 obtain ⟨t, ht⟩ : ∃ t, T.length = t := ⟨_, rfl⟩
 have hi : c < N := by omega
 have hmu := hok.mu_le
 obtain ⟨K, hK⟩ : ∃ K, funcP S m s = K := ⟨_, rfl⟩
 rw [hK]
 unfold funcP at hK
 refine b26.go 20 rfl fun hsm => ?_
 simp only [smw] at hsm
 simp only [W, seval, c26, hn, hi]
 obtain ⟨⟨tx, s1⟩, hg_s1⟩ : ∃ r, nameP s = r := ⟨_, rfl⟩
 have hp_s1 := name_pp bs h0 hl s
 rw [hg_s1] at hp_s1
 dsimp only at hp_s1
 first
  | refine PP.call0 hp_s1 hc hok fun hok1 => ?_
  | refine PP.call hp_s1 hc hok fun hok1 => ?_
 have hd1 := (dn_name hg_s1).le
 rw [hg_s1] at hK
 dsimp only at hK
 have hd2 := (dn_want s1 [40]).le
 refine ARun.go 20 ?_
 simp only [W, seval, c26, hn, hi]
 first
  | refine PP.call0 (want_pp bs h0 hl s1 [40]) hc hok1 fun hok2 => ?_
  | refine PP.call (want_pp bs h0 hl s1 [40]) hc hok1 fun hok2 => ?_
 generalize wantP s1 [40] = s2 at *
 obtain ⟨⟨l0, s3⟩, hL⟩ : ∃ r, (if isP s2 [41] = true then (([], s2) : List PaT × Ps) else paramL m m s2) = r := ⟨_, rfl⟩
 rw [hL] at hK
 dsimp only at hK
 refine ARun.go 2 ?_
 simp only [W, seval, c26]
 refine ARun.tokenB (N + 1) 1 _ [] (by rw [bx_loc (by simpa using hn)]; rfl) (by rfl) 4 (by omega) rfl ?_
 rw [bx_set_loc (by simpa using hn)]
 change ARun _ _ _ _ _ _ ⟨B.set c (bxP bs s2) ++ [[.d (.str []), .sl [] .full, .sl [] .full, .sl [] .full], fuP tx [] T.length], T ++ [(0, 4)]⟩ _
 rw [ht]
 refine ARun.go 10 ?_
 simp only [W, seval, c26]
 refine PP.call (is_pp bs s2 [41]) hc hok2 fun _ => ?_
 refine ARun.go 5 ?_
 simp only [W, seval, c26]
 refine ARun.after [_, _] _ (fun _ : Unit => (envS 44 [(0, .ptr c 0), (2, .ptr N 0), (3, .ptr (N + 1) 0)], ⟨B.set c (bxP bs s3) ++ [[.d (.str []), .sl [] .full, .sl [] .full, .sl [] .full], fuP tx l0 t], T ++ [(l0.length, 4)]⟩)) (fun _ => OkP bs s3 ∧ mu s3 ≤ mu s2) ?_ ?_
 case refine_2 =>
  intro K' hend
  refine ARun.loopW (fun a : List PaT × Bool × Ps => (envS 44 [(0, .ptr c 0), (2, .ptr N 0), (3, .ptr (N + 1) 0), (4, .d (.bool a.2.1))], ⟨B.set c (bxP bs a.2.2) ++ [[.d (.str []), .sl [] .full, .sl [] .full, .sl [] .full], fuP tx a.1 t], T ++ [(a.1.length, 4)]⟩)) (fun a => OkP bs a.2.2 ∧ mu a.2.2 ≤ mu s2 ∧ (a.2.1 = true → a.1.length + mu a.2.2 ≤ mu s ∧ ∃ k, mu a.2.2 < k ∧ (a.1 ++ (paramL m k a.2.2).1, (paramL m k a.2.2).2) = (l0, s3)) ∧ (a.2.1 = false → (a.1, a.2.2) = (l0, s3))) (fun a => if a.2.1 = true then mu a.2.2 + 1 else 0) ([], !isP s2 [41], s2) ⟨hok2, Nat.le_refl _, fun h => ⟨by simp; omega, m, by dsimp only; omega, ?_⟩, fun h => ?_⟩ ?_ rfl ?_
  ·dsimp only at h ⊢
   rw [if_neg (by simpa using h)] at hL
   rw [hL, List.nil_append]
  ·dsimp only at h ⊢
   rw [if_pos (by simpa using h)] at hL
   exact hL
  ·skip
   refine Agree.env _ ?_
   simp only [agw, seval, hn]
  rintro ⟨l, b, s4⟩ ⟨hok4, hn2, hy, hno⟩ ih
  dsimp only at hok4 hn2 hy hno ih ⊢
  cases b
  case' false =>
   obtain ⟨rfl, rfl⟩ := Prod.mk.inj (hno rfl)
   refine ARun.goK (k := [_, _, _]) 20 ?_
   simp only [W, seval, c26, hn, hi]
   refine hend () ⟨hok4, hn2⟩ _ _ ?_ rfl
   refine Agree.env _ ?_
   simp only [agw, seval, hn]
  case' true =>
   obtain ⟨hle, k, hk, hr⟩ := hy rfl
   cases k with
   | zero => omega
   | succ k =>
   rw [paramL] at hr
   obtain ⟨⟨x, s5⟩, hx⟩ : ∃ r, paramP m s4 = r := ⟨_, rfl⟩
   have hpx := param_pp bs h0 hl m s4 (by omega)
   have hd5 := (dn_param hx).le
   rw [hx] at hpx hr
   dsimp only at hpx hr
   unfold paV at hpx
   have hcap : (l.length + 1) * 64 ≤ 140737488355328 := by omega
   have hmap : l.map paD ++ [paD x] = (l ++ [x]).map paD := by simp
   have hlen : (l ++ [x]).length = l.length + 1 := by simp
   refine ARun.goK (k := [_, _, _]) 11 ?_
   simp only [W, seval, c26, hn, hi]
   refine PP.wit hpx hc hok4 (ha0 (by rfl)) fun hok5 => ?_
   refine ARun.drawE 6 [3, 5, 7] (fun S => S.boxes[N + 1]? = some (fuP tx l t)) (by kernel_rfl) (by kernel_rfl) (by kernel_rfl) (by kernel_rfl) (by kernel_rfl) ?_
   simp only [W, seval, c26]
   refine lexC_q (v := ?_) (by rfl) (by kernel_rfl) (fun S hS => ?_) ?_
   rotate_left
   ·simp only [W, seval, c26]
    exact rfl
   simp only [W, seval, c26]
   refine lexC_q (v := ?_) (by rfl) (by kernel_rfl) (fun S hS => ?_) ?_
   rotate_left
   ·try dsimp only at hS
    simp only [W, seval, c26, hS, fuP]
    exact rfl
   simp only [W, seval, c26]
   refine lexC_q (v := ?_) (by rfl) (by kernel_rfl) (fun S hS => ?_) ?_
   rotate_left
   ·simp only [W, seval, c26]
    exact rfl
   simp only [W, seval, c26]
   refine PP.lexc (hpx) hc hok4 hok5 ?_ (by rfl) (by kernel_rfl) ?_ ?_
   ·first | trivial | simp [bx_loc, bx_loc0, hn]
   ·simp only [W, seval, c26]
    exact ⟨_, _, rfl, rfl, by rfl, by simp only [W, seval, c26]⟩
   simp only [W, seval, c26]
   refine lexC_q (v := ?_) (by rfl) (by kernel_rfl) (fun S hS => ?_) ?_
   rotate_left
   ·simp only [W, seval, c26, mapD_nil, mapD_cons, Nat.reduceMul, rows4]
    exact rfl
   simp only [W, seval, c26]
   refine lexC_w (v := ?_) (S' := ?_) ?_ (by rfl) (by kernel_rfl) ?_ ?_
   rotate_left 2
   ·first | trivial | simp [bx_loc, bx_loc0, hn, ht, hcap, hmap, pa1, Nat.reduceMul]
   ·simp only [W, seval, c26, hn, ht, hcap, hmap, pa1, Nat.reduceMul]
    exact rfl
   simp only [W, seval, c26]
   refine lexC_end (by simp [bx_loc, hn]) ?_
   refine lexC_q (v := ?_) (by rfl) (by kernel_rfl) (fun S hS => ?_) ?_
   rotate_left
   ·simp only [W, seval, c26]
    exact rfl
   simp only [W, seval, c26]
   refine lexC_w (v := ?_) (S' := ?_) ?_ (by rfl) (by kernel_rfl) ?_ ?_
   rotate_left 2
   ·first | trivial | simp [bx_loc, bx_loc0, hn, fuP]
   ·simp only [W, seval, c26, hn, fuP]
    exact rfl
   simp only [W, seval, c26]
   refine lexC_end trivial ?_
   refine ARun.goK (k := [_, _, _, _]) 20 ?_
   simp only [W, seval, c26]
   obtain ⟨⟨b, s6⟩, hg_s6⟩ : ∃ r, gotP s5 [44] = r := ⟨_, rfl⟩
   have hp_s6 := got_pp bs h0 hl s5 [44]
   rw [hg_s6] at hp_s6
   dsimp only at hp_s6
   first
    | refine PP.call0 hp_s6 hc hok5 fun hok6 => ?_
    | refine PP.call hp_s6 hc hok5 fun hok6 => ?_
   rw [hg_s6] at hr
   have hd6 := (dn_got hg_s6).le
   cases b
   case' false =>
    dsimp only at hr
    obtain ⟨hr1, hr2⟩ := Prod.mk.inj hr
    refine ARun.goK 20 ?_
    simp only [W, seval, c26, hn, hi]
    refine ih (l ++ [x], false, s6) ⟨hok6, by dsimp only; omega, fun h => absurd h (by simp), fun _ => by rw [hr1, hr2]⟩ (by simp) _ _ ?_ (by dsimp only; rw [hlen]; rfl)
    refine Agree.env _ ?_
    simp only [agw, seval, hn]
   case' true =>
    have hlt := got_lt hg_s6
    dsimp only at hr
    refine ARun.goK 20 ?_
    simp only [W, seval, c26, hn, hi]
    refine ih (l ++ [x], true, s6) ⟨hok6, by dsimp only; omega, fun _ => ⟨by dsimp only; omega, k, by dsimp only; omega, by rw [← hr]; simp⟩, fun h => absurd h (by simp)⟩ (by simp; omega) _ _ ?_ (by dsimp only; rw [hlen]; rfl)
    refine Agree.env _ ?_
    simp only [agw, seval, hn]
 rintro ⟨⟩ ⟨hok3, hd3⟩
 have hd4 := (dn_want s3 [41]).le
 have hd5 := (dn_want (wantP s3 [41]) [40]).le
 refine ARun.go 20 ?_
 simp only [W, seval, c26, hn, hi]
 first
  | refine PP.call0 (want_pp bs h0 hl s3 [41]) hc hok3 fun hok4 => ?_
  | refine PP.call (want_pp bs h0 hl s3 [41]) hc hok3 fun hok4 => ?_
 refine ARun.go 20 ?_
 simp only [W, seval, c26, hn, hi]
 first
  | refine PP.call0 (want_pp bs h0 hl (wantP s3 [41]) [40]) hc hok4 fun hok5 => ?_
  | refine PP.call (want_pp bs h0 hl (wantP s3 [41]) [40]) hc hok4 fun hok5 => ?_
 generalize wantP (wantP s3 [41]) [40] = s4 at *
 obtain ⟨⟨r0, s5⟩, hR⟩ : ∃ r, typeL m m s4 = r := ⟨_, rfl⟩
 rw [hR] at hK
 dsimp only at hK
 refine ARun.go 2 ?_
 simp only [W, seval, c26]
 refine ARun.tokenB (N + 1) 2 _ [] (by rw [bx_loc (by simpa using hn)]; rfl) (by rfl) 3 (by omega) rfl ?_
 rw [bx_set_loc (by simpa using hn), List.append_assoc, List.length_append, ht]
 change ARun _ _ _ _ _ _ ⟨B.set c (bxP bs s4) ++ [[.d (.str []), .sl [] .full, .sl [] .full, .sl [] .full], fuR tx l0 [] t], T ++ [(l0.length, 4), (0, 3)]⟩ _
 refine ARun.go 10 ?_
 simp only [W, seval, c26]
 refine ARun.after [_, _] _ (fun _ : Unit => (envS 44 [(0, .ptr c 0), (2, .ptr N 0), (3, .ptr (N + 1) 0)], ⟨B.set c (bxP bs s5) ++ [[.d (.str []), .sl [] .full, .sl [] .full, .sl [] .full], fuR tx l0 r0 t], T ++ [(l0.length, 4), (r0.length, 3)]⟩)) (fun _ => OkP bs s5 ∧ mu s5 ≤ mu s4) ?_ ?_
 case refine_2 =>
  intro K' hend
  refine ARun.loopW (fun a : List TyT × Bool × Ps => (envS 44 [(0, .ptr c 0), (2, .ptr N 0), (3, .ptr (N + 1) 0), (5, .d (.bool a.2.1))], ⟨B.set c (bxP bs a.2.2) ++ [[.d (.str []), .sl [] .full, .sl [] .full, .sl [] .full], fuR tx l0 a.1 t], T ++ [(l0.length, 4), (a.1.length, 3)]⟩)) (fun a => OkP bs a.2.2 ∧ mu a.2.2 ≤ mu s4 ∧ (a.2.1 = true → a.1.length + mu a.2.2 ≤ mu s ∧ ∃ k, mu a.2.2 < k ∧ (a.1 ++ (typeL m k a.2.2).1, (typeL m k a.2.2).2) = (r0, s5)) ∧ (a.2.1 = false → (a.1, a.2.2) = (r0, s5))) (fun a => if a.2.1 = true then mu a.2.2 + 1 else 0) ([], true, s4) ⟨hok5, Nat.le_refl _, fun _ => ⟨by simp; omega, m, by dsimp only; omega, by dsimp only; rw [hR, List.nil_append]⟩, fun h => absurd h (by simp)⟩ ?_ rfl ?_
  ·skip
   refine Agree.env _ ?_
   simp only [agw, seval, hn]
  rintro ⟨l, b, s6⟩ ⟨hok6, hn2, hy, hno⟩ ih
  dsimp only at hok6 hn2 hy hno ih ⊢
  cases b
  case' false =>
   obtain ⟨rfl, rfl⟩ := Prod.mk.inj (hno rfl)
   refine ARun.goK (k := [_, _, _]) 20 ?_
   simp only [W, seval, c26, hn, hi]
   refine hend () ⟨hok6, hn2⟩ _ _ ?_ rfl
   refine Agree.env _ ?_
   simp only [agw, seval, hn]
  case' true =>
   obtain ⟨hle, k, hk, hr⟩ := hy rfl
   cases k with
   | zero => omega
   | succ k =>
   rw [typeL] at hr
   obtain ⟨⟨x, s7⟩, hx⟩ : ∃ r, typP m s6 = r := ⟨_, rfl⟩
   have hpx := typ_pp bs h0 hl m s6 (by omega)
   have hd7 := (dn_typ hx).le
   rw [hx] at hpx hr
   dsimp only at hpx hr
   unfold tyV at hpx
   have hcap : (l.length + 1) * 48 ≤ 140737488355328 := by omega
   have hmap : l.map tyD ++ [tyD x] = (l ++ [x]).map tyD := by simp
   have hlen : (l ++ [x]).length = l.length + 1 := by simp
   refine ARun.goK (k := [_, _, _]) 11 ?_
   simp only [W, seval, c26, hn, hi]
   refine PP.wit hpx hc hok6 (ha0 (by rfl)) fun hok7 => ?_
   refine ARun.drawE 6 [3, 5, 7] (fun S => S.boxes[N + 1]? = some (fuR tx l0 l t)) (by kernel_rfl) (by kernel_rfl) (by kernel_rfl) (by kernel_rfl) (by kernel_rfl) ?_
   simp only [W, seval, c26]
   refine lexC_q (v := ?_) (by rfl) (by kernel_rfl) (fun S hS => ?_) ?_
   rotate_left
   ·simp only [W, seval, c26]
    exact rfl
   simp only [W, seval, c26]
   refine lexC_q (v := ?_) (by rfl) (by kernel_rfl) (fun S hS => ?_) ?_
   rotate_left
   ·try dsimp only at hS
    simp only [W, seval, c26, hS, fuR]
    exact rfl
   simp only [W, seval, c26]
   refine lexC_q (v := ?_) (by rfl) (by kernel_rfl) (fun S hS => ?_) ?_
   rotate_left
   ·simp only [W, seval, c26]
    exact rfl
   simp only [W, seval, c26]
   refine PP.lexc (hpx) hc hok6 hok7 ?_ (by rfl) (by kernel_rfl) ?_ ?_
   ·first | trivial | simp [bx_loc, bx_loc0, hn]
   ·simp only [W, seval, c26]
    exact ⟨_, _, rfl, rfl, by rfl, by simp only [W, seval, c26]⟩
   simp only [W, seval, c26]
   refine lexC_q (v := ?_) (by rfl) (by kernel_rfl) (fun S hS => ?_) ?_
   rotate_left
   ·simp only [W, seval, c26, mapD_nil, mapD_cons, Nat.reduceMul, rows3]
    exact rfl
   simp only [W, seval, c26]
   refine lexC_w (v := ?_) (S' := ?_) ?_ (by rfl) (by kernel_rfl) ?_ ?_
   rotate_left 2
   ·first | trivial | simp [bx_loc, bx_loc0, hn, ht, hcap, hmap, tyr1, Nat.reduceMul]
   ·simp only [W, seval, c26, hn, ht, hcap, hmap, tyr1, Nat.reduceMul]
    exact rfl
   simp only [W, seval, c26]
   refine lexC_end (by simp [bx_loc, hn]) ?_
   refine lexC_q (v := ?_) (by rfl) (by kernel_rfl) (fun S hS => ?_) ?_
   rotate_left
   ·simp only [W, seval, c26]
    exact rfl
   simp only [W, seval, c26]
   refine lexC_w (v := ?_) (S' := ?_) ?_ (by rfl) (by kernel_rfl) ?_ ?_
   rotate_left 2
   ·first | trivial | simp [bx_loc, bx_loc0, hn, fuR]
   ·simp only [W, seval, c26, hn, fuR]
    exact rfl
   simp only [W, seval, c26]
   refine lexC_end trivial ?_
   refine ARun.goK (k := [_, _, _, _]) 20 ?_
   simp only [W, seval, c26]
   obtain ⟨⟨b, s8⟩, hg_s8⟩ : ∃ r, gotP s7 [44] = r := ⟨_, rfl⟩
   have hp_s8 := got_pp bs h0 hl s7 [44]
   rw [hg_s8] at hp_s8
   dsimp only at hp_s8
   first
    | refine PP.call0 hp_s8 hc hok7 fun hok8 => ?_
    | refine PP.call hp_s8 hc hok7 fun hok8 => ?_
   rw [hg_s8] at hr
   have hd8 := (dn_got hg_s8).le
   cases b
   case' false =>
    dsimp only at hr
    obtain ⟨hr1, hr2⟩ := Prod.mk.inj hr
    refine ARun.goK 20 ?_
    simp only [W, seval, c26, hn, hi]
    refine ih (l ++ [x], false, s8) ⟨hok8, by dsimp only; omega, fun h => absurd h (by simp), fun _ => by rw [hr1, hr2]⟩ (by simp) _ _ ?_ (by dsimp only; rw [hlen]; rfl)
    refine Agree.env _ ?_
    simp only [agw, seval, hn]
   case' true =>
    have hlt := got_lt hg_s8
    dsimp only at hr
    refine ARun.goK 20 ?_
    simp only [W, seval, c26, hn, hi]
    refine ih (l ++ [x], true, s8) ⟨hok8, by dsimp only; omega, fun _ => ⟨by dsimp only; omega, k, by dsimp only; omega, by rw [← hr]; simp⟩, fun h => absurd h (by simp)⟩ (by simp; omega) _ _ ?_ (by dsimp only; rw [hlen]; rfl)
    refine Agree.env _ ?_
    simp only [agw, seval, hn]
 rintro ⟨⟩ ⟨hok6, hd6⟩
 have hd7 := (dn_want s5 [41]).le
 have hbp := block_pp bs h0 hl hS m (wantP s5 [41]) (by omega) (by omega)
 obtain ⟨⟨b, s7⟩, hb⟩ : ∃ r, blockP S m (wantP s5 [41]) = r := ⟨_, rfl⟩
 rw [hb] at hbp hK
 dsimp only at hbp hK
 subst hK
 refine ARun.go 20 ?_
 simp only [W, seval, c26, hn, hi]
 first
  | refine PP.call0 (want_pp bs h0 hl s5 [41]) hc hok6 fun hok7 => ?_
  | refine PP.call (want_pp bs h0 hl s5 [41]) hc hok6 fun hok7 => ?_
 refine ARun.go 20 ?_
 simp only [W, seval, c26, hn, hi]
 refine PP.call hbp hc hok7 fun hok8 => ?_
 refine ARun.go 40 ?_
 simp only [W, seval, c26, hn, hi, fuR]
 refine retc (v := ?_) Tryz.func26 (by rfl) ?_ ?_
 rotate_left
 ·simp only [W, seval, c26, hn, hi]
  exact rfl
 refine PF.ret (fun _ _ => rfl) ?_
 refine ⟨?_, 0, hok8, rfl⟩
 have ht2 : ¬ t + 1 < t := by omega
 simp only [W, seval, c26, wk, wkL, fuV, List.length_set, ht, Nat.lt_irrefl, ht2]
def c21 := by
 have c := KK_of Tryz.f21 (by conv => lhs; cbv)
 dsimp only [KK, KxP, doO, opO, List.map_cons, List.map_nil, List.toList_toArray] at c
 exact c
def c28 := by
 have c := KK_of Tryz.f28 (by conv => lhs; cbv)
 dsimp only [KK, KxP, doO, opO, List.map_cons, List.map_nil, List.toList_toArray] at c
 exact c
theorem b28 : FnIs Tryz.prog 28 Tryz.f28 36 := ⟨Tryz.func28, by kernel_rfl⟩
theorem expr_ok (bs : List UInt8) (h0 : True) (hl : bs.length ≤ 400000) (hF : ∀ {E : EP} {n : Nat}, EOk bs E n → DnE E → FOk bs E n) : ∀ n : Nat, EOk bs (exprF true n) n
 | 0 => fun s h => absurd h (Nat.not_lt_zero _)
 | n + 1 => by
  have ih := expr_ok bs h0 hl hF n
  have hd := dn_expr true n
  have hO : OOk bs (operP true (exprF true n) (n + 1)) (n + 1) := fun s hs =>
   oper_pp bs h0 hl (P := primP true (exprF true n) (n + 1)) (fun s hs => prim_pp bs h0 hl ih hd (hF ih hd) (n + 1) (by omega) s hs) (DnE.of fun h => dn_prim hd h) ih hd (n + 1) (by omega) s (by omega)
  intro s hs
  exact climb_pp bs h0 hl hO (DnE.of fun h => dn_oper hd h) (n + 1) (Nat.le_refl _) 5 (by omega) 1 rfl s hs
theorem stmt_ok (bs : List UInt8) (h0 : True) (hl : bs.length ≤ 400000) (hE : ∀ n : Nat, EOk bs (exprF true n) n) : ∀ n : Nat, SOk bs (stmtF true n) n
 | 0 => ⟨fun s h => absurd h (Nat.not_lt_zero _), fun s h => absurd h (Nat.not_lt_zero _)⟩
 | n + 1 => by
  have ih := stmt_ok bs h0 hl hE n
  refine ⟨fun s hs => stmt_pp bs h0 hl (hE (n + 1)) (dn_expr true (n + 1)) ih (dn_stmtF true n) (n + 1) (by omega) s hs, fun s hs hp => ?_⟩
  exact stmt_lt (dn_expr true (n + 1)) (dn_stmtF true n) (m := n + 1) (by omega) (x := (stmtF true (n + 1) s).1) rfl hp
theorem AFn.bodyN {P : Program} {I : Inv} {fn : FuncId} {f : Func} {body : Code} {args : List V} {S : Mem} {R : V → Mem → Prop} (n : Nat) (hf : P.funcs[fn]? = some f) (hb : f.body = some body) (hname : (f.name == "runtime.NumGoroutine") = false) (hn : f.ntmps = n) (hl : args.length ≤ n)
 (h : ARun P I (S.boxes.length, S.toks.length) fn [.code body] (envS n (numbered 0 args)) S R) : AFn P I fn args S R :=
 AFn.enter hf hb hname (by rw [hn, envS_args n args hl]; exact h)
def startS (bs : List UInt8) : Ps := if (takeS bs 0).2 = 0 then ⟨wordsAt bs 0, 0, 0, false⟩ else ⟨[WordS.zero], (takeS bs 0).2, 0, false⟩
theorem words0 (bs : List UInt8) : wordsAt bs 0 = if (takeS bs 0).2 = 0 then (if (takeS bs 0).1.kind = 0 then [(takeS bs 0).1] else (takeS bs 0).1 :: wordsAt bs (takeS bs 0).1.next) else [w9] := wordsAt_eq bs 0 (Nat.zero_le _)
theorem start_w {bs : List UInt8} (h : (takeS bs 0).2 = 0) : (startS bs).w = (takeS bs 0).1 := by
 unfold startS
 rw [if_pos h, words0, if_pos h]
 unfold Ps.w
 split <;> rfl
theorem start_ok (bs : List UInt8) : OkP bs (startS bs) := by
 by_cases h : (takeS bs 0).2 = 0
 ·intro _
  rw [start_w h]
  refine ⟨take_kind bs 0, take_next_le bs 0 (Nat.zero_le _) h, ?_⟩
  unfold startS
  rw [if_pos h]
  dsimp only
  rw [words0, if_pos h]
  split <;> rfl
 ·refine ok_dead ?_
  unfold startS
  rw [if_neg h]
  have := take_err bs 0 (Nat.zero_le _)
  show ¬ (((takeS bs 0).2 : Nat) : Int) = 0
  have h' : ¬ (takeS bs ((0 : Nat) : Int)).2 = 0 := h
  omega
theorem bxP_zero (bs : List UInt8) : bxP bs ⟨[WordS.zero], 0, 0, false⟩ = [.d (.sl (byD bs)), .d (.int .i64 0), .d (.str []), .d (.int .u64 0), .d (.int .i64 0), .d (.int .i64 0), .d (.int .i64 0), .d (.int .i64 0), .d (.bool false)] := rfl
set_option maxHeartbeats 4000000 in
theorem open_ab (bs : List UInt8) (h0 : True) (hl : bs.length ≤ 400000) (B : List (List V)) (T : List (Nat × Nat)) : AFn Tryz.prog TabI 21 [.d (.sl (byD bs))] ⟨B, T⟩ (Same (.ptr B.length 0) ⟨B ++ [bxP bs (startS bs)], T⟩) := by
 obtain ⟨N, hn⟩ : ∃ N, B.length = N := ⟨_, rfl⟩
 have hnx := next_raw bs h0 hl ⟨[WordS.zero], 0, 0, false⟩ (startS bs) rfl (fun h => ⟨start_w h, by unfold startS; rw [if_pos (show (takeS bs 0).2 = 0 from h)]⟩) (fun h => by
  have h' : ¬ (takeS bs 0).2 = 0 := h
  unfold startS
  rw [if_neg h']
  exact ⟨rfl, rfl⟩) (by unfold startS; split <;> rfl) (by unfold startS; split <;> rfl) N (B ++ [[]]) T (by simp; omega)
 have hset : ∀ X : List V, (B ++ [[]]).set N X = B ++ [X] := fun X => by
  rw [List.set_append_right _ _ (by omega), hn, Nat.sub_self]
  rfl
 rw [hset, hset, bxP_zero] at hnx
 have hlen : (byD bs).length = bs.length := by simp [byD]
 have hbig : decide (400000 < (bs.length : Int)) = false := decide_eq_false (by omega)
 have hb0 : [D.sl (byD bs)] = [D.sl (byD bs)] := rfl
 rw [hn]
 refine AFn.bodyN (body := (kF Tryz.f21 0)) 15 Tryz.func21 (by kernel_rfl) (by kernel_rfl) (by kernel_rfl) (Nat.le_of_ble_eq_true rfl) ?_
 refine ARun.go 60 ?_
 simp only [W, seval, c21, hn, hlen, hbig]
 refine callS_fn hnx ?_
 rintro _ _ ⟨rfl, rfl⟩
 refine ARun.go 20 ?_
 simp only [W, seval, c21, hn]
 refine ARun.ret Tryz.func21 rfl (id ?_)
 exact ⟨rfl, rfl⟩
def endP (s : Ps) (r : Bool) : Int := if s.e = 0 then (if s.w.kind = 0 ∧ r = true then 0 else 51) else s.e
set_option maxHeartbeats 4000000 in
theorem end_ab (bs : List UInt8) (s : Ps) (r : Bool) (g : FuncId) (caps : List V) (c : Nat) (B : List (List V)) (T : List (Nat × Nat)) (hc : c < B.length) (hg : AFn Tryz.prog TabI g caps ⟨B.set c (bxP bs s), T⟩ (Same (.d (.bool r)) ⟨B.set c (bxP bs s), T⟩)) :
 AFn Tryz.prog TabI 28 [.ptr c 0, .func g [] caps] ⟨B.set c (bxP bs s), T⟩ fun v m => v = .d (.int .i64 (endP s r)) ∧ ∃ s', m = ⟨B.set c (bxP bs s'), T⟩ := by
 obtain ⟨N, hn⟩ : ∃ N, B.length = N := ⟨_, rfl⟩
 have hi : c < N := by omega
 have hfl := fail_raw bs s 51 c B T hc
 have hk0 := dec_nat s.w.kind 0
 simp only [Int.natCast_zero] at hk0
 by_cases he : s.e = 0
 case neg =>
  have e1 := decide_eq_false he
  have hr : endP s r = s.e := if_neg he
  rw [hr]
  refine b28.go 60 rfl fun hsm => ?_
  simp only [smw] at hsm
  simp only [W, seval, c28, hn, hi, bxP, e1]
  refine ARun.ret Tryz.func28 rfl (PF.ret0 (fun _ _ => rfl) ?_)
  exact ⟨rfl, s, rfl⟩
 have e1 := decide_eq_true he
 have hfs : failP s 51 = ⟨s.ws, 51, s.o, s.h⟩ := if_pos he
 by_cases hk : s.w.kind = 0
 case neg =>
  have hr : endP s r = 51 := by unfold endP; rw [if_pos he, if_neg (fun h => hk h.1)]
  rw [decide_eq_false hk] at hk0
  rw [hr]
  refine b28.go 60 rfl fun hsm => ?_
  simp only [smw] at hsm
  simp only [W, seval, c28, hn, hi, bxP, e1, hk0]
  refine callS_fn hfl ?_
  rintro _ _ ⟨rfl, rfl⟩
  rw [hfs]
  refine ARun.go 60 ?_
  simp only [W, seval, c28, hn, hi, bxP]
  refine ARun.ret Tryz.func28 rfl (PF.ret0 (fun _ _ => rfl) ?_)
  exact ⟨rfl, ⟨s.ws, 51, s.o, s.h⟩, rfl⟩
 rw [decide_eq_true hk] at hk0
 refine b28.go 60 rfl fun hsm => ?_
 simp only [smw] at hsm
 simp only [W, seval, c28, hn, hi, bxP, e1, hk0]
 refine callS_of (Q := Same (.d (.bool r)) ⟨B.set c (bxP bs s), T⟩) (by rw [List.nil_append, List.nil_append]; exact hg) ?_
 rintro _ _ ⟨rfl, rfl⟩
 cases r
 ·have hr : endP s false = 51 := by unfold endP; rw [if_pos he, if_neg (fun h => absurd h.2 (by decide))]
  rw [hr]
  refine ARun.go 60 ?_
  simp only [W, seval, c28, hn, hi]
  refine callS_fn hfl ?_
  rintro _ _ ⟨rfl, rfl⟩
  rw [hfs]
  refine ARun.go 60 ?_
  simp only [W, seval, c28, hn, hi, bxP]
  refine ARun.ret Tryz.func28 rfl (PF.ret0 (fun _ _ => rfl) ?_)
  exact ⟨rfl, ⟨s.ws, 51, s.o, s.h⟩, rfl⟩
 ·have hr : endP s true = 0 := by unfold endP; rw [if_pos he, if_pos ⟨hk, rfl⟩]
  rw [hr]
  refine ARun.go 60 ?_
  simp only [W, seval, c28, hn, hi, bxP]
  refine ARun.ret Tryz.func28 rfl (PF.ret0 (fun _ _ => rfl) ?_)
  refine ⟨?_, s, rfl⟩
  rw [← he]
  rfl
def c9 := by
 have c := KK_of Tryz.f9 (by conv => lhs; cbv)
 dsimp only [KK, KxP, doO, opO, List.map_cons, List.map_nil, List.toList_toArray] at c
 exact c
theorem b9 : FnIs Tryz.prog 9 Tryz.f9 56 := ⟨Tryz.func9, by kernel_rfl⟩
def c29 := by
 have c := KK_of Tryz.f29 (by conv => lhs; cbv)
 dsimp only [KK, KxP, doO, opO, List.map_cons, List.map_nil, List.toList_toArray] at c
 exact c
theorem b29 : FnIs Tryz.prog 29 Tryz.f29 4 := ⟨Tryz.func29, by kernel_rfl⟩
section
variable {bs : List UInt8} {f : FuncId} {ar : List V} {s s' : Ps} {v : V} {N : Nat} {B : List (List V)} {T : List (Nat × Nat)} {Z O : List V} {env : List V}
theorem setP3 (hn : B.length = N) (X Y : List V) : (B ++ [Z, O, Y]).set (N + 2) X = B ++ [Z, O, X] := by
 rw [List.set_append_right _ _ (by omega), hn, Nat.add_sub_cancel_left]
 rfl
theorem PP.fnP (h : PP bs f ar s v s') (hn : B.length = N) (hok : OkP bs s) : AFn Tryz.prog TabI f (.ptr (N + 2) 0 :: ar) ⟨B ++ [Z, O, bxP bs s], T⟩ fun v' m => v' = v ∧ OkP bs s' ∧ m = ⟨B ++ [Z, O, bxP bs s'], T⟩ := by
 have := h (N + 2) (B ++ [Z, O, []]) T 0 (by simp; omega) hok
 simp only [setP3 hn] at this
 refine this.mono ?_
 rintro v' m ⟨h1, _, h2, h3⟩
 exact ⟨h1, h2, h3⟩
theorem PP.callP {stop : Cont} {k : List Item} {d : Option Tmp} (h : PP bs f ar s v s') (hn : B.length = N) (hok : OkP bs s) (hk : OkP bs s' → stop k (setV env d v) ⟨B ++ [Z, O, bxP bs s'], T⟩) : callS Tryz.prog TabI stop (.func f [] []) (.ptr (N + 2) 0 :: ar) k d env ⟨B ++ [Z, O, bxP bs s], T⟩ :=
 callS_fn (PP.fnP h hn hok) fun _ _ ⟨e1, h2, e3⟩ => by rw [e1, e3]; exact hk h2
theorem PP.witP {z : Nat × Nat} {fn : FuncId} {k : List Item} {R : V → Mem → Prop} (h : PP bs f ar s v s') (hn : B.length = N) (hok : OkP bs s) (ha : ∀ x ∈ V.ptr (N + 2) 0 :: ar, ∃ y : Operand, evalV TabI env y = x) (hk : OkP bs s' → ARun Tryz.prog TabI z fn k env ⟨B ++ [Z, O, bxP bs s], T⟩ R) : ARun Tryz.prog TabI z fn k env ⟨B ++ [Z, O, bxP bs s], T⟩ R :=
 ARun.witness (PP.fnP h hn hok) ha fun ⟨_, _, _, hok', _⟩ => hk hok'
theorem PP.lexcP {W : List Nat} {MM : Mem → Prop} {K : List V → Mem → Prop} {o : Oper} {l : List Oper} {k : Nat} (h : PP bs f ar s v s') (hn : B.length = N) (hok : OkP bs s) (hok' : OkP bs s') (hS : MM ⟨B ++ [Z, O, bxP bs s], T⟩) (hk : W.contains k = true) (hg : o.guard = none)
 (h1 : ∃ q f0, o.op = .call q ∧ q.callee = .value f0 ∧ evalV TabI env f0 = .func f [] [] ∧ q.args.toList.map (evalV TabI env) = .ptr (N + 2) 0 :: ar) (h5 : lexC Tryz.prog TabI W MM K l (k + 1) (setV env o.dst v) ⟨B ++ [Z, O, bxP bs s'], T⟩) : lexC Tryz.prog TabI W MM K (o :: l) k env ⟨B ++ [Z, O, bxP bs s], T⟩ := by
 obtain ⟨q, f0, e1, e2, e3, e4⟩ := h1
 refine lexC_c (Q := fun v' m => v' = v ∧ OkP bs s' ∧ m = ⟨B ++ [Z, O, bxP bs s'], T⟩) hS hk hg e1 e2 e3 ⟨_, _, rfl, hok', rfl⟩ ?_ ?_
 ·rw [e4, List.nil_append, List.append_nil]
  exact PP.fnP h hn hok
 ·rintro v' S' ⟨rfl, _, rfl⟩
  exact h5
end
theorem haP {c : Nat} {env : List V} (q : Tmp) (h : evalV TabI env (.tmp q) = .ptr c 0) : ∀ x ∈ [V.ptr c 0], ∃ y : Operand, evalV TabI env y = x := by
 intro x hx
 obtain rfl := List.mem_singleton.1 hx
 exact ⟨_, h⟩
theorem retc2 {I : Inv} {z : Nat × Nat} {fn : FuncId} {R : V → Mem → Prop} {k : List Item} {env : List V} {S : Mem} {P : Program} {f : Func} {v : V} {a b : Nat} {t : TypeId} (hf : P.funcs[fn]? = some f) (hr : f.results.toList = [.cell a t, .tmp b]) (hv : opLoad P S t (env.getD a .undef) = some v) (hR : R (.tup [v, env.getD b .undef]) S) : ARun P I z fn (.code .ret :: k) env S R :=
 ARun.ret hf (by
  have h1 : resV1 P S env (.cell a t) = some v := hv
  rw [hr]
  simp only [resV, h1]
  rfl) hR
def finP (rg : PrT → Bool) (n : Nat) (s : Ps) : PrT × Int := if endP (progP true n s).2 (rg (progP true n s).1) = 0 then ((progP true n s).1, 0) else (⟨[], []⟩, endP (progP true n s).2 (rg (progP true n s).1))
theorem su1 (x : SuT) : rowsSz 2 [suD x] = true := rowsSz_su [x]
theorem fu1 (x : FuT) : rowsSz 4 [fuD x] = true := rowsSz_fu [x]
def prT (p : PrT) (t : Nat) : List V := [.sl (p.structs.map suD) (.own t), .sl (p.funcs.map fuD) (.own (t + 1))]
set_option maxHeartbeats 8000000 in
theorem parse_ab (bs : List UInt8) (h0 : True) (hl : bs.length ≤ 400000) (n : Nat) (hn1 : bs.length + 5 ≤ n) (hS : SOk bs (stmtF true n) n) (rg : PrT → Bool) (hR : ∀ p B T, AFn Tryz.prog TabI 14 [prV p] ⟨B, T⟩ (Same (.d (.bool (rg p))) ⟨B, T⟩)) (B : List (List V)) (T : List (Nat × Nat)) :
 AFn Tryz.prog TabI 9 [.d (.sl (byD bs))] ⟨B, T⟩ (Same (.tup [prV (finP rg n (startS bs)).1, .d (.int .i64 (finP rg n (startS bs)).2)]) ⟨B, T⟩) := by
 obtain ⟨N, hn⟩ : ∃ N, B.length = N := ⟨_, rfl⟩
 obtain ⟨t, ht⟩ : ∃ t, T.length = t := ⟨_, rfl⟩
 have hmu := (start_ok bs).mu_le
 obtain ⟨⟨p0, s0⟩, hP⟩ : ∃ r, progP true n (startS bs) = r := ⟨_, rfl⟩
 have hfin : finP rg n (startS bs) = if endP s0 (rg p0) = 0 then (p0, 0) else (⟨[], []⟩, endP s0 (rg p0)) := by unfold finP; rw [hP]
 rw [hfin]
 unfold progP at hP
 refine b9.go 20 rfl fun hsm => ?_
 simp only [smw] at hsm
 simp only [W, seval, c9, hn]
 have hop := open_ab bs h0 hl (B ++ [[.sl [] .full, .sl [] .full], [.sl [] .full, .sl [] .full]]) T
 rw [List.length_append, hn, List.append_assoc] at hop
 refine callS_fn hop ?_
 rintro _ _ ⟨rfl, rfl⟩
 have hd1 := (dn_want (startS bs) [112, 97, 99, 107, 97, 103, 101]).le
 obtain ⟨⟨tx, s2⟩, h2⟩ : ∃ r, nameP (wantP (startS bs) [112, 97, 99, 107, 97, 103, 101]) = r := ⟨_, rfl⟩
 have hd2 := (dn_name h2).le
 have hnp := name_pp bs h0 hl (wantP (startS bs) [112, 97, 99, 107, 97, 103, 101])
 rw [h2] at hP hnp
 dsimp only at hP hnp
 refine ARun.go 10 ?_
 simp only [W, seval, c9, hn]
 refine PP.callP (want_pp bs h0 hl (startS bs) [112, 97, 99, 107, 97, 103, 101]) hn (start_ok bs) fun hok1 => ?_
 refine ARun.go 10 ?_
 simp only [W, seval, c9, hn]
 refine PP.callP hnp hn hok1 fun hok2 => ?_
 refine ARun.go 2 ?_
 simp only [W, seval, c9]
 refine ARun.tokenB (N + 1) 0 _ [] (by rw [bx_loc hn]; rfl) (by rfl) 2 (by omega) rfl ?_
 rw [bx_set_loc hn]
 refine ARun.tokenB (N + 1) 1 [.sl [] (.own T.length), .sl [] .full] [] (by rw [bx_loc hn]; rfl) (by rfl) 4 (by omega) rfl ?_
 rw [bx_set_loc hn, List.append_assoc, List.length_append, ht]
 change ARun _ _ _ _ _ _ ⟨B ++ [[.sl [] .full, .sl [] .full], prT ⟨[], []⟩ t, bxP bs s2], T ++ [(0, 2), (0, 4)]⟩ _
 refine ARun.go 5 ?_
 simp only [W, seval, c9]
 refine ARun.after [_, _] _ (fun _ : Unit => (envS 56 [(2, .ptr N 0), (4, .ptr (N + 1) 0), (5, .ptr (N + 2) 0)], ⟨B ++ [[.sl [] .full, .sl [] .full], prT p0 t, bxP bs s0], T ++ [(p0.structs.length, 2), (p0.funcs.length, 4)]⟩)) (fun _ => OkP bs s0) ?_ ?_
 case refine_2 =>
  intro K' hend
  refine ARun.loopW (fun a : PrT × Ps => (envS 56 [(2, .ptr N 0), (4, .ptr (N + 1) 0), (5, .ptr (N + 2) 0)], ⟨B ++ [[.sl [] .full, .sl [] .full], prT a.1 t, bxP bs a.2], T ++ [(a.1.structs.length, 2), (a.1.funcs.length, 4)]⟩)) (fun a => OkP bs a.2 ∧ a.1.structs.length + a.1.funcs.length + mu a.2 ≤ mu s2 ∧ ∃ q, mu a.2 < q ∧ declL (stmtF true n) n q a.2 a.1 = (p0, s0)) (fun a => mu a.2) (⟨[], []⟩, s2) ⟨hok2, by simp, n, by dsimp only; omega, hP⟩ ?_ rfl ?_
  ·skip
   refine Agree.env _ ?_
   simp only [agw, seval, hn]
  rintro ⟨p, s5⟩ ⟨hok5, hle, q, hq, hr⟩ ih
  dsimp only at hok5 hle hq hr ih ⊢
  cases q with
  | zero => omega
  | succ q =>
  rw [declL] at hr
  have hk0 := dec_nat s5.w.kind 0
  simp only [Int.natCast_zero] at hk0
  by_cases he : s5.e = 0
  case neg =>
   have e1 := decide_eq_false he
   rw [if_neg (fun h => he h.1)] at hr
   obtain ⟨rfl, rfl⟩ := Prod.mk.inj hr
   refine ARun.goK (k := [_, _, _]) 80 ?_
   simp only [W, seval, c9, hn, bxP, e1]
   refine hend () hok5 _ _ ?_ rfl
   refine Agree.env _ ?_
   simp only [agw, seval, hn]
  have e1 := decide_eq_true he
  by_cases hk : s5.w.kind = 0
  case pos =>
   rw [decide_eq_true hk] at hk0
   rw [if_neg (fun h => h.2 hk)] at hr
   obtain ⟨rfl, rfl⟩ := Prod.mk.inj hr
   refine ARun.goK (k := [_, _, _]) 80 ?_
   simp only [W, seval, c9, hn, bxP, e1, hk0]
   refine hend () hok5 _ _ ?_ rfl
   refine Agree.env _ ?_
   simp only [agw, seval, hn]
  rw [decide_eq_false hk] at hk0
  rw [if_pos ⟨he, hk⟩] at hr
  have hmp : 0 < mu s5 := by rw [mu_live he, (hok5 he).2.2]; simp
  obtain ⟨⟨b, s6⟩, h6⟩ : ∃ r, gotP s5 [116, 121, 112, 101] = r := ⟨_, rfl⟩
  have hp6 := got_pp bs h0 hl s5 [116, 121, 112, 101]
  rw [h6] at hp6 hr
  dsimp only at hp6
  refine ARun.goK (k := [_, _, _]) 80 ?_
  simp only [W, seval, c9, hn, bxP, e1, hk0]
  refine PP.callP hp6 hn hok5 fun hok6 => ?_
  cases b
  case' true =>
   have hlt := got_lt h6
   dsimp only at hr
   obtain ⟨⟨x, s7⟩, hx⟩ : ∃ r, structP n s6 = r := ⟨_, rfl⟩
   have hpx := struct_pp bs h0 hl n s6 (by omega)
   have hd7 := (dn_struct hx).le
   rw [hx] at hpx hr
   dsimp only at hpx hr
   unfold suV at hpx
   have hcap : (p.structs.length + 1) * 40 ≤ 140737488355328 := by omega
   have hmap : p.structs.map suD ++ [suD x] = (p.structs ++ [x]).map suD := by simp
   have hlen : (p.structs ++ [x]).length = p.structs.length + 1 := by simp
   refine ARun.goK 7 ?_
   simp only [W, seval, c9, hn]
   refine PP.witP hpx hn hok6 (haP 5 (by rfl)) fun hok7 => ?_
   refine ARun.drawE 6 [3, 5, 7] (fun S => S.boxes[N + 1]? = some (prT p t)) (by kernel_rfl) (by kernel_rfl) (by kernel_rfl) (by kernel_rfl) (by kernel_rfl) ?_
   simp only [W, seval, c9]
   refine lexC_q (v := ?_) (by rfl) (by kernel_rfl) (fun S hS => ?_) ?_
   rotate_left
   ·simp only [W, seval, c9]
    exact rfl
   simp only [W, seval, c9]
   refine lexC_q (v := ?_) (by rfl) (by kernel_rfl) (fun S hS => ?_) ?_
   rotate_left
   ·try dsimp only at hS
    simp only [W, seval, c9, hS, prT]
    exact rfl
   simp only [W, seval, c9]
   refine lexC_q (v := ?_) (by rfl) (by kernel_rfl) (fun S hS => ?_) ?_
   rotate_left
   ·simp only [W, seval, c9]
    exact rfl
   simp only [W, seval, c9]
   refine PP.lexcP hpx hn hok6 hok7 (by simp [bx_loc, hn]) (by rfl) (by kernel_rfl) ?_ ?_
   ·simp only [W, seval, c9]
    exact ⟨_, _, rfl, rfl, by rfl, by rfl⟩
   simp only [W, seval, c9]
   refine lexC_q (v := ?_) (by rfl) (by kernel_rfl) (fun S hS => ?_) ?_
   rotate_left
   ·simp only [W, seval, c9, mapD_nil, mapD_cons, Nat.reduceMul, ← suD_eq]
    exact rfl
   simp only [W, seval, c9]
   refine lexC_w (v := ?_) (S' := ?_) ?_ (by rfl) (by kernel_rfl) ?_ ?_
   rotate_left 2
   ·first | trivial | simp [bx_loc, bx_loc0, hn, ht, hcap, hmap, su1, Nat.reduceMul]
   ·simp only [W, seval, c9, hn, ht, hcap, hmap, su1, Nat.reduceMul]
    exact rfl
   simp only [W, seval, c9]
   refine lexC_end (by simp [bx_loc, hn]) ?_
   refine lexC_q (v := ?_) (by rfl) (by kernel_rfl) (fun S hS => ?_) ?_
   rotate_left
   ·simp only [W, seval, c9]
    exact rfl
   simp only [W, seval, c9]
   refine lexC_w (v := ?_) (S' := ?_) ?_ (by rfl) (by kernel_rfl) ?_ ?_
   rotate_left 2
   ·first | trivial | simp [bx_loc, bx_loc0, hn, prT]
   ·simp only [W, seval, c9, hn, prT]
    exact rfl
   simp only [W, seval, c9]
   refine lexC_end trivial ?_
   refine ARun.goK (k := [_, _, _, _]) 5 ?_
   simp only [W, seval, c9]
   refine ih (⟨p.structs ++ [x], p.funcs⟩, s7) ⟨hok7, by dsimp only; omega, q, by dsimp only; omega, hr⟩ (by dsimp only; omega) _ _ ?_ (by dsimp only; rw [hlen]; rfl)
   refine Agree.env _ ?_
   simp only [agw, seval, hn]
  have e6 := got_no h6
  subst e6
  dsimp only at hr
  obtain ⟨⟨b, s7⟩, h7⟩ : ∃ r, gotP s6 [102, 117, 110, 99] = r := ⟨_, rfl⟩
  have hp7 := got_pp bs h0 hl s6 [102, 117, 110, 99]
  rw [h7] at hp7 hr
  dsimp only at hp7
  refine ARun.goK 20 ?_
  simp only [W, seval, c9, hn]
  refine PP.callP hp7 hn hok6 fun hok7 => ?_
  cases b
  case' true =>
   have hlt := got_lt h7
   dsimp only at hr
   obtain ⟨⟨x, s8⟩, hx⟩ : ∃ r, funcP (stmtF true n) n s7 = r := ⟨_, rfl⟩
   have hpx := func_pp bs h0 hl hS n (Nat.le_refl _) s7 (by omega)
   have hd7 := (dn_func (dn_stmtF true n) hx).le
   rw [hx] at hpx hr
   dsimp only at hpx hr
   unfold fuV at hpx
   have hcap : (p.funcs.length + 1) * 88 ≤ 140737488355328 := by omega
   have hmap : p.funcs.map fuD ++ [fuD x] = (p.funcs ++ [x]).map fuD := by simp
   have hlen : (p.funcs ++ [x]).length = p.funcs.length + 1 := by simp
   refine ARun.goK 7 ?_
   simp only [W, seval, c9, hn]
   refine PP.witP hpx hn hok7 (haP 5 (by rfl)) fun hok8 => ?_
   refine ARun.drawE 6 [3, 5, 7] (fun S => S.boxes[N + 1]? = some (prT p t)) (by kernel_rfl) (by kernel_rfl) (by kernel_rfl) (by kernel_rfl) (by kernel_rfl) ?_
   simp only [W, seval, c9]
   refine lexC_q (v := ?_) (by rfl) (by kernel_rfl) (fun S hS => ?_) ?_
   rotate_left
   ·simp only [W, seval, c9]
    exact rfl
   simp only [W, seval, c9]
   refine lexC_q (v := ?_) (by rfl) (by kernel_rfl) (fun S hS => ?_) ?_
   rotate_left
   ·try dsimp only at hS
    simp only [W, seval, c9, hS, prT]
    exact rfl
   simp only [W, seval, c9]
   refine lexC_q (v := ?_) (by rfl) (by kernel_rfl) (fun S hS => ?_) ?_
   rotate_left
   ·simp only [W, seval, c9]
    exact rfl
   simp only [W, seval, c9]
   refine PP.lexcP hpx hn hok7 hok8 (by simp [bx_loc, hn]) (by rfl) (by kernel_rfl) ?_ ?_
   ·simp only [W, seval, c9]
    exact ⟨_, _, rfl, rfl, by rfl, by rfl⟩
   simp only [W, seval, c9]
   refine lexC_q (v := ?_) (by rfl) (by kernel_rfl) (fun S hS => ?_) ?_
   rotate_left
   ·simp only [W, seval, c9, mapD_nil, mapD_cons, Nat.reduceMul, ← fuD_eq]
    exact rfl
   simp only [W, seval, c9]
   refine lexC_w (v := ?_) (S' := ?_) ?_ (by rfl) (by kernel_rfl) ?_ ?_
   rotate_left 2
   ·first | trivial | simp [bx_loc, bx_loc0, hn, ht, hcap, hmap, fu1, Nat.reduceMul]
   ·simp only [W, seval, c9, hn, ht, hcap, hmap, fu1, Nat.reduceMul]
    exact rfl
   simp only [W, seval, c9]
   refine lexC_end (by simp [bx_loc, hn]) ?_
   refine lexC_q (v := ?_) (by rfl) (by kernel_rfl) (fun S hS => ?_) ?_
   rotate_left
   ·simp only [W, seval, c9]
    exact rfl
   simp only [W, seval, c9]
   refine lexC_w (v := ?_) (S' := ?_) ?_ (by rfl) (by kernel_rfl) ?_ ?_
   rotate_left 2
   ·first | trivial | simp [bx_loc, bx_loc0, hn, prT]
   ·simp only [W, seval, c9, hn, prT]
    exact rfl
   simp only [W, seval, c9]
   refine lexC_end trivial ?_
   refine ARun.goK (k := [_, _, _, _]) 5 ?_
   simp only [W, seval, c9]
   refine ih (⟨p.structs, p.funcs ++ [x]⟩, s8) ⟨hok8, by dsimp only; omega, q, by dsimp only; omega, hr⟩ (by dsimp only; omega) _ _ ?_ (by dsimp only; rw [hlen]; rfl)
   refine Agree.env _ ?_
   simp only [agw, seval, hn]
  have e7 := got_no h7
  subst e7
  dsimp only at hr
  have hlt := fail_lt hmp
  refine ARun.goK 20 ?_
  simp only [W, seval, c9, hn]
  refine PP.callP (fail_pp bs s7 51 (by decide)) hn hok7 fun hok8 => ?_
  refine ARun.goK 20 ?_
  simp only [W, seval, c9, hn]
  refine ih (p, failP s7 51) ⟨hok8, by dsimp only; omega, q, by dsimp only; omega, hr⟩ (by dsimp only; omega) _ _ ?_ rfl
  refine Agree.env _ ?_
  simp only [agw, seval, hn]
 rintro ⟨⟩ hok0
 refine ARun.plainJ 1 _ [.d (.sl (p0.structs.map suD)), .d (.sl (p0.funcs.map fuD))] (by rfl) (.sl (.sl .nil)) ?_
 change ARun _ _ _ _ _ _ ⟨B ++ [[.sl [] .full, .sl [] .full], [.d (.sl (p0.structs.map suD)), .d (.sl (p0.funcs.map fuD))], bxP bs s0], _⟩ _
 have hcl : AFn Tryz.prog TabI 29 [.ptr (N + 1) 0] ⟨B ++ [[.sl [] .full, .sl [] .full], [.d (.sl (p0.structs.map suD)), .d (.sl (p0.funcs.map fuD))], bxP bs s0], T ++ [(p0.structs.length, 2), (p0.funcs.length, 4)]⟩ (Same (.d (.bool (rg p0))) ⟨B ++ [[.sl [] .full, .sl [] .full], [.d (.sl (p0.structs.map suD)), .d (.sl (p0.funcs.map fuD))], bxP bs s0], T ++ [(p0.structs.length, 2), (p0.funcs.length, 4)]⟩) := by
  refine b29.go 20 rfl fun hsm => ?_
  simp only [smw] at hsm
  simp only [W, seval, c29, hn]
  refine callS_fn (hR p0 _ _) ?_
  rintro _ _ ⟨rfl, rfl⟩
  refine ARun.go 20 ?_
  simp only [W, seval, c29]
  refine ARun.ret Tryz.func29 rfl (Left.none ?_)
  exact ⟨rfl, rfl⟩
 have hen := end_ab bs s0 (rg p0) 29 [.ptr (N + 1) 0] (N + 2) (B ++ [[.sl [] .full, .sl [] .full], [.d (.sl (p0.structs.map suD)), .d (.sl (p0.funcs.map fuD))], []]) (T ++ [(p0.structs.length, 2), (p0.funcs.length, 4)]) (by simp; omega) (by rw [setP3 hn]; exact hcl)
 rw [setP3 hn] at hen
 simp only [setP3 hn] at hen
 refine ARun.go 20 ?_
 simp only [W, seval, c9, hn]
 refine callS_fn hen ?_
 rintro _ _ ⟨rfl, s9, rfl⟩
 generalize endP s0 (rg p0) = e at *
 by_cases he : e = 0
 ·have e1 := decide_eq_true he
  rw [if_pos he]
  refine ARun.go 60 ?_
  simp only [W, seval, c9, hn, e1]
  refine retc2 (v := ?_) Tryz.func9 (by rfl) ?_ ?_
  rotate_left
  ·simp only [W, seval, c9, hn]
   exact rfl
  refine Left.all ?_
  simp only [W, seval, c9, wk, wkL, prV]
  exact ⟨rfl, rfl⟩
 ·have e1 := decide_eq_false he
  rw [if_neg he]
  refine ARun.go 60 ?_
  simp only [W, seval, c9, hn, e1]
  refine retc2 (v := ?_) Tryz.func9 (by rfl) ?_ ?_
  rotate_left
  ·simp only [W, seval, c9, hn]
   exact rfl
  refine Left.all ?_
  simp only [W, seval, c9, wk, wkL, prV]
  exact ⟨rfl, rfl⟩
def c190 := by
 have c := KK_of Tryz.f190 (by conv => lhs; cbv)
 dsimp only [KK, KxP, doO, opO, List.map_cons, List.map_nil, List.toList_toArray] at c
 exact c
theorem b190 : FnIs Tryz.prog 190 Tryz.f190 44 := ⟨Tryz.func190, by kernel_rfl⟩
def xF (tx : List UInt8) (ts : List (List UInt8)) (t : Nat) (v : V) : List V := [.d (.int .i64 14), .d (.str []), .d (.int .u64 0), .d (.int .i64 7), .d (.str tx), .sl [] .full, .sl (ssD ts) (.own t), v]
theorem ss1 (x : List UInt8) : rowsSz 1 [[D.str x]] = true := rfl
theorem ssD_snoc (l : List (List UInt8)) (x : List UInt8) : ssD l ++ [[D.str x]] = ssD (l ++ [x]) := by simp [ssD]
abbrev KidsIs (N : Nat) (G : List (List V)) (xs : List ExT) (v : V) : Prop := BxIs (N + 2) 8 G (xs.map exD) v
theorem frz_boxes {B J : List (List V)} {T : List (Nat × Nat)} {c n i : Nat} {x y : List V} {rows : List (List D)} (hf : Fits ⟨B.set c x ++ J, T⟩) (hn : B.length + J.length = n) (hy : ∀ n m, y.all (fit n m) = true) : (B.set c y).map (·.map (frz n i rows)) = B.set c y := by
 have hall : ∀ vs : List V, vs.all (fit n T.length) = true → vs.map (frz n i rows) = vs := by
  intro vs hvs
  conv => rhs; rw [← List.map_id vs]
  exact List.map_congr_left fun v hv => frz_fit v (List.all_eq_true.1 hvs v hv)
 conv => rhs; rw [← List.map_id (B.set c y)]
 refine List.map_congr_left fun vs hvs => hall vs ?_
 obtain ⟨j, hj, rfl⟩ := List.mem_iff_getElem.1 hvs
 have hj' : j < B.length := by simpa using hj
 by_cases e : c = j
 ·subst e
  rw [List.getElem_set_self]
  exact hy _ _
 ·rw [List.getElem_set_ne e]
  have := hf B[j] (List.mem_append.2 (.inl (List.mem_iff_getElem.2 ⟨j, by simpa using hj', by rw [List.getElem_set_ne e]⟩)))
  simpa [hn] using this
theorem frz_box {B J : List (List V)} {T : List (Nat × Nat)} {n i : Nat} {Z : List V} {rows : List (List D)} (hf : Fits ⟨B ++ J, T⟩) (hZ : Z ∈ J) (hn : B.length + J.length = n) : Z.map (frz n i rows) = Z := by
 have := hf Z (List.mem_append.2 (.inr hZ))
 conv => rhs; rw [← List.map_id Z]
 exact List.map_congr_left fun v hv => frz_fit (m := T.length) v (by simpa [hn] using List.all_eq_true.1 this v hv)
theorem left_two {B G : List (List V)} {T K : List (Nat × Nat)} {c : Nat} {x y Z e e' : List V} {R : V → Mem → Prop} {v : V} (hc : c < B.length) (hy : ∀ n m, y.all (fit n m) = true) (he : ∀ n m, e'.all (fit n m) = true) (h : R (wk (B.set c x ++ [Z, e]).length T.length v) ⟨B.set c y ++ [Z, e'], T⟩) : Ab.Left ⟨B.set c x ++ [Z, e], T⟩ R v ⟨B.set c y ++ (Z :: e' :: G), T ++ K⟩ := by
 have h1 := Ab.Left.of (B := B.set c x ++ [Z, e]) (L := B.set c y ++ [Z, e']) (J := G) (T := T) (U := T) (K := K) (R := R) (v := v) (by simp) rfl (by
  have := ((FitL.refl (B.set c x ++ [Z, e]).length T.length (B.set c x ++ [Z, e])).set c (hy _ _)).set (B.length + 1) (he _ _)
  rw [List.set_append_left _ _ (by simpa using hc), List.set_set, List.set_append_right _ _ (by simp)] at this
  simpa using this) h
 simpa using h1
set_option maxHeartbeats 8000000 in
theorem fields_pp (bs : List UInt8) (h0 : True) (hl : bs.length ≤ 400000) {E : EP} {n : Nat} (hE : EOk bs E n) (hd : DnE E) : FOk bs E n := by
 intro M s tx Z c B T hs hM hc hok
 obtain ⟨N, hn⟩ : ∃ N, B.length = N := ⟨_, rfl⟩
 obtain ⟨t, ht⟩ : ∃ t, T.length = t := ⟨_, rfl⟩
 have hi : c < N := by omega
 have hmu := hok.mu_le
 obtain ⟨⟨⟨ts0, xs0⟩, s0⟩, hL⟩ : ∃ r, fldL E M s = r := ⟨_, rfl⟩
 rw [hL, hn]
 dsimp only
 refine b190.go 0 rfl fun hsm => ?_
 simp only [smw] at hsm
 simp only [W, seval, c190, hn, hi]
 refine ARun.fits fun hf => ?_
 refine ARun.tokenB (N + 1) 6 _ [] (by rw [bx_loc (by simpa using hn)]; rfl) (by rfl) 1 (by omega) rfl ?_
 rw [bx_set_loc (by simpa using hn)]
 change ARun _ _ _ _ _ _ ⟨B.set c (bxP bs s) ++ [Z, xF tx [] T.length (.sl [] .full)], T ++ [(0, 1)]⟩ _
 rw [ht]
 refine ARun.go 5 ?_
 simp only [W, seval, c190]
 refine ARun.after [_, _] _ (fun a : List (List V) × V => (envS 44 [(0, .ptr c 0), (1, .ptr (N + 1) 0)], ⟨B.set c (bxP bs s0) ++ (Z :: xF tx ts0 t a.2 :: a.1), T ++ [(ts0.length, 1)]⟩)) (fun a => OkP bs s0 ∧ KidsIs N a.1 xs0 a.2) ?_ ?_
 ·rintro ⟨G, v⟩ ⟨hok0, hk⟩
  refine ARun.go 20 ?_
  simp only [W, seval, c190, hn, hi]
  first
   | refine PP.call0 (want_pp bs h0 hl s0 [125]) hc hok0 fun hok1 => ?_
   | refine PP.call (want_pp bs h0 hl s0 [125]) hc hok0 fun hok1 => ?_
  refine ARun.go 20 ?_
  simp only [W, seval, c190, hn, hi]
  rcases hk with ⟨_, hx0, hv⟩ | ⟨G0, cap, hG, hv, hk⟩
  ·obtain rfl : xs0 = [] := by simpa using hx0
   dsimp only at hv ⊢
   subst hv
   refine ARun.plainJ 1 _ (exL (.mk 14 [] 0 (.mk 7 tx []) ts0 [])) (by rfl) (.same (.same (.same (.same (.same (.sl (.sl (.sl .nil)))))))) ?_
   refine ARun.fin Tryz.func190 rfl (left_two hc (fun _ _ => rfl) (fun _ _ => rfl) ?_)
   exact ⟨rfl, hok1, rfl⟩
  ·dsimp only at hG hv ⊢
   have hkb : BxIs (B.set c (bxP bs (wantP s0 [125])) ++ [Z, xF tx ts0 t v]).length 8 G (xs0.map exD) v := by
    rw [List.length_append, List.length_set, hn]
    exact .inr ⟨G0, cap, hG, hv, hk⟩
   have hsp : B.set c (bxP bs (wantP s0 [125])) ++ (Z :: xF tx ts0 t v :: G) = (B.set c (bxP bs (wantP s0 [125])) ++ [Z, xF tx ts0 t v]) ++ (G ++ []) := by simp
   rw [hsp]
   rw [hv] at hkb ⊢
   refine ARun.freeze (by omega) hkb ⟨by simp [hn], by simp [ht]⟩ ?_
   have hln : (B.set c (bxP bs (wantP s0 [125])) ++ [Z, xF tx ts0 t (.bx (N + 2 + G0.length) (xs0.map exD).length cap)]).length = N + 2 := by simp [hn]
   have hlt : ¬ (N + 2 + G0.length < N + 2) := by omega
   rw [hln, envS_map _ _ (by simp [frz]), List.map_append, frz_boxes hf (by simp [hn]) (fun _ _ => rfl)]
   have hxm : (xF tx ts0 t (.bx (N + 2 + G0.length) (xs0.map exD).length cap)).map (frz (N + 2) (N + 2 + G0.length) (xs0.map exD)) = xF tx ts0 t (.d (.sl (xs0.map exD))) := by simp [xF, frz, hlt]
   have hzm := frz_box (n := N + 2) (i := N + 2 + G0.length) (rows := xs0.map exD) (Z := Z) hf (by simp) (by simp [hn])
   simp only [List.map_cons, List.map_nil, hzm, hxm]
   refine ARun.plainJ 1 _ (exL (.mk 14 [] 0 (.mk 7 tx []) ts0 xs0)) (by rfl) (.same (.same (.same (.same (.same (.sl (.sl (.same .nil)))))))) ?_
   refine ARun.fin Tryz.func190 rfl (left_two (G := []) hc (fun _ _ => rfl) (fun _ _ => rfl) ?_)
   exact ⟨rfl, hok1, rfl⟩
 intro K' hend
 refine ARun.loopW (fun a : ((List (List UInt8) × List ExT) × (List (List V) × V)) × Ps => (envS 44 [(0, .ptr c 0), (1, .ptr (N + 1) 0)], ⟨B.set c (bxP bs a.2) ++ (Z :: xF tx a.1.1.1 t a.1.2.2 :: a.1.2.1), T ++ [(a.1.1.1.length, 1)]⟩)) (fun a => OkP bs a.2 ∧ KidsIs N a.1.2.1 a.1.1.2 a.1.2.2 ∧ a.1.1.1.length = a.1.1.2.length ∧ a.1.1.2.length + mu a.2 ≤ mu s ∧ ∃ q, mu a.2 < q ∧ ((a.1.1.1 ++ (fldL E q a.2).1.1, a.1.1.2 ++ (fldL E q a.2).1.2), (fldL E q a.2).2) = ((ts0, xs0), s0)) (fun a => mu a.2) ((([], []), ([], .sl [] .full)), s) ⟨hok, .inl ⟨rfl, rfl, rfl⟩, rfl, by simp, M, hM, by dsimp only; rw [hL]; simp⟩ ?_ rfl ?_
 ·skip
  refine Agree.env _ ?_
  simp only [agw, seval, hn]
 rintro ⟨⟨⟨ts, xs⟩, G, v⟩, s5⟩ ⟨hok5, hk, hll, hle, q, hq, hr⟩ ih
 dsimp only at hok5 hk hll hle hq hr ih ⊢
 cases q with
 | zero => omega
 | succ q =>
 rw [fldL] at hr
 by_cases he : s5.e = 0
 case neg =>
  have e1 := decide_eq_false he
  rw [if_neg (fun h => he h.1)] at hr
  dsimp only at hr
  rw [List.append_nil, List.append_nil] at hr
  obtain ⟨h1, rfl⟩ := Prod.mk.inj hr
  obtain ⟨rfl, rfl⟩ := Prod.mk.inj h1
  refine ARun.goK (k := [_, _, _]) 80 ?_
  simp only [W, seval, c190, hn, hi, bxP, e1]
  refine hend (G, v) ⟨hok5, hk⟩ _ _ ?_ rfl
  refine Agree.env _ ?_
  simp only [agw, seval, hn]
 have e1 := decide_eq_true he
 refine ARun.goK (k := [_, _, _]) 80 ?_
 simp only [W, seval, c190, hn, hi, bxP, e1]
 refine PP.call (is_pp bs s5 [125]) hc hok5 fun _ => ?_
 cases q1 : isP s5 [125]
 case' true =>
  rw [if_neg (fun h => by rw [q1] at h; exact absurd h.2 (by decide))] at hr
  dsimp only at hr
  rw [List.append_nil, List.append_nil] at hr
  obtain ⟨h1, rfl⟩ := Prod.mk.inj hr
  obtain ⟨rfl, rfl⟩ := Prod.mk.inj h1
  refine ARun.goK 80 ?_
  simp only [W, seval, c190, hn, hi]
  refine hend (G, v) ⟨hok5, hk⟩ _ _ ?_ rfl
  refine Agree.env _ ?_
  simp only [agw, seval, hn]
 case' false =>
  rw [if_pos ⟨he, q1⟩] at hr
  obtain ⟨⟨tn, s6⟩, hx⟩ : ∃ r, nameP s5 = r := ⟨_, rfl⟩
  have hpx := name_pp bs h0 hl s5
  have hdx := (dn_name hx).le
  rw [hx] at hpx hr
  dsimp only at hpx hr
  have hcap : (ts.length + 1) * 16 ≤ 140737488355328 := by omega
  have hcap2 : (xs.length + 1) * 128 ≤ 140737488355328 := by omega
  refine ARun.goK 10 ?_
  simp only [W, seval, c190, hn, hi]
  refine PP.wit hpx hc hok5 (ha0 (by rfl)) fun hok6 => ?_
  refine ARun.drawE 9 [6, 8, 11] (fun S => S.boxes[N + 1]? = some (xF tx ts t v)) (by kernel_rfl) (by kernel_rfl) (by kernel_rfl) (by kernel_rfl) (by kernel_rfl) ?_
  simp only [W, seval, c190]
  refine lexC_q (v := ?_) (by rfl) (by kernel_rfl) (fun S hS => ?_) ?_
  rotate_left
  ·simp only [W, seval, c190]
   exact rfl
  simp only [W, seval, c190]
  refine lexC_q (v := ?_) (by rfl) (by kernel_rfl) (fun S hS => ?_) ?_
  rotate_left
  ·simp only [W, seval, c190]
   exact rfl
  simp only [W, seval, c190]
  refine lexC_q (v := ?_) (by rfl) (by kernel_rfl) (fun S hS => ?_) ?_
  rotate_left
  ·simp only [W, seval, c190]
   exact rfl
  simp only [W, seval, c190]
  refine lexC_q (v := ?_) (by rfl) (by kernel_rfl) (fun S hS => ?_) ?_
  rotate_left
  ·simp only [W, seval, c190]
   exact rfl
  simp only [W, seval, c190]
  refine lexC_q (v := ?_) (by rfl) (by kernel_rfl) (fun S hS => ?_) ?_
  rotate_left
  ·try dsimp only at hS
   simp only [W, seval, c190, hS, xF]
   exact rfl
  simp only [W, seval, c190]
  refine lexC_q (v := ?_) (by rfl) (by kernel_rfl) (fun S hS => ?_) ?_
  rotate_left
  ·simp only [W, seval, c190]
   exact rfl
  simp only [W, seval, c190]
  refine PP.lexc (hpx) hc hok5 hok6 ?_ (by rfl) (by kernel_rfl) ?_ ?_
  ·first | trivial | simp [bx_loc, bx_loc0, hn]
  ·simp only [W, seval, c190]
   exact ⟨_, _, rfl, rfl, by rfl, by simp only [W, seval, c190]⟩
  simp only [W, seval, c190]
  refine lexC_q (v := ?_) (by rfl) (by kernel_rfl) (fun S hS => ?_) ?_
  rotate_left
  ·simp only [W, seval, c190, mapD_nil, mapD_cons, Nat.reduceMul]
   exact rfl
  simp only [W, seval, c190]
  refine lexC_w (v := ?_) (S' := ?_) ?_ (by rfl) (by kernel_rfl) ?_ ?_
  rotate_left 2
  ·first | trivial | simp [bx_loc, bx_loc0, hn, ht, hcap, ss1, ssD_snoc, ssD_length, Nat.reduceMul]
  ·simp only [W, seval, c190, hn, ht, hcap, ss1, ssD_snoc, ssD_length, Nat.reduceMul]
   exact rfl
  simp only [W, seval, c190]
  refine lexC_end (by simp [bx_loc, hn]) ?_
  refine lexC_q (v := ?_) (by rfl) (by kernel_rfl) (fun S hS => ?_) ?_
  rotate_left
  ·simp only [W, seval, c190]
   exact rfl
  simp only [W, seval, c190]
  refine lexC_q (v := ?_) (by rfl) (by kernel_rfl) (fun S hS => ?_) ?_
  rotate_left
  ·simp only [W, seval, c190]
   exact rfl
  simp only [W, seval, c190]
  refine lexC_w (v := ?_) (S' := ?_) ?_ (by rfl) (by kernel_rfl) ?_ ?_
  rotate_left 2
  ·first | trivial | simp [bx_loc, bx_loc0, hn, xF]
  ·simp only [W, seval, c190, hn, xF]
   exact rfl
  simp only [W, seval, c190]
  refine lexC_end trivial ?_
  refine ARun.goK (k := [_, _, _, _]) 10 ?_
  simp only [W, seval, c190]
  first
   | refine PP.call0 (want_pp bs h0 hl s6 [58]) hc hok6 fun hok7 => ?_
   | refine PP.call (want_pp bs h0 hl s6 [58]) hc hok6 fun hok7 => ?_
  have hdw := (dn_want s6 [58]).le
  generalize wantP s6 [58] = s7 at *
  obtain ⟨⟨x, s8⟩, hy⟩ : ∃ r, E s7 = r := ⟨_, rfl⟩
  have hpy := hE s7 (by omega)
  have hdy := (hd.at hy).le
  rw [hy] at hpy hr
  dsimp only at hpy hr
  unfold exV at hpy
  refine ARun.goK (k := [_, _, _, _]) 2 ?_
  simp only [W, seval, c190]
  have hlen : (ts ++ [tn]).length = ts.length + 1 := by simp
  change ARun _ _ _ _ _ _ ⟨B.set c (bxP bs s7) ++ (Z :: xF tx (ts ++ [tn]) t v :: G), T ++ [(ts.length + 1, 1)]⟩ _
  refine ARun.after [_] _ (fun a : List (List V) × V => (envS 44 [(0, .ptr c 0), (1, .ptr (N + 1) 0)], ⟨B.set c (bxP bs s8) ++ (Z :: xF tx (ts ++ [tn]) t a.2 :: a.1), T ++ [(ts.length + 1, 1)]⟩)) (fun a => OkP bs s8 ∧ KidsIs N a.1 (xs ++ [x]) a.2) ?_ ?_
  ·rintro ⟨G2, v2⟩ ⟨hok8, hk2⟩
   refine ARun.goK (k := [_, _, _, _]) 20 ?_
   simp only [W, seval, c190]
   obtain ⟨⟨b, s9⟩, hg_s9⟩ : ∃ r, gotP s8 [44] = r := ⟨_, rfl⟩
   have hp_s9 := got_pp bs h0 hl s8 [44]
   rw [hg_s9] at hp_s9
   dsimp only at hp_s9
   first
    | refine PP.call0 hp_s9 hc hok8 fun hok9 => ?_
    | refine PP.call hp_s9 hc hok8 fun hok9 => ?_
   rw [hg_s9] at hr
   cases b
   case' false =>
    dsimp only at hr
    obtain ⟨h1, rfl⟩ := Prod.mk.inj hr
    obtain ⟨rfl, rfl⟩ := Prod.mk.inj h1
    refine ARun.goK 80 ?_
    simp only [W, seval, c190, hn, hi]
    refine hend (G2, v2) ⟨hok9, hk2⟩ _ _ ?_ (by dsimp only; rw [hlen])
    refine Agree.env _ ?_
    simp only [agw, seval, hn]
   case' true =>
    have hlt := got_lt hg_s9
    dsimp only at hr
    obtain ⟨⟨⟨ts3, xs3⟩, s3⟩, h5⟩ : ∃ r, fldL E q s9 = r := ⟨_, rfl⟩
    rw [h5] at hr
    dsimp only at hr
    refine ARun.goK 80 ?_
    simp only [W, seval, c190, hn, hi]
    refine ih (((ts ++ [tn], xs ++ [x]), (G2, v2)), s9) ⟨hok9, hk2, by simp [hll], by simp; omega, q, by dsimp only; omega, by dsimp only; rw [h5, ← hr]; simp⟩ (by dsimp only; omega) _ _ ?_ (by dsimp only; rw [hlen])
    refine Agree.env _ ?_
    simp only [agw, seval, hn]
  intro K2 hend2
  refine ARun.goK (k := [_]) 1 ?_
  simp only [W, seval, c190]
  refine PP.wit hpy hc hok7 (haN 1 (by rfl)) fun hok8 => ?_
  refine ARun.drawF 9 [10, 13] [5, 8] (fun S => S.boxes[N + 1]? = some (xF tx (ts ++ [tn]) t v)) 14 5 (by kernel_rfl) rfl (by kernel_rfl) (by kernel_rfl) (by kernel_rfl) (by kernel_rfl) (by kernel_rfl) ?_
  simp only [W, seval, c190]
  refine lexC_q (v := ?_) (by rfl) (by kernel_rfl) (fun S hS => ?_) ?_
  rotate_left
  ·simp only [W, seval, c190]
   exact rfl
  simp only [W, seval, c190]
  refine lexC_q (v := ?_) (by rfl) (by kernel_rfl) (fun S hS => ?_) ?_
  rotate_left
  ·simp only [W, seval, c190]
   exact rfl
  simp only [W, seval, c190]
  refine lexC_q (v := ?_) (by rfl) (by kernel_rfl) (fun S hS => ?_) ?_
  rotate_left
  ·simp only [W, seval, c190]
   exact rfl
  simp only [W, seval, c190]
  refine lexC_q (v := ?_) (by rfl) (by kernel_rfl) (fun S hS => ?_) ?_
  rotate_left
  ·try dsimp only at hS
   simp only [W, seval, c190, hS, xF]
   exact rfl
  simp only [W, seval, c190]
  refine lexC_q (v := ?_) (by rfl) (by kernel_rfl) (fun S hS => ?_) ?_
  rotate_left
  ·simp only [W, seval, c190]
   exact rfl
  simp only [W, seval, c190]
  refine PP.lexc (hpy) hc hok7 hok8 ?_ (by rfl) (by kernel_rfl) ?_ ?_
  ·first | trivial | simp [bx_loc, bx_loc0, hn]
  ·simp only [W, seval, c190]
   exact ⟨_, _, rfl, rfl, by rfl, by simp only [W, seval, c190]⟩
  simp only [W, seval, c190]
  have hol := BxIs.opLen ty44 rfl hk
  unfold Ab.opLen at hol
  rw [ty44, List.length_map] at hol
  refine lexC_q (v := ?_) (by rfl) (by kernel_rfl) (fun S hS => ?_) ?_
  rotate_left
  ·simp only [W, seval, c190, hol]
   exact rfl
  simp only [W, seval, c190]
  refine lexC_q (v := .sl [exD zeroE] .full) (by rfl) (by kernel_rfl) (fun S hS => by kernel_rfl) ?_
  simp only [W, seval, c190]
  have hmem : B.set c (bxP bs s8) ++ (Z :: xF tx (ts ++ [tn]) t v :: G) = (B.set c (bxP bs s8) ++ [Z, xF tx (ts ++ [tn]) t v]) ++ G := by simp
  have hln : (B.set c (bxP bs s8) ++ [Z, xF tx (ts ++ [tn]) t v]).length = N + 2 := by simp [hn]
  have hz8 : (exD zeroE).length = 8 := rfl
  rw [hmem]
  refine lexC_r (by rw [← hmem]; simp [bx_loc, hn]) (by rfl) (by kernel_rfl) ?_ (OpR.appB (s := v) (x := .sl [exD zeroE] .full) (rows := xs.map exD) (so := .tmp 30) (xo := .tmp 34) (o := opAt (opsOf (kF Tryz.f190 15)) 8) (by kernel_rfl) ty44 rfl ty46 ty44 ⟨_, rfl⟩ (by rfl) (by rfl) (by rw [hln]; exact hk) rfl hz8 (by simpa using hcap2) (by decide)) ?_
  ·obtain ⟨G', v', h1, h2⟩ := BxIs.exist (n := (B.set c (bxP bs s8) ++ [Z, xF tx (ts ++ [tn]) t v]).length) (sz := 8) (rows := xs.map exD ++ [exD zeroE]) (rowsSz_iff (by have := rowsSz_ex (xs ++ [zeroE]); simpa using this))
   exact ⟨v', _, G', rfl, h1, h2⟩
  rintro v' _ ⟨G', rfl, hk', j, k, cap, rfl⟩
  rw [hln] at hk'
  have hkl := hk'.len rfl
  refine lexC_end (by simp [bx_loc, hn]) ?_
  simp only [W, seval, c190]
  have hidx := BxIs.idx (i := j) (cap := cap) (q := .i64) (j := xs.length) ty44 rfl ty46 (show xs.length < k by rw [hkl]; simp)
  have hsp : ∀ (y : List V) (G : List (List V)), B.set c (bxP bs s8) ++ (Z :: y :: G) = (B.set c (bxP bs s8) ++ [Z, y]) ++ G := fun y G => by simp
  have hset : (xs.map exD ++ [exD zeroE]).set xs.length (exD x) = (xs ++ [x]).map exD := by
   rw [List.set_append_right _ _ (by simp)]
   simp
  have hfin : ∀ (y : V) (G2 : List (List V)) (env' : List V), y = .bx j k cap → KidsIs N G2 (xs ++ [x]) y → EnvW (envS 44 [(0, .ptr c 0), (1, .ptr (N + 1) 0)]) env' → ARun Tryz.prog TabI (N + 2, t) 190 K2 env' ⟨B.set c (bxP bs s8) ++ (Z :: xF tx (ts ++ [tn]) t y :: G2), T ++ [(ts.length + 1, 1)]⟩ _ := fun y G2 env' hy hk2 he2 => hend2 (G2, y) ⟨hok8, hk2⟩ env' _ he2 rfl
  refine anyC_q 9 (v := .ptr j (xs.length * 8)) (oi := opAt (opsOf (kF Tryz.f190 15)) 9) (by kernel_rfl) (by rfl) (by kernel_rfl) (by kernel_rfl) (by kernel_rfl) (fun S _ => ?_) ?_
  ·change Option.map (fun v => (v, S)) (opIndexAddr Tryz.prog 44 (.bx j k cap) (.d (.int .i64 (xs.length : Int)))) = _
   rw [hidx]
   rfl
  refine anyC_q 11 (v := .ptr (N + 1) 0) (oi := opAt (opsOf (kF Tryz.f190 15)) 11) (by kernel_rfl) (by rfl) (by kernel_rfl) (by kernel_rfl) (by kernel_rfl) (fun S _ => by kernel_rfl) ?_
  refine anyC_q 12 (v := .ptr (N + 1) 7) (oi := opAt (opsOf (kF Tryz.f190 15)) 12) (by kernel_rfl) (by rfl) (by kernel_rfl) (by kernel_rfl) (by kernel_rfl) (fun S _ => by kernel_rfl) ?_
  simp only [W, seval, c190]
  refine anyC_two 10 13 (oi := opAt (opsOf (kF Tryz.f190 15)) 10) (oj := opAt (opsOf (kF Tryz.f190 15)) 13) (by kernel_rfl) (by kernel_rfl) (by rfl) (by rfl) (by kernel_rfl) (by kernel_rfl) (by kernel_rfl) (by kernel_rfl) (by kernel_rfl) ?_ ?_
  ·obtain ⟨G2, hst, hk2⟩ := BxIs.store (T := T ++ [(ts.length + 1, 1)]) (r := exD x) (j := xs.length) (L := B.set c (bxP bs s8) ++ [Z, xF tx (ts ++ [tn]) t v]) ty46 (by rw [hln]; exact hk') rfl (by simp) (by rw [exD_eq]; rfl)
   rw [hset, hln] at hk2
   rw [← hsp, ← hsp, exD_eq x] at hst
   refine wc_op (by kernel_rfl) (v := .undef) (Eq.trans (by kernel_rfl) hst) ?_
   refine wc_op (v := .undef) (S' := ⟨B.set c (bxP bs s8) ++ (Z :: xF tx (ts ++ [tn]) t (.bx j k cap) :: G2), T ++ [(ts.length + 1, 1)]⟩) (by kernel_rfl) ?_ ?_
   ·simp only [W, seval, c190, hn, xF]
   ·refine hfin _ _ _ rfl hk2 ?_
    simp only [W, seval, c190]
    refine Agree.env _ ?_
    simp only [agw, seval, hn]
  ·have hln2 : (B.set c (bxP bs s8) ++ [Z, xF tx (ts ++ [tn]) t (.bx j k cap)]).length = N + 2 := by simp [hn]
   obtain ⟨G2, hst, hk2⟩ := BxIs.store (T := T ++ [(ts.length + 1, 1)]) (r := exD x) (j := xs.length) (L := B.set c (bxP bs s8) ++ [Z, xF tx (ts ++ [tn]) t (.bx j k cap)]) ty46 (by rw [hln2]; exact hk') rfl (by simp) (by rw [exD_eq]; rfl)
   rw [hset, hln2] at hk2
   rw [← hsp, ← hsp, exD_eq x] at hst
   refine wc_op (v := .undef) (S' := ⟨B.set c (bxP bs s8) ++ (Z :: xF tx (ts ++ [tn]) t (.bx j k cap) :: G'), T ++ [(ts.length + 1, 1)]⟩) (by kernel_rfl) ?_ ?_
   ·simp only [W, seval, c190, hn, xF]
   refine wc_op (by kernel_rfl) (v := .undef) (Eq.trans (by kernel_rfl) hst) ?_
   refine hfin _ _ _ rfl hk2 ?_
   simp only [W, seval, c190]
   refine Agree.env _ ?_
   simp only [agw, seval, hn]
def c82 := by
 have c := KK_of Tryz.f82 (by conv => lhs; cbv)
 dsimp only [KK, KxP, doO, opO, List.map_cons, List.map_nil, List.toList_toArray] at c
 exact c
theorem b82 : FnIs Tryz.prog 82 Tryz.f82 8 := ⟨Tryz.func82, by kernel_rfl⟩
def c48 := by
 have c := KK_of Tryz.f48 (by conv => lhs; cbv)
 dsimp only [KK, KxP, doO, opO, List.map_cons, List.map_nil, List.toList_toArray] at c
 exact c
theorem b48 : FnIs Tryz.prog 48 Tryz.f48 80 := ⟨Tryz.func48, by kernel_rfl⟩
def c14 := by
 have c := KK_of Tryz.f14 (by conv => lhs; cbv)
 dsimp only [KK, KxP, doO, opO, List.map_cons, List.map_nil, List.toList_toArray] at c
 exact c
theorem b14 : FnIs Tryz.prog 14 Tryz.f14 6 := ⟨Tryz.func14, by kernel_rfl⟩
set_option maxHeartbeats 1000000 in
theorem prog1_ab (x : TyT) (a c : Nat) (p : Int) (B : List (List V)) (T : List (Nat × Nat)) (hB : B[c]? = some [.d (.int .i64 p)]) (ha : B[a]? = some [.ptr c 0]) (hp : 0 ≤ p ∧ p ≤ 60000) :
 AFn Tryz.prog TabI 82 [tyV x, .ptr a 0] ⟨B, T⟩ (Same (.d (.bool (!(tyS identS x 0 p).1))) ⟨B.set c [.d (.int .i64 (tyS identS x 0 p).2)], T⟩) := by
 obtain ⟨N, hn⟩ : ∃ N, B.length = N := ⟨_, rfl⟩
 have hc := (List.getElem?_eq_some_iff.1 hB).1
 have hi : c < N := by omega
 have hia : a < N := by have := (List.getElem?_eq_some_iff.1 ha).1; omega
 have h := typ_ab x c 0 p (B ++ [[.d (.int .i64 x.kind), .d (.str x.name), .d (.sl (x.elem.map tyD))]]) T (by rw [bx_old hc]; exact hB) hp (by omega)
 unfold tyV at h ⊢
 refine b82.go 100 rfl fun hsm => ?_
 simp only [smw] at hsm
 simp only [W, seval, c82, hn, hi, hia, ha]
 refine callS_fn (h) ?_
 rintro _ _ ⟨rfl, rfl⟩
 refine ARun.go 100 ?_
 simp only [W, seval, c82, hn, hi, hia, ha]
 refine ARun.ret Tryz.func82 rfl (Left.set (by rfl) ?_)
 (try clear ih)
 (try simp only [dnw] at *)
 simp only [fnw, seval, Same] <;> simp [*]
 skip
theorem ty_good (a c : Nat) (B X : List (List V)) (T : List (Nat × Nat)) (hc : c < B.length) (ha : ∀ q : Int, (B.set c [.d (.int .i64 q)] ++ X)[a]? = some [.ptr c 0]) :
 ∀ (l : List TyT) (q : Int), 0 ≤ q ∧ q ≤ 60000 → Good Tryz.prog TabI 82 [] [.ptr a 0] tyV (fun q : Int => ⟨B.set c [.d (.int .i64 q)] ++ X, T⟩) (fun x q => (!(tyS identS x 0 q).1, (tyS identS x 0 q).2)) l q
 | [], _, _ => trivial
 | x :: l, q, hq => by
  have hcx : c < (B.set c [.d (.int .i64 q)]).length := by simpa using hc
  refine ⟨?_, fun h => ?_⟩
  ·have := prog1_ab x a c q (B.set c [.d (.int .i64 q)] ++ X) T (by rw [bx_old hcx]; exact bx_get hc) (ha q) hq
   rw [bx_set_old hcx, List.set_set] at this
   exact this
  ·have h : (tyS identS x 0 q).1 = true := by simpa using h
   have h1 := tyS_ok identS x 0 q h
   exact ty_good a c B X T hc ha l _ ⟨Int.le_trans hq.1 (by dsimp only; omega), h1.2⟩
theorem app3 {α : Type} (A : List α) (a b c : α) : A ++ [a, b, c] = (A ++ [a, b]) ++ [c] := by simp
set_option maxHeartbeats 4000000 in
theorem prog_ab (n : Nat) (pr : PrT) (hst : ∀ f ∈ pr.funcs, ∀ x ∈ f.body, StmtOk n x) (c : Nat) (p : Int) (B : List (List V)) (T : List (Nat × Nat)) (hB : B[c]? = some [.d (.int .i64 p)]) (hp : 0 ≤ p ∧ p ≤ 60000) :
 AFn Tryz.prog TabI 48 [.ptr c 0, prV pr] ⟨B, T⟩ (Same (.d (.bool (prS n pr p).1)) ⟨B.set c [.d (.int .i64 (prS n pr p).2)], T⟩) := by
 obtain ⟨N, hn⟩ : ∃ N, B.length = N := ⟨_, rfl⟩
 have hc := (List.getElem?_eq_some_iff.1 hB).1
 have hi : c < N := by omega
 have hi1 : c < N + 2 := by omega
 have hN1 : N < N + 2 := by omega
 have hN2 : N + 1 < N + 2 := by omega
 have hbs : B.set c [.d (.int .i64 p)] = B := by
  obtain ⟨_, h⟩ := List.getElem?_eq_some_iff.1 hB
  rw [← h, List.set_getElem_self]
 generalize hres : prS n pr p = res
 change andS (rowS suS pr.structs) (rowS (fuS n) pr.funcs) p = res at hres
 unfold prV
 refine b48.go 7 rfl fun hsm => ?_
 simp only [smw] at hsm
 simp only [W, seval, c48, hn, hi]
 refine ARun.join (fun q : Int => (envS 80 [(2, .ptr N 0), (3, .ptr (N + 1) 0), (4, .d (.bool false))], ⟨B.set c [.d (.int .i64 q)] ++ [[.ptr c 0], [.d (.sl (pr.structs.map suD)), .d (.sl (pr.funcs.map fuD))]], T⟩)) (fun q => (0 ≤ q ∧ q ≤ 60000) ∧ rowS (fuS n) pr.funcs q = res) ?_ ?_
 rotate_left
 ·intro K' hK
  refine ARun.goJ 30 ?_
  simp only [W, seval, c48, hn, hi]
  refine ARun.fits fun hf => ?_
  have hf2 : ∀ q' : Int, Fits ⟨B.set c [.d (.int .i64 q')] ++ [[.ptr c 0], [.d (.sl (pr.structs.map suD)), .d (.sl (pr.funcs.map fuD))]], T⟩ := fun q' => by
   have := hf.set (i := c) (vs := [.d (.int .i64 q')]) rfl
   rwa [bx_set_old (by omega)] at this
  refine ARun.loopB (fun a : Nat × Int => (envS 80 [(2, .ptr N 0), (3, .ptr (N + 1) 0), (4, .d (.bool false)), (10, .d (.sl (pr.structs.map suD))), (11, .d (.int .i64 pr.structs.length)), (12, .d (.int .i64 a.1))], ⟨B.set c [.d (.int .i64 a.2)] ++ [[.ptr c 0], [.d (.sl (pr.structs.map suD)), .d (.sl (pr.funcs.map fuD))]], T⟩)) (fun a => a.1 ≤ pr.structs.length ∧ (0 ≤ a.2 ∧ a.2 ≤ 60000) ∧ andS (rowS suS (pr.structs.drop a.1)) (rowS (fuS n) pr.funcs) a.2 = res) (fun a => pr.structs.length - a.1) (0, p) ⟨by omega, hp, hres⟩ ?_ (by rw [hbs]) ?_
  ·skip
   refine Agree.env _ ?_
   simp only [agw, seval, hn]
  rintro ⟨i, q⟩ ⟨h1, h2, h3⟩ ih
  dsimp only at h1 h2 h3 ih ⊢
  by_cases hlt : i < pr.structs.length
  ·have hw := wrap_in ((i : Int) + 1) (by omega)
   have hg := List.getElem?_eq_getElem hlt
   have hlt' : decide ((i : Int) < (pr.structs.length : Int)) = true := decide_eq_true (by omega)
   rw [drop_get hlt] at h3
   obtain ⟨x, hx⟩ : ∃ x, pr.structs[i] = x := ⟨_, rfl⟩
   rw [hx] at hg h3
   change andS (andS (suS x) (rowS suS (pr.structs.drop (i + 1)))) (rowS (fuS n) pr.funcs) q = res at h3
   rw [andS_assoc] at h3
   change andS (andS (partS 0) (andS (allowS (identS x.name)) (paS 60 x.fields))) _ q = res at h3
   rw [andS_assoc] at h3
   have hpar := params_ab 60 (by omega) x.fields c
   have hcast : ((60 : Nat) : Int) = 60 := rfl
   rw [hcast] at hpar
   refine ARun.goJ 100 ?_
   simp only [W, seval, c48, hn, hi, List.getElem?_map, hg, hlt', suD]
   refine callS_fn (part_ab c 0 q _ _ (by rw [bx_old (by simp; omega)]; exact bx_get hc) h2) ?_
   rintro _ _ ⟨rfl, rfl⟩
   refine ARun.goK 200 ?_
   simp only [W, seval, c48, hn, hi]
   cases hk : partOk 0 q
   ·rw [andS_no (show (partS 0 q).1 = false from hk)] at h3
    simp only [W, seval, c48, hn, hi, hk]
    refine ARun.ret Tryz.func48 rfl (Left.set (by rfl) ?_)
    rw [← h3]
    (try clear ih)
    (try simp only [dnw] at *)
    simp only [fnw, seval, Same] <;> simp [*]
    rfl
   have hpo := partOk_in hk
   rw [andS_yes (show (partS 0 q).1 = true from hk)] at h3
   change andS _ _ (q + 1) = res at h3
   rw [andS_assoc] at h3
   simp only [W, seval, c48, hn, hi, hk]
   refine callS_fn (ident_ab x.name _) ?_
   rintro _ _ ⟨rfl, rfl⟩
   refine ARun.goK 200 ?_
   simp only [W, seval, c48, hn, hi]
   cases hid : identS x.name
   ·rw [andS_no (by rw [hid]; rfl)] at h3
    simp only [W, seval, c48, hn, hi]
    refine ARun.ret Tryz.func48 rfl (Left.set (by rfl) ?_)
    rw [← h3]
    (try clear ih)
    (try simp only [dnw] at *)
    simp only [fnw, seval, Same] <;> simp [*]
    rfl
   rw [andS_yes (by rw [hid]; rfl)] at h3
   change andS _ _ (q + 1) = res at h3
   simp only [W, seval, c48, hn, hi]
   refine callS_fn (hpar (q + 1) _ T (by rw [bx_old (by simp; omega)]; exact bx_get hc) ⟨by omega, hpo.1⟩) ?_
   rintro _ _ ⟨rfl, rfl⟩
   have hup := (Cnts.pa 60 x.fields).up (q + 1)
   have hbn := Bnds.pa 60 x.fields (q + 1) hpo.1
   obtain ⟨⟨b, r⟩, hpa⟩ : ∃ z, paS 60 x.fields (q + 1) = z := ⟨_, rfl⟩
   rw [hpa] at hup hbn
   refine ARun.goK 200 ?_
   simp only [W, seval, c48, hn, hi, hpa]
   cases b
   ·rw [andS_no (by rw [hpa]), hpa] at h3
    simp only [W, seval, c48, hn, hi]
    refine ARun.ret Tryz.func48 rfl (Left.set (by rfl) ?_)
    rw [← h3]
    (try clear ih)
    (try simp only [dnw] at *)
    simp only [fnw, seval, Same] <;> simp [*]
    skip
   ·rw [andS_yes (by rw [hpa]), hpa] at h3
    have hup := hup rfl
    have hbn := hbn rfl
    dsimp only at hup hbn h3
    simp only [W, seval, c48, hn, hi, hw]
    rw [app3]
    refine ih (i + 1, r) ⟨hlt, ⟨by dsimp only; omega, hbn⟩, h3⟩ (by dsimp only; omega) _ _ _ _ rfl ⟨by simp; omega, Nat.le_refl _⟩ (hf2 r) ?_
    refine AgreeF.env _ ?_
    simp only [agf, seval, hn, List.length_append, List.length_cons, List.length_nil, Nat.zero_add, Nat.reduceAdd, hN1, hN2]
  ·have hlt' : decide ((i : Int) < (pr.structs.length : Int)) = false := decide_eq_false (by omega)
   rw [List.drop_eq_nil_of_le (by omega), andS_yes rfl] at h3
   refine ARun.goK 100 (k := [_, _, _]) (K := K') ?_
   simp only [W, seval, c48, hn, hi, hlt']
   refine hK q ⟨h2, h3⟩ _ _ ?_ rfl
   refine Agree.env _ ?_
   simp only [agw, seval, hn]
 ·rintro q0 ⟨hq0, hres2⟩
  clear hres hbs
  dsimp only
  refine ARun.go 20 ?_
  simp only [W, seval, c48, hn, hi]
  refine ARun.fits fun hf => ?_
  have hf2 : ∀ q' : Int, Fits ⟨B.set c [.d (.int .i64 q')] ++ [[.ptr c 0], [.d (.sl (pr.structs.map suD)), .d (.sl (pr.funcs.map fuD))]], T⟩ := fun q' => by
   have := hf.set (i := c) (vs := [.d (.int .i64 q')]) rfl
   rwa [bx_set_old (by simp; omega), List.set_set] at this
  refine ARun.loopB (fun a : Nat × Int => (envS 80 [(2, .ptr N 0), (3, .ptr (N + 1) 0), (4, .d (.bool false)), (34, .d (.sl (pr.funcs.map fuD))), (35, .d (.int .i64 pr.funcs.length)), (36, .d (.int .i64 a.1))], ⟨B.set c [.d (.int .i64 a.2)] ++ [[.ptr c 0], [.d (.sl (pr.structs.map suD)), .d (.sl (pr.funcs.map fuD))]], T⟩)) (fun a => a.1 ≤ pr.funcs.length ∧ (0 ≤ a.2 ∧ a.2 ≤ 60000) ∧ rowS (fuS n) (pr.funcs.drop a.1) a.2 = res) (fun a => pr.funcs.length - a.1) (0, q0) ⟨by omega, hq0, hres2⟩ ?_ rfl ?_
  ·skip
   refine Agree.env _ ?_
   simp only [agw, seval, hn]
  rintro ⟨i, q⟩ ⟨h1, h2, h3⟩ ih
  dsimp only at h1 h2 h3 ih ⊢
  by_cases hlt : i < pr.funcs.length
  ·have hw := wrap_in ((i : Int) + 1) (by omega)
   have hg := List.getElem?_eq_getElem hlt
   have hlt' : decide ((i : Int) < (pr.funcs.length : Int)) = true := decide_eq_true (by omega)
   rw [drop_get hlt] at h3
   obtain ⟨x, hx⟩ : ∃ x, pr.funcs[i] = x := ⟨_, rfl⟩
   have hxm : x ∈ pr.funcs := by rw [← hx]; exact List.getElem_mem hlt
   rw [hx] at hg h3
   change andS (andS (partS 0) (andS (allowS (identS x.name)) (andS (paS 20 x.params) (andS (allowS (decide (1 ≤ x.results.length) && decide (x.results.length ≤ 20))) (andS (rowS (fun t p => tyS identS t 0 p) x.results) (rowS (fun s => stS n s 0) x.body)))))) (rowS (fuS n) (pr.funcs.drop (i + 1))) q = res at h3
   rw [andS_assoc] at h3
   have hpar := params_ab 20 (by omega) x.params c
   have hcast : ((20 : Nat) : Int) = 20 := rfl
   rw [hcast] at hpar
   refine ARun.go 100 ?_
   simp only [W, seval, c48, hn, hi, List.getElem?_map, hg, hlt', fuD]
   refine callS_fn (part_ab c 0 q _ _ (by rw [bx_old (by simp; omega)]; exact bx_get hc) h2) ?_
   rintro _ _ ⟨rfl, rfl⟩
   refine ARun.go 200 ?_
   simp only [W, seval, c48, hn, hi]
   cases hk : partOk 0 q
   ·rw [andS_no (show (partS 0 q).1 = false from hk)] at h3
    simp only [W, seval, c48, hn, hi, hk]
    refine ARun.ret Tryz.func48 rfl (Left.set (by rfl) ?_)
    rw [← h3]
    (try clear ih)
    (try simp only [dnw] at *)
    simp only [fnw, seval, Same] <;> simp [*]
    rfl
   have hpo := partOk_in hk
   rw [andS_yes (show (partS 0 q).1 = true from hk)] at h3
   change andS _ _ (q + 1) = res at h3
   rw [andS_assoc] at h3
   simp only [W, seval, c48, hn, hi, hk]
   refine callS_fn (ident_ab x.name _) ?_
   rintro _ _ ⟨rfl, rfl⟩
   refine ARun.go 200 ?_
   simp only [W, seval, c48, hn, hi]
   cases hid : identS x.name
   ·rw [andS_no (by rw [hid]; rfl)] at h3
    simp only [W, seval, c48, hn, hi]
    refine ARun.ret Tryz.func48 rfl (Left.set (by rfl) ?_)
    rw [← h3]
    (try clear ih)
    (try simp only [dnw] at *)
    simp only [fnw, seval, Same] <;> simp [*]
    rfl
   rw [andS_yes (by rw [hid]; rfl)] at h3
   change andS _ _ (q + 1) = res at h3
   rw [andS_assoc] at h3
   simp only [W, seval, c48, hn, hi]
   refine callS_fn (hpar (q + 1) _ T (by rw [bx_old (by simp; omega)]; exact bx_get hc) ⟨by omega, hpo.1⟩) ?_
   rintro _ _ ⟨rfl, rfl⟩
   have hup := (Cnts.pa 20 x.params).up (q + 1)
   have hbn := Bnds.pa 20 x.params (q + 1) hpo.1
   obtain ⟨⟨b, r⟩, hpa⟩ : ∃ z, paS 20 x.params (q + 1) = z := ⟨_, rfl⟩
   rw [hpa] at hup hbn
   refine ARun.go 200 ?_
   simp only [W, seval, c48, hn, hi, hpa]
   cases b
   ·rw [andS_no (by rw [hpa]), hpa] at h3
    simp only [W, seval, c48, hn, hi]
    refine ARun.ret Tryz.func48 rfl (Left.set (by rfl) ?_)
    rw [← h3]
    (try clear ih)
    (try simp only [dnw] at *)
    simp only [fnw, seval, Same] <;> simp [*]
    skip
   rw [andS_yes (by rw [hpa]), hpa] at h3
   have hup := hup rfl
   have hbn := hbn rfl
   dsimp only at hup hbn h3
   rw [andS_assoc] at h3
   by_cases hlo : 1 ≤ x.results.length
   case neg =>
    have e1 : decide ((x.results.length : Int) < 1) = true := decide_eq_true (by omega)
    rw [andS_no (by rw [decide_eq_false hlo]; rfl)] at h3
    simp only [W, seval, c48, hn, hi, e1]
    refine ARun.ret Tryz.func48 rfl (Left.set (by rfl) ?_)
    rw [← h3]
    (try clear ih)
    (try simp only [dnw] at *)
    simp only [fnw, seval, Same] <;> simp [*]
    rfl
   have e1 : decide ((x.results.length : Int) < 1) = false := decide_eq_false (by omega)
   by_cases hhi : x.results.length ≤ 20
   case neg =>
    have e2 : decide ((20 : Int) < (x.results.length : Int)) = true := decide_eq_true (by omega)
    rw [andS_no (by rw [decide_eq_false hhi, Bool.and_false]; rfl)] at h3
    simp only [W, seval, c48, hn, hi, e1, e2]
    refine ARun.ret Tryz.func48 rfl (Left.set (by rfl) ?_)
    rw [← h3]
    (try clear ih)
    (try simp only [dnw] at *)
    simp only [fnw, seval, Same] <;> simp [*]
    rfl
   have e2 : decide ((20 : Int) < (x.results.length : Int)) = false := decide_eq_false (by omega)
   rw [andS_yes (by rw [decide_eq_true hlo, decide_eq_true hhi]; rfl)] at h3
   change andS _ _ r = res at h3
   rw [andS_assoc] at h3
   simp only [W, seval, c48, hn, hi, e1, e2]
   have hgd := ty_good N c B [[.ptr c 0], [.d (.sl (pr.structs.map suD)), .d (.sl (pr.funcs.map fuD))], [.d (.str x.name), .d (.sl (x.params.map paD)), .d (.sl (x.results.map tyD)), .d (.sl (x.body.map stD))]] T hc (fun q => by rw [bx_loc0 (by simpa using hn)]; rfl) x.results r ⟨by omega, hbn⟩
   have hcf := containsFunc_Type 82 [] [.ptr N 0] (fun q : Int => ⟨B.set c [.d (.int .i64 q)] ++ [[.ptr c 0], [.d (.sl (pr.structs.map suD)), .d (.sl (pr.funcs.map fuD))], [.d (.str x.name), .d (.sl (x.params.map paD)), .d (.sl (x.results.map tyD)), .d (.sl (x.body.map stD))]], T⟩) (fun x q => (!(tyS identS x 0 q).1, (tyS identS x 0 q).2)) (fun _ _ => ⟨by simp, rfl⟩) x.results (by omega) r hgd
   rw [anyF_row (fun x => tyS identS x 0)] at hcf
   refine callS_fn hcf ?_
   rintro _ _ ⟨rfl, rfl⟩
   have hup2 := (Cnts.row (f := fun t p => tyS identS t 0 p) (c := tcS) x.results fun t _ => Cnts.ty t 0).up r
   have hbn2 := Bnds.row (f := fun t p => tyS identS t 0 p) (fun t => Bnds.ty t 0) x.results r hbn
   obtain ⟨⟨b, r2⟩, hty⟩ : ∃ z, rowS (fun t p => tyS identS t 0 p) x.results r = z := ⟨_, rfl⟩
   rw [hty] at hup2 hbn2
   refine ARun.go 200 ?_
   simp only [W, seval, c48, hn, hi, hty]
   cases b
   ·rw [andS_no (by rw [hty]), hty] at h3
    simp only [W, seval, c48, hn, hi]
    refine ARun.ret Tryz.func48 rfl (Left.set (by rfl) ?_)
    rw [← h3]
    (try clear ih)
    (try simp only [dnw] at *)
    simp only [fnw, seval, Same] <;> simp [*]
    skip
   rw [andS_yes (by rw [hty]), hty] at h3
   have hup2 := hup2 rfl
   have hbn2 := hbn2 rfl
   dsimp only at hup2 hbn2 h3
   simp only [W, seval, c48, hn, hi]
   refine callS_fn (stmts_ab n x.body (hst x hxm) c 0 r2 _ T (by rw [bx_old (by simp; omega)]; exact bx_get hc) ⟨by omega, hbn2⟩ ⟨by omega, by omega⟩) ?_
   rintro _ _ ⟨rfl, rfl⟩
   have hup3 := (Cnts.row (f := fun s => stS n s 0) (c := stC n) x.body fun y _ => Cnts.st n y 0).up r2
   have hbn3 := Bnds.row (f := fun s => stS n s 0) (fun y => Bnds.st n y 0) x.body r2 hbn2
   obtain ⟨⟨b, r3⟩, hst3⟩ : ∃ z, rowS (fun s => stS n s 0) x.body r2 = z := ⟨_, rfl⟩
   rw [hst3] at hup3 hbn3
   refine ARun.go 200 ?_
   simp only [W, seval, c48, hn, hi, hst3]
   cases b
   ·rw [andS_no (by rw [hst3]), hst3] at h3
    simp only [W, seval, c48, hn, hi]
    refine ARun.ret Tryz.func48 rfl (Left.set (by rfl) ?_)
    rw [← h3]
    (try clear ih)
    (try simp only [dnw] at *)
    simp only [fnw, seval, Same] <;> simp [*]
    skip
   rw [andS_yes (by rw [hst3]), hst3] at h3
   have hup3 := hup3 rfl
   have hbn3 := hbn3 rfl
   dsimp only at hup3 hbn3 h3
   simp only [W, seval, c48, hn, hi, hw]
   rw [app3]
   refine ih (i + 1, r3) ⟨hlt, ⟨by dsimp only; omega, hbn3⟩, h3⟩ (by dsimp only; omega) _ _ _ _ rfl ⟨by simp; omega, Nat.le_refl _⟩ (hf2 r3) ?_
   refine AgreeF.env _ ?_
   simp only [agf, seval, hn, List.length_append, List.length_cons, List.length_nil, Nat.zero_add, Nat.reduceAdd, hN1, hN2]
  ·have hlt' : decide ((i : Int) < (pr.funcs.length : Int)) = false := decide_eq_false (by omega)
   rw [List.drop_eq_nil_of_le (by omega)] at h3
   refine ARun.go 100 ?_
   simp only [W, seval, c48, hn, hi, hlt']
   refine ARun.ret Tryz.func48 rfl (Left.set (by rfl) ?_)
   rw [← h3]
   (try clear ih)
   (try simp only [dnw] at *)
   simp only [fnw, seval, Same] <;> simp [*]
   rw [← h3]
   exact ⟨rfl, rfl⟩
set_option maxHeartbeats 1000000 in
theorem right_ab (n : Nat) (pr : PrT) (hst : ∀ f ∈ pr.funcs, ∀ x ∈ f.body, StmtOk n x) (B : List (List V)) (T : List (Nat × Nat)) :
 AFn Tryz.prog TabI 14 [prV pr] ⟨B, T⟩ (Same (.d (.bool (prS n pr 0).1)) ⟨B, T⟩) := by
 obtain ⟨N, hn⟩ : ∃ N, B.length = N := ⟨_, rfl⟩
 have h := prog_ab n pr hst (N + 1) 0 (B ++ [[.d (.sl (pr.structs.map suD)), .d (.sl (pr.funcs.map fuD))], [.d (.int .i64 0)]]) T (by rw [bx_loc hn]; rfl) (by omega)
 unfold prV at h ⊢
 refine b14.go 100 rfl fun hsm => ?_
 simp only [smw] at hsm
 simp only [W, seval, c14, hn]
 refine callS_fn h ?_
 rintro _ _ ⟨rfl, rfl⟩
 refine ARun.go 100 ?_
 simp only [W, seval, c14, hn]
 refine ARun.ret Tryz.func14 rfl (Left.box ?_)
 (try clear ih)
 (try simp only [dnw] at *)
 simp only [fnw, seval, Same] <;> simp [*]
 skip
def c43 := by
 have c := KK_of Tryz.f43 (by conv => lhs; cbv)
 dsimp only [KK, KxP, doO, opO, List.map_cons, List.map_nil, List.toList_toArray] at c
 exact c
theorem b43 : FnIs Tryz.prog 43 Tryz.f43 6 := ⟨Tryz.func43, by kernel_rfl⟩
set_option maxHeartbeats 4000000 in
theorem exprG_ab (x : ExT) (B : List (List V)) (T : List (Nat × Nat)) : AFn Tryz.prog TabI 43 [exV x] ⟨B, T⟩ (Same (.d (.bool (exS x 0 0).1)) ⟨B, T⟩) := by
 obtain ⟨N, hn⟩ : ∃ N, B.length = N := ⟨_, rfl⟩
 have h := expr_ab x (N + 1) 0 0 (B ++ [[.d (.int .i64 x.kind), .d (.str x.text), .d (.int .u64 x.int), .d (.int .i64 x.type.kind), .d (.str x.type.name), .d (.sl (x.type.elem.map tyD)), .d (.sl (ssD x.names)), .d (.sl (x.kids.map exD))], [.d (.int .i64 0)]]) T (by rw [bx_loc hn]; rfl) (by omega) (by omega)
 unfold exV at h ⊢
 refine b43.go 100 rfl fun hsm => ?_
 simp only [smw] at hsm
 simp only [W, seval, c43, hn]
 refine callS_fn h ?_
 rintro _ _ ⟨rfl, rfl⟩
 refine ARun.go 100 ?_
 simp only [W, seval, c43, hn]
 refine ARun.ret Tryz.func43 rfl (Left.box ?_)
 (try clear ih)
 (try simp only [dnw] at *)
 simp only [fnw, seval, Same] <;> simp [*]
 skip
noncomputable def rgP (p : PrT) : Bool := (prS (SizeOf.sizeOf p.funcs) p 0).1
theorem rgP_ab (p : PrT) (B : List (List V)) (T : List (Nat × Nat)) : AFn Tryz.prog TabI 14 [prV p] ⟨B, T⟩ (Same (.d (.bool (rgP p))) ⟨B, T⟩) := by
 refine right_ab (SizeOf.sizeOf p.funcs) p (fun f hf x hx => stmt_ab _ x (Dp.of_size _ x ?_)) B T
 have h1 := List.sizeOf_lt_of_mem hf
 have h2 := List.sizeOf_lt_of_mem hx
 have h3 : SizeOf.sizeOf f.body < SizeOf.sizeOf f := by cases f; simp only [FuT.mk.sizeOf_spec]; omega
 omega
theorem parseP_ab (bs : List UInt8) (h0 : True) (hl : bs.length ≤ 400000) (n : Nat) (hn : bs.length + 5 ≤ n) (B : List (List V)) (T : List (Nat × Nat)) :
 AFn Tryz.prog TabI 9 [.d (.sl (byD bs))] ⟨B, T⟩ (Same (.tup [prV (finP rgP n (startS bs)).1, .d (.int .i64 (finP rgP n (startS bs)).2)]) ⟨B, T⟩) :=
 parse_ab bs h0 hl n hn (stmt_ok bs h0 hl (expr_ok bs h0 hl fun h1 h2 => fields_pp bs h0 hl h1 h2) n) rgP rgP_ab B T
set_option linter.unusedVariables false
def c16 := by
 have c := KK_of Tryz.f16 (by conv => lhs; cbv)
 dsimp only [KK, KxP, doO, opO, List.map_cons, List.map_nil, List.toList_toArray] at c
 exact c
theorem b16 : FnIs Tryz.prog 16 Tryz.f16 14 := ⟨Tryz.func16, by kernel_rfl⟩
def c7 := by
 have c := KK_of Tryz.f7 (by conv => lhs; cbv)
 dsimp only [KK, KxP, doO, opO, List.map_cons, List.map_nil, List.toList_toArray] at c
 exact c
theorem b7 : FnIs Tryz.prog 7 Tryz.f7 17 := ⟨Tryz.func7, by kernel_rfl⟩
def c12 := by
 have c := KK_of Tryz.f12 (by conv => lhs; cbv)
 dsimp only [KK, KxP, doO, opO, List.map_cons, List.map_nil, List.toList_toArray] at c
 exact c
theorem b12 : FnIs Tryz.prog 12 Tryz.f12 17 := ⟨Tryz.func12, by kernel_rfl⟩
def c13 := by
 have c := KK_of Tryz.f13 (by conv => lhs; cbv)
 dsimp only [KK, KxP, doO, opO, List.map_cons, List.map_nil, List.toList_toArray] at c
 exact c
theorem b13 : FnIs Tryz.prog 13 Tryz.f13 16 := ⟨Tryz.func13, by kernel_rfl⟩
def outT (s : List UInt8) : List UInt8 × Int := if 400000 < s.length then ([], 3) else (s, 0)
theorem done_ab {b0 : List V} {s : List UInt8} (hs : s ≠ []) (hl : s.length ≤ mostW) : AFn Tryz.prog TabI 16 [.ptr 1 0] ⟨[b0, bxW 1 0 s 0], [(s.length, 1)]⟩ fun v m => v = .tup [.d (.sl (byD (outT s).1)), .d (.int .i64 (outT s).2)] ∧ ∃ k', m = ⟨[b0, bxW 1 0 s 0], [(k', 1)]⟩ := by
 unfold mostW at hl
 have hlen : AFn Tryz.prog TabI 54 [.ptr 1 0] ⟨[b0, bxW 1 0 s 0], [(s.length, 1)]⟩ (Same (.d (.int .i64 (s.length : Int))) ⟨[b0, bxW 1 0 s 0], [(s.length, 1)]⟩) := len_ab (B := [b0, []]) (T := [(s.length, 1)]) (i := 1) (t := 0) (k := 0) (s := s) (by simp)
 unfold outT
 by_cases hc : 400000 < s.length
 ·have e1 : decide ((400000 : Int) < (s.length : Int)) = true := decide_eq_true (by omega)
  rw [if_pos hc]
  refine b16.go 20 rfl fun hsm => ?_
  simp only [smw] at hsm
  simp only [W, seval, c16]
  refine callS_fn hlen ?_
  rintro _ _ ⟨rfl, rfl⟩
  refine ARun.go 40 ?_
  simp only [W, seval, c16, e1]
  refine ARun.ret Tryz.func16 rfl ⟨_, [], _, [], by simp, rfl, rfl, .refl _ _ _, rfl, s.length, rfl⟩
 ·have e1 : decide ((400000 : Int) < (s.length : Int)) = false := decide_eq_false (by omega)
  rw [if_neg hc]
  refine b16.go 20 rfl fun hsm => ?_
  simp only [smw] at hsm
  simp only [W, seval, c16]
  refine callS_fn hlen ?_
  rintro _ _ ⟨rfl, rfl⟩
  refine ARun.go 40 ?_
  simp only [W, seval, c16, e1]
  refine callS_of (string_ab (B := [b0, bxW 1 0 s 0]) (i := 1) (s := s) (vs := [.d (.int .i64 ((0 : Nat) : Int))]) rfl hs (by omega)) ?_
  rintro _ _ ⟨rfl, k', rfl⟩
  refine ARun.go 40 ?_
  simp only [W, seval, c16]
  refine ARun.ret Tryz.func16 rfl ⟨_, [], [(k', 1)], [], by simp, rfl, rfl, .refl _ _ _, rfl, k', rfl⟩
set_option maxHeartbeats 2000000 in
theorem gprog_in {p : PrT} (hp : rgP p = true → OkPr p) (hl : (prT' p).length ≤ mostW) : AFn Tryz.prog TabI 7 [prV p] ⟨[], []⟩ (Same (.tup [.d (.sl (byD (if rgP p = true then (outT (prT' p)).1 else []))), .d (.int .i64 (if rgP p = true then (outT (prT' p)).2 else 2))]) ⟨[], []⟩) := by
 have hrg := rgP_ab p [prL p] []
 unfold prV prL at hrg
 unfold prV
 cases hr : rgP p
 ·rw [hr] at hrg
  rw [if_neg (by simp), if_neg (by simp)]
  refine b7.go 20 rfl fun _ => ?_
  simp only [W, seval, c7]
  refine callS_fn hrg ?_
  rintro _ _ ⟨rfl, rfl⟩
  refine ARun.go 40 ?_
  simp only [W, seval, c7]
  refine ARun.ret Tryz.func7 rfl (Left.empty ?_)
  exact ⟨rfl, rfl⟩
 ·rw [hr] at hrg
  rw [if_pos rfl, if_pos rfl]
  refine b7.go 20 rfl fun _ => ?_
  simp only [W, seval, c7]
  refine callS_fn hrg ?_
  rintro _ _ ⟨rfl, rfl⟩
  refine ARun.go 7 ?_
  simp only [W, seval, c7]
  refine OpR.step (ops := opsOf (kF Tryz.f7 11)) (i := 1) (o := opAt (opsOf (kF Tryz.f7 11)) 1) (by kernel_rfl) (.inl (by kernel_rfl)) (OpR.boxSelf (t := 54) (x := .tmp 8) (vs := [.sl [] .full, .d (.int .i64 0)]) (by kernel_rfl) (by rfl)) ?_
  rintro _ _ ⟨rfl, rfl⟩
  have hd9 : (opAt (opsOf (kF Tryz.f7 11)) 1).dst = some 9 := by kernel_rfl
  rw [hd9]
  refine ARun.bufB 1 5 (a := .self 1 54) (vs := [.d (.int .i64 0)]) (by rfl) ?_
  have hp1 : AFn Tryz.prog TabI 15 [.ptr 1 0, prV p] ⟨[prL p, bxW 1 0 [] 0], [(0, 1)]⟩ (Same (.tup []) ⟨[prL p, bxW 1 0 (prT' p) 0], [((prT' p).length, 1)]⟩) := prog_pk (hp hr) 1 0 [] 0 [prL p, []] [(0, 1)] (by simp) (by simp) rfl (by simpa using hl)
  have hd := done_ab (b0 := prL p) (s := prT' p) (by unfold prT'; simp) hl
  obtain ⟨S, hS⟩ : ∃ S, prT' p = S := ⟨_, rfl⟩
  rw [hS] at hp1 hd ⊢
  change ARun _ _ _ _ _ (setV (envS 17 _) _ _) ⟨[[.d (.sl (p.structs.map suD)), .d (.sl (p.funcs.map fuD))], bxW 1 0 [] 0], [(0, 1)]⟩ _
  unfold prV prL at hp1
  unfold prL at hd
  refine ARun.go 20 ?_
  simp only [W, seval, c7]
  refine callS_fn hp1 ?_
  rintro _ _ ⟨rfl, rfl⟩
  refine ARun.go 20 ?_
  simp only [W, seval, c7]
  refine callS_of hd ?_
  rintro _ _ ⟨rfl, k', rfl⟩
  refine ARun.go 40 ?_
  simp only [W, seval, c7]
  refine ARun.ret Tryz.func7 rfl (Left.empty ?_)
  exact ⟨rfl, rfl⟩
theorem gprog_ab {p : PrT} (hp : rgP p = true → OkPr p) (hl : (prT' p).length ≤ mostW) (S : Mem) : AFn Tryz.prog TabI 7 [prV p] S (Same (.tup [.d (.sl (byD (if rgP p = true then (outT (prT' p)).1 else []))), .d (.int .i64 (if rgP p = true then (outT (prT' p)).2 else 2))]) S) :=
 (gprog_in hp hl).same (by simp [prV, wkL, wk]) (by simp [wkL, wk]) S
def c6 := by
 have c := KK_of Tryz.f6 (by conv => lhs; cbv)
 dsimp only [KK, KxP, doO, opO, List.map_cons, List.map_nil, List.toList_toArray] at c
 exact c
theorem b6 : FnIs Tryz.prog 6 Tryz.f6 36 := ⟨Tryz.func6, by kernel_rfl⟩
set_option maxHeartbeats 2000000 in
theorem gexpr_in {x : ExT} (h : OkE 0 x) (hs : (exS x 0 0).1 = true) (hne : exT x ≠ []) (hl : (exT x).length ≤ 400000) : AFn Tryz.prog TabI 12 [exV x] ⟨[], []⟩ (Same (.tup [.d (.sl (byD (exT x))), .d (.int .i64 0)]) ⟨[], []⟩) := by
 have hrg := exprG_ab x [exL x] []
 have hl9 : (exT x).length ≤ mostW := by unfold mostW; omega
 rw [hs] at hrg
 have hp1 : AFn Tryz.prog TabI 44 [.ptr 1 0, exV x] ⟨[exL x, bxW 1 0 [] 0], [(0, 1)]⟩ (Same (.tup []) ⟨[exL x, bxW 1 0 (exT x) 0], [((exT x).length, 1)]⟩) := expr_pw h 1 0 [] 0 [exL x, []] [(0, 1)] (by simp) (by simp) (by omega) (by simpa using hl9)
 have hd := done_ab (b0 := exL x) (s := exT x) hne hl9
 have ho : outT (exT x) = (exT x, 0) := by unfold outT; rw [if_neg (by omega)]
 rw [ho] at hd
 dsimp only at hd
 obtain ⟨S, hS⟩ : ∃ S, exT x = S := ⟨_, rfl⟩
 rw [hS] at hp1 hd ⊢
 unfold exV exL at hrg hp1
 unfold exL at hd
 unfold exV
 refine b12.go 20 rfl fun hsm => ?_
 simp only [smw] at hsm
 simp only [W, seval, c12]
 refine callS_fn hrg ?_
 rintro _ _ ⟨rfl, rfl⟩
 refine ARun.go 7 ?_
 simp only [W, seval, c12]
 refine OpR.step (ops := opsOf (kF Tryz.f12 11)) (i := 1) (o := opAt (opsOf (kF Tryz.f12 11)) 1) (by kernel_rfl) (.inl (by kernel_rfl)) (OpR.boxSelf (t := 54) (x := .tmp 8) (vs := [.sl [] .full, .d (.int .i64 0)]) (by kernel_rfl) (by rfl)) ?_
 rintro _ _ ⟨rfl, rfl⟩
 have hd9 : (opAt (opsOf (kF Tryz.f12 11)) 1).dst = some 9 := by kernel_rfl
 rw [hd9]
 refine ARun.bufB 1 5 (a := .self 1 54) (vs := [.d (.int .i64 0)]) (by rfl) ?_
 change ARun _ _ _ _ _ (setV (envS 17 _) _ _) ⟨[[.d (.int .i64 x.kind), .d (.str x.text), .d (.int .u64 x.int), .d (.int .i64 x.type.kind), .d (.str x.type.name), .d (.sl (x.type.elem.map tyD)), .d (.sl (ssD x.names)), .d (.sl (x.kids.map exD))], bxW 1 0 [] 0], [(0, 1)]⟩ _
 refine ARun.go 20 ?_
 simp only [W, seval, c12]
 refine callS_fn hp1 ?_
 rintro _ _ ⟨rfl, rfl⟩
 refine ARun.go 20 ?_
 simp only [W, seval, c12]
 refine callS_of hd ?_
 rintro _ _ ⟨rfl, k', rfl⟩
 refine ARun.go 40 ?_
 simp only [W, seval, c12]
 refine ARun.ret Tryz.func12 rfl (Left.empty ?_)
 exact ⟨rfl, rfl⟩
theorem type_run : evCall Tryz.prog TabI noOrc 10000 45 [.agg [.d (.int .i64 4), .d (.str []), .d (.sl [])]] = some (.d (.bool true)) := by kernel_rfl
set_option maxHeartbeats 2000000 in
theorem gtype_in : AFn Tryz.prog TabI 13 [.agg [.d (.int .i64 4), .d (.str []), .d (.sl [])]] ⟨[], []⟩ (Same (.d (.str [105, 110, 116])) ⟨[], []⟩) := by
 have hrg := AFn.sameW (args := [.agg [.d (.int .i64 4), .d (.str []), .d (.sl [])]]) (evCall_ok names_ok noOrc_ok type_run) rfl rfl ⟨[[.d (.int .i64 4), .d (.str []), .d (.sl [])]], []⟩
 have hp1 : AFn Tryz.prog TabI 46 [.ptr 1 0, .agg [.d (.int .i64 4), .d (.str []), .d (.sl [])]] ⟨[[.d (.int .i64 4), .d (.str []), .d (.sl [])], bxW 1 0 [] 0], [(0, 1)]⟩ (Same (.tup []) ⟨[[.d (.int .i64 4), .d (.str []), .d (.sl [])], bxW 1 0 [105, 110, 116] 0], [(3, 1)]⟩) := typ_pw (OkT.bas 4 (by omega) (by omega)) 1 0 [] 0 [[.d (.int .i64 4), .d (.str []), .d (.sl [])], []] [(0, 1)] (by simp) (by simp) (by omega) (by unfold mostW; decide)
 refine b13.go 20 rfl fun hsm => ?_
 simp only [smw] at hsm
 simp only [W, seval, c13]
 refine callS_fn hrg ?_
 rintro _ _ ⟨rfl, rfl⟩
 refine ARun.go 7 ?_
 simp only [W, seval, c13]
 refine OpR.step (ops := opsOf (kF Tryz.f13 11)) (i := 1) (o := opAt (opsOf (kF Tryz.f13 11)) 1) (by kernel_rfl) (.inl (by kernel_rfl)) (OpR.boxSelf (t := 54) (x := .tmp 7) (vs := [.sl [] .full, .d (.int .i64 0)]) (by kernel_rfl) (by rfl)) ?_
 rintro _ _ ⟨rfl, rfl⟩
 have hd9 : (opAt (opsOf (kF Tryz.f13 11)) 1).dst = some 8 := by kernel_rfl
 rw [hd9]
 refine ARun.bufB 1 5 (a := .self 1 54) (vs := [.d (.int .i64 0)]) (by rfl) ?_
 change ARun _ _ _ _ _ (setV (envS 16 _) _ _) ⟨[[.d (.int .i64 4), .d (.str []), .d (.sl [])], bxW 1 0 [] 0], [(0, 1)]⟩ _
 refine ARun.go 20 ?_
 simp only [W, seval, c13]
 refine callS_fn hp1 ?_
 rintro _ _ ⟨rfl, rfl⟩
 refine ARun.go 20 ?_
 simp only [W, seval, c13]
 refine callS_of (string_ab (B := [[.d (.int .i64 4), .d (.str []), .d (.sl [])], bxW 1 0 [105, 110, 116] 0]) (i := 1) (s := [105, 110, 116]) (vs := [.d (.int .i64 ((0 : Nat) : Int))]) rfl (by simp) (by simp)) ?_
 rintro _ _ ⟨rfl, k', rfl⟩
 refine ARun.go 40 ?_
 simp only [W, seval, c13]
 refine ARun.ret Tryz.func13 rfl (Left.empty ?_)
 exact ⟨rfl, rfl⟩
def x26 : ExT := .mk 6 [42] 0 (.mk 0 [] []) [] [.mk 6 [43] 0 (.mk 0 [] []) [] [.mk 1 [120] 0 (.mk 0 [] []) [] [], .mk 2 [] 1 (.mk 0 [] []) [] []], .mk 5 [] 0 (.mk 0 [] []) [] [.mk 1 [121] 0 (.mk 0 [] []) [] []]]
theorem ok26 : OkE 0 x26 := by
 refine .bin 0 [42] _ _ (by omega) (by decide) (.bin _ [43] _ _ (by omega) (by decide) (.nam _ [120] (by omega) (by decide)) (.num _ 1 (by omega) (by omega) (by omega))) (.sgn _ 5 _ (by omega) (.inr rfl) (.nam _ [121] (by omega) (by decide)))
theorem s26 : (exS x26 0 0).1 = true := by kernel_rfl
set_option maxHeartbeats 2000000 in
theorem works26_ab (S : Mem) : AFn Tryz.prog TabI 6 [] S (Same (.d (.bool true)) S) := by
 refine AFn.sameW (args' := []) ?_ rfl rfl S
 have hE := gexpr_in ok26 s26 (by rw [show exT x26 = _ from works26_text]; simp) (by rw [show exT x26 = _ from works26_text]; decide)
 rw [show exT x26 = _ from works26_text] at hE
 have hT := gtype_in
 refine AFn.bodyN (body := (kF Tryz.f6 0)) 36 Tryz.func6 (by kernel_rfl) (by kernel_rfl) (by kernel_rfl) (Nat.le_of_ble_eq_true rfl) ?_
 refine ARun.go 60 ?_
 simp only [W, seval, c6, mapD_nil, mapD_cons, mapD_sl, Nat.reduceMul]
 refine callS_fn (AFn.sameW hE.only (by simp [wkL, wk]; rfl) rfl _) ?_
 rintro _ _ ⟨rfl, rfl⟩
 have hbs : ∀ s, fromBytes (byD s) = some s := fun s => fromBytes_map s
 refine ARun.go 60 ?_
 simp only [W, seval, c6, mapD_nil, mapD_cons, mapD_sl, Nat.reduceMul, hbs]
 refine callS_fn (AFn.sameW hT.only (by simp [wkL, wk]) rfl _) ?_
 rintro _ _ ⟨rfl, rfl⟩
 refine ARun.go 60 ?_
 simp only [W, seval, c6]
 refine ARun.ret Tryz.func6 rfl (id ?_)
 exact rfl
end Go.Proofs.YtfaoamebphckbaaGreatDoor
namespace Go.Proofs.YtfaoamebphckbaaGreatDoor
open Go.RowKit Go.Av
set_option linter.unusedSimpArgs false
set_option linter.unusedVariables false
def wtL : List WordS → Nat
 | [] => 0
 | w :: l => 100 + w.text.length + wtL l
def Wt (s : Ps) : Nat := wtL s.ws
theorem live_back {s s' : Ps} (d : Dn s s') (h : s'.e = 0) : s.e = 0 := by
 by_cases h0 : s.e = 0
 ·exact h0
 ·exact absurd ((d.e h0).symm.trans h) h0
theorem wt_fail {s : Ps} {e : Int} (he : e ≠ 0) (h : (failP s e).e = 0) : False := by
 unfold failP at h
 split at h
 ·exact he h
 ·rename_i h0
  exact h0 h
theorem wt_next {s : Ps} (hk : s.w.kind ≠ 0) (h : (nextP s).e = 0) : Wt (nextP s) + 100 + s.w.text.length ≤ Wt s := by
 have h0 := live_back (dn_next s) h
 obtain ⟨ws, e, o, b⟩ := s
 obtain rfl : e = 0 := h0
 cases ws with
 | nil => exact absurd rfl hk
 | cons w l =>
  unfold nextP at h ⊢
  rw [if_pos rfl] at h ⊢
  split at h
  ·cases h
  ·rename_i h9
   rw [if_neg h9]
   show wtL l + 100 + w.text.length ≤ 100 + w.text.length + wtL l
   omega
theorem wt_bump (s : Ps) (t : List UInt8) : Wt (bumpP s t) = Wt s ∧ (bumpP s t).w = s.w := by
 unfold Wt Ps.w
 rw [bump_w]
 exact ⟨rfl, rfl⟩
theorem wt_got {s s1 : Ps} {t : List UInt8} (h : gotP s t = (true, s1)) (h1 : s1.e = 0) : Wt s1 + 100 + t.length ≤ Wt s := by
 unfold gotP at h
 split at h
 ·rename_i hi
  obtain rfl := (Prod.mk.inj h).2
  obtain ⟨_, hk, ht⟩ := is_live hi
  have hb := wt_bump s t
  have := wt_next (s := bumpP s t) (by rw [hb.2]; omega) h1
  rw [hb.1, hb.2, ht] at this
  exact this
 ·cases h
theorem wt_want {s : Ps} {t : List UInt8} (h1 : (wantP s t).e = 0) : Wt (wantP s t) + 100 + t.length ≤ Wt s := by
 rcases hg : gotP s t with ⟨_ | _, s1⟩
 ·unfold wantP at h1
  rw [hg] at h1
  exact absurd h1 (fun h => wt_fail (by decide) h)
 ·have e : wantP s t = s1 := by
   unfold wantP
   rw [hg]
  rw [e] at h1 ⊢
  exact wt_got hg h1
theorem wt_name {s s1 : Ps} {t : List UInt8} (h : nameP s = (t, s1)) (h1 : s1.e = 0) : Wt s1 + 100 + t.length ≤ Wt s := by
 unfold nameP at h
 split at h
 ·rename_i hi
  obtain ⟨rfl, rfl⟩ := Prod.mk.inj h
  exact wt_next (by omega) h1
 ·obtain ⟨rfl, rfl⟩ := Prod.mk.inj h
  exact absurd h1 (fun h => wt_fail (by decide) h)
def WE (E : EP) (n : Nat) : Prop := ∀ s s1 x, Wt s < 100 * n → E s = (x, s1) → s1.e = 0 → (exT x).length + 2 + Wt s1 ≤ Wt s
def exsL : List ExT → Nat
 | [] => 0
 | x :: l => (exT x).length + 2 + exsL l
theorem comq_len : ∀ (l : List ExT) (b : Bool), (comB b (exTs l)).length ≤ exsL l
 | [], b => by simp [exTs, comB]
 | x :: l, b => by
  have := comq_len l true
  unfold exTs comB exsL
  cases b <;> simp <;> omega
theorem we_list {E : EP} {n : Nat} (hD : DnE E) (h : WE E n) (en : List UInt8) (cm : Bool) : ∀ (m : Nat) (s s1 : Ps) (l : List ExT), Wt s < 100 * n → listL E en cm m s = (l, s1) → s1.e = 0 → exsL l + Wt s1 ≤ Wt s
 | 0, s, s1, l, hn, e, h1 => by
  cases e
  show 0 + Wt s ≤ Wt s
  omega
 | m + 1, s, s1, l, hn, e, h1 => by
  unfold listL at e
  split at e
  ·split at e
   rename_i x s2 he
   split at e
   ·rename_i s3 hg
    cases e
    obtain rfl := got_no hg
    have := h _ _ _ hn he h1
    show (exT x).length + 2 + 0 + Wt _ ≤ Wt s
    omega
   ·rename_i s3 hg
    split at e
    rename_i l2 s4 hl
    cases e
    have d4 := dn_list hD en cm m hl
    have h3 := live_back d4 h1
    split at h3
    ·exact absurd h3 (fun h => wt_fail (by decide) h)
    ·rename_i hc
     have w1 := h _ _ _ hn he (live_back (dn_got hg) h3)
     have w2 := wt_got hg h3
     rw [if_neg hc] at hl
     have ih := we_list hD h en cm m _ _ _ (by omega) hl h1
     show (exT x).length + 2 + exsL l2 + Wt _ ≤ Wt s
     omega
  ·cases e
   show 0 + Wt s ≤ Wt s
   omega
theorem parq_len (b : Bool) (s : List UInt8) : (parT b s).length ≤ s.length + 2 := by
 unfold parT
 split <;> simp
theorem we_vals {E : EP} {n : Nat} (hD : DnE E) (h : WE E n) : ∀ (m : Nat) (s s1 : Ps) (l : List ExT), Wt s < 100 * n → valsP E m s = (l, s1) → s1.e = 0 → exsL l + Wt s1 ≤ Wt s
 | 0, s, s1, l, hn, e, h1 => by
  cases e
  show 0 + Wt s ≤ Wt s
  omega
 | m + 1, s, s1, l, hn, e, h1 => by
  unfold valsP at e
  split at e
  rename_i x s2 he
  split at e
  ·rename_i s3 hg
   cases e
   obtain rfl := got_no hg
   have := h _ _ _ hn he h1
   show (exT x).length + 2 + 0 + Wt _ ≤ Wt s
   omega
  ·rename_i s3 hg
   split at e
   rename_i l2 s4 hl
   cases e
   have h3 := live_back (dn_vals hD m hl) h1
   have w1 := h _ _ _ hn he (live_back (dn_got hg) h3)
   have w2 := wt_got hg h3
   have ih := we_vals hD h m _ _ _ (by omega) hl h1
   show (exT x).length + 2 + exsL l2 + Wt _ ≤ Wt s
   omega
theorem we_listP {E : EP} {n : Nat} (hD : DnE E) (h : WE E n) {en : List UInt8} {cm : Bool} {m : Nat} {s s1 : Ps} {l : List ExT} (hn : Wt s < 100 * n) (e : listP E en cm m s = (l, s1)) (h1 : s1.e = 0) : exsL l + 100 + Wt s1 ≤ Wt s := by
 unfold listP at e
 split at e
 rename_i l2 s2 hl
 cases e
 have w2 := wt_want h1
 have w1 := we_list hD h en cm m _ _ _ hn hl (live_back (dn_want _ _) h1)
 omega
theorem we_up : ∀ (m : Nat) (s s1 : Ps) (n : Nat), upP m s = (n, s1) → s1.e = 0 → 2 * n + Wt s1 ≤ Wt s
 | 0, s, s1, n, e, h1 => by cases e; omega
 | m + 1, s, s1, n, e, h1 => by
  unfold upP at e
  split at e
  ·rename_i hg
   cases e
   obtain rfl := got_no hg
   omega
  ·rename_i s2 hg
   split at e
   rename_i n2 s3 hu
   cases e
   have ih := we_up m _ _ _ hu h1
   have hw := live_back (dn_up m hu) h1
   have w2 := wt_want hw
   have w1 := wt_got hg (live_back (dn_want _ _) hw)
   omega
theorem wrap_len : ∀ (n : Nat) (t : TyT), (typT (wrapT n t)).length = 2 * n + (typT t).length
 | 0, t => by simp [wrapT]
 | n + 1, t => by
  unfold wrapT
  rw [wrap_len n]
  show 2 * n + ([91, 93] ++ typT t).length = _
  simp
  omega
theorem basq_len (k : Int) : (basT k).length ≤ 6 := by
 unfold basT
 repeat' split
 all_goals decide
theorem we_typ {m : Nat} {s s1 : Ps} {t : TyT} (e : typP m s = (t, s1)) (h1 : s1.e = 0) : (typT t).length + Wt s1 ≤ Wt s := by
 unfold typP at e
 split at e
 rename_i n s2 hu
 split at e
 rename_i t2 s3 hb
 cases e
 have h2 := live_back (dn_base hb) h1
 have w1 := we_up m _ _ _ hu h2
 rw [wrap_len]
 unfold baseP at hb
 split at hb
 ·rename_i hk
  cases hb
  have w2 := wt_next (s := s2) (by have := (is_live hk.2).2.1; omega) h1
  have hne : kindS s2.w.text ≠ 7 ∧ kindS s2.w.text ≠ 8 := by
   have : ∀ x ∈ kindT, x.2 ≠ 7 ∧ x.2 ≠ 8 := by decide
   unfold kindS
   cases hf : kindT.find? fun x => x.1 == s2.w.text with
   | none => exact ⟨by decide, by decide⟩
   | some x => exact this x (List.mem_of_find?_eq_some hf)
  have e3 : typT (.mk (kindS s2.w.text) [] []) = basT (kindS s2.w.text) := by unfold typT; rw [if_neg hne.1, if_neg hne.2]
  have := basq_len (kindS s2.w.text)
  rw [e3]
  omega
 ·split at hb
  rename_i t3 s4 hn
  cases hb
  have w2 := wt_name hn h1
  show 2 * n + t3.length + _ ≤ _
  omega
theorem we_fld {E : EP} {n : Nat} (hD : DnE E) (h : WE E n) : ∀ (m : Nat) (s s1 : Ps) (ns : List (List UInt8)) (xs : List ExT), Wt s < 100 * n → fldL E m s = ((ns, xs), s1) → s1.e = 0 → (comB true (namT ns (exTs xs))).length + Wt s1 ≤ Wt s
 | 0, s, s1, ns, xs, hn0, e, h1 => by
  cases e
  show 0 + Wt s ≤ Wt s
  omega
 | m + 1, s, s1, ns, xs, hn0, e, h1 => by
  unfold fldL at e
  split at e
  ·split at e
   rename_i t s2 hn
   split at e
   rename_i x s3 he
   split at e
   ·rename_i s4 hg
    cases e
    obtain rfl := got_no hg
    have h2 := live_back (hD.at he) h1
    have w1 := wt_name hn (live_back (dn_want _ _) h2)
    have w2 := wt_want h2
    have w3 := h _ _ _ (by omega) he h1
    have e3 : (comB true (namT [t] (exTs [x]))).length = 2 + (t.length + 2 + (exT x).length) := by
     simp [exTs, namT, comB]
     omega
    rw [e3]
    omega
   ·rename_i s4 hg
    split at e
    rename_i ts xs2 s5 hl
    cases e
    have h4 := live_back (dn_fld hD m hl) h1
    have h3 := live_back (dn_got hg) h4
    have h2 := live_back (hD.at he) h3
    have w1 := wt_name hn (live_back (dn_want _ _) h2)
    have w2 := wt_want h2
    have w3 := h _ _ _ (by omega) he h3
    have w4 := wt_got hg h4
    have ih := we_fld hD h m _ _ _ _ (by omega) hl h1
    have e3 : (comB true (namT (t :: ts) (exTs (x :: xs2)))).length = 2 + (t.length + 2 + (exT x).length) + (comB true (namT ts (exTs xs2))).length := by
     simp [exTs, namT, comB]
     omega
    rw [e3]
    omega
  ·cases e
   show 0 + Wt s ≤ Wt s
   omega
end Go.Proofs.YtfaoamebphckbaaGreatDoor
namespace Go.Proofs.YtfaoamebphckbaaGreatDoor
open Go.RowKit Go.Av Go.Ab
set_option linter.unusedSimpArgs false
set_option maxRecDepth 100000
set_option linter.defProp false
def plusM (a b : Int) : Int := if a < 0 ∨ b < 0 ∨ 60000 < a + b then -1 else a + b
structure Agr (f : Int → Bool × Int) (n : Int) : Prop where
 lo : -1 ≤ n
 hi : n ≤ 60000
 ok : ∀ p, 0 ≤ p → p ≤ 60000 → ((f p).1 = true ↔ 0 ≤ n ∧ p + n ≤ 60000)
 adds : ∀ p, 0 ≤ p → p ≤ 60000 → (f p).1 = true → (f p).2 = p + n
theorem plusM_in (a b : Int) : -1 ≤ plusM a b ∧ plusM a b ≤ 60000 := by unfold plusM; split <;> omega
theorem Agr.and {f g : Int → Bool × Int} {a b : Int} (hf : Agr f a) (hg : Agr g b) : Agr (andS f g) (plusM a b) := by
 have key : ∀ p, 0 ≤ p → p ≤ 60000 → ((andS f g p).1 = true ↔ (0 ≤ a ∧ p + a ≤ 60000) ∧ 0 ≤ b ∧ p + a + b ≤ 60000) ∧ ((andS f g p).1 = true → (andS f g p).2 = p + a + b) := by
  intro p h1 h2
  unfold andS
  by_cases h : (f p).1 = false
  ·rw [if_pos h]
   have := hf.ok p h1 h2
   rw [h] at this
   exact ⟨⟨fun h => (by cases h), fun h => absurd (this.2 h.1) (by decide)⟩, fun h => (by cases h)⟩
  ·rw [if_neg h]
   have ht : (f p).1 = true := by simpa using h
   have h3 := (hf.ok p h1 h2).1 ht
   have h4 := hf.adds p h1 h2 ht
   rw [h4]
   have h5 := hg.ok (p + a) (by omega) h3.2
   exact ⟨⟨fun h => ⟨h3, h5.1 h⟩, fun h => h5.2 h.2⟩, fun h => hg.adds (p + a) (by omega) h3.2 h⟩
 obtain ⟨h1, h2⟩ := plusM_in a b
 refine ⟨h1, h2, fun p h3 h4 => ?_, fun p h3 h4 h5 => ?_⟩
 ·rw [(key p h3 h4).1]
  unfold plusM
  split <;> omega
 ·have h6 := (key p h3 h4).1.1 h5
  rw [(key p h3 h4).2 h5]
  unfold plusM
  rw [if_neg (by omega)]
  omega
theorem Agr.bad {f : Int → Bool × Int} (h : ∀ p, 0 ≤ p → p ≤ 60000 → (f p).1 = false) : Agr f (-1) :=
 ⟨by omega, by omega, fun p h1 h2 => by rw [h p h1 h2]; exact ⟨fun h => (by cases h), fun h => absurd h.1 (by omega)⟩, fun p h1 h2 h3 => by rw [h p h1 h2] at h3; cases h3⟩
theorem Agr.allow (b : Bool) : Agr (allowS b) (if b = true then 0 else -1) := by
 cases b
 ·exact Agr.bad fun p _ _ => rfl
 ·refine ⟨by decide, by decide, fun p h1 h2 => ?_, fun p h1 h2 h3 => ?_⟩
  ·rw [if_pos rfl]
   exact ⟨fun _ => ⟨Int.le_refl _, by omega⟩, fun _ => rfl⟩
  ·rw [if_pos rfl]
   show p = p + 0
   omega
theorem Agr.part (d : Int) : Agr (partS d) (if 60 < d then -1 else 1) := by
 by_cases h : 60 < d
 ·rw [if_pos h]
  refine Agr.bad fun p _ _ => ?_
  show (decide (p + 1 ≤ 60000) && decide (d ≤ 60)) = false
  rw [decide_eq_false (by omega : ¬ d ≤ 60), Bool.and_false]
 ·rw [if_neg h]
  refine ⟨by decide, by decide, fun p h1 h2 => ?_, fun p _ _ _ => rfl⟩
  show (decide (p + 1 ≤ 60000) && decide (d ≤ 60)) = true ↔ _
  rw [decide_eq_true (by omega : d ≤ 60), Bool.and_true, decide_eq_true_iff]
  omega
def sumM {α : Type} (c : α → Int) : List α → Int
 | [] => 0
 | x :: l => plusM (c x) (sumM c l)
theorem Agr.row {α : Type} {f : α → Int → Bool × Int} {c : α → Int} : ∀ (l : List α), (∀ x ∈ l, Agr (f x) (c x)) → Agr (rowS f l) (sumM c l)
 | [], _ => ⟨show (-1 : Int) ≤ 0 by decide, show (0 : Int) ≤ 60000 by decide, fun p _ h => ⟨fun _ => ⟨Int.le_refl _, by show p + 0 ≤ 60000; omega⟩, fun _ => rfl⟩, fun p _ _ _ => by show p = p + 0; omega⟩
 | x :: l, h => (h x List.mem_cons_self).and (Agr.row l fun y hy => h y (List.mem_cons_of_mem _ hy))
theorem Agr.congr {f g : Int → Bool × Int} {n : Int} (h : Agr g n) (h1 : ∀ p, 0 ≤ p → p ≤ 60000 → (f p).1 = (g p).1 ∧ ((f p).1 = true → (f p).2 = (g p).2)) : Agr f n :=
 ⟨h.lo, h.hi, fun p h2 h3 => by rw [(h1 p h2 h3).1]; exact h.ok p h2 h3, fun p h2 h3 h4 => by rw [(h1 p h2 h3).2 h4]; exact h.adds p h2 h3 (by rw [← (h1 p h2 h3).1]; exact h4)⟩
theorem pos_sgn : ∀ (m : Nat) (s : Ps), ∀ k ∈ (sgnL m s).1, k = 4 ∨ k = 5
 | 0, s => by unfold sgnL; simp
 | m + 1, s => by
  have ih := pos_sgn m
  unfold sgnL
  grind
end Go.Proofs.YtfaoamebphckbaaGreatDoor
namespace Go.Proofs.YtfaoamebphckbaaGreatDoor
open Go.RowKit Go.Av
set_option linter.unusedSimpArgs false
set_option linter.unusedVariables false
theorem lenq_name (t : List UInt8) : (exT (.mk 1 t 0 noT [] [])).length = t.length := rfl
theorem lenq_call (t : List UInt8) (l : List ExT) : (exT (.mk 7 t 0 noT [] l)).length ≤ t.length + 2 + exsL l := by
 have := comq_len l false
 show (t ++ [40] ++ comB false (exTs l) ++ [41]).length ≤ _
 simp
 omega
theorem lenq_str (t : List UInt8) (ns : List (List UInt8)) (l : List ExT) : (exT (.mk 14 [] 0 (.mk 7 t []) ns l)).length ≤ t.length + 2 + (comB true (namT ns (exTs l))).length := by
 have : (comB false (namT ns (exTs l))).length ≤ (comB true (namT ns (exTs l))).length := by
  cases namT ns (exTs l) with
  | nil => simp [comB]
  | cons x q =>
   simp [comB]
   omega
 show (t ++ ([123] ++ comB false (namT ns (exTs l)) ++ [125])).length ≤ _
 simp
 omega
theorem lenq_lis (t : TyT) (l : List ExT) : (exT (.mk 15 [] 0 t [] l)).length ≤ (typT t).length + 2 + exsL l := by
 have := comq_len l false
 show (typT t ++ ([123] ++ comB false (exTs l) ++ [125])).length ≤ _
 simp
 omega
theorem we_named {E : EP} {n : Nat} (hD : DnE E) (h : WE E n) {m : Nat} {s s1 : Ps} {x : ExT} (hs : Wt s < 100 * n + 100) (e : namedP true E m s = (x, s1)) (h1 : s1.e = 0) : (exT x).length + 2 + Wt s1 ≤ Wt s := by
 unfold namedP at e
 split at e
 rename_i t s2 hn
 split at e
 ·rename_i s3 hg
  split at e
  rename_i l s4 hl
  cases e
  have h3 := live_back (dn_listP hD hl) h1
  have w1 := wt_name hn (live_back (dn_got hg) h3)
  have w2 := wt_got hg h3
  have w3 := we_listP hD h (by omega) hl h1
  have := lenq_call t l
  omega
 ·split at e
  ·split at e
   ·rename_i s3 hg
    split at e
    rename_i ts xs s4 hl
    cases e
    have w4 := wt_want h1
    have h4 := live_back (dn_want _ _) h1
    have h3 := live_back (dn_fld hD m hl) h4
    have w1 := wt_name hn (live_back (dn_got hg) h3)
    have w2 := wt_got hg h3
    have w3 := we_fld hD h m _ _ _ _ (by omega) hl h4
    have := lenq_str t ts xs
    omega
   ·cases e
    have w1 := wt_name hn h1
    have := lenq_name t
    omega
  ·cases e
   have w1 := wt_name hn h1
   have := lenq_name t
   omega
theorem we_keyed {E : EP} {n : Nat} (hD : DnE E) (h : WE E n) {s s1 : Ps} {x : ExT} (hs : Wt s < 100 * n + 100) (hk : s.w.kind ≠ 0) (e : keyedP E s = (x, s1)) (h1 : s1.e = 0) : (exT x).length + 2 + Wt s1 ≤ Wt s := by
 unfold keyedP at e
 split at e
 ·cases e
  have := wt_next hk h1
  show 4 + 2 + _ ≤ _
  omega
 split at e
 ·cases e
  have := wt_next hk h1
  show 5 + 2 + _ ≤ _
  omega
 split at e
 rename_i y s2 he
 have go : ∀ s3, s3 = s2 → s3.e = 0 → (exT y).length + 2 + Wt s3 + 200 ≤ Wt s := by
  rintro s3 rfl h3
  have h4 := live_back (hD.at he) h3
  have w1 := wt_next hk (live_back (dn_want _ _) h4)
  have w2 := wt_want h4
  have w3 := h _ _ _ (by omega) he h3
  omega
 split at e
 ·split at e
  rename_i z s3 he2
  cases e
  have w5 := wt_want h1
  have h5 := live_back (dn_want _ _) h1
  have h4 := live_back (hD.at he2) h5
  have w3 := wt_want h4
  have := go s2 rfl (live_back (dn_want _ _) h4)
  have w4 := h _ _ _ (by omega) he2 h5
  have e3 : (exT (.mk 13 [] 0 noT [] [y, z])).length = 8 + (exT y).length + 2 + (exT z).length := by
   show ([97, 112, 112, 101, 110, 100, 40] ++ comB false [exT y, exT z] ++ [41]).length = _
   simp [comB]
   omega
  omega
 split at e
 ·cases e
  have w5 := wt_want h1
  have := go s2 rfl (live_back (dn_want _ _) h1)
  have hb := basq_len (kindS s.w.text)
  have hne : kindS s.w.text ≠ 7 ∧ kindS s.w.text ≠ 8 := by
   have : ∀ x ∈ kindT, x.2 ≠ 7 ∧ x.2 ≠ 8 := by decide
   unfold kindS
   cases hf : kindT.find? fun x => x.1 == s.w.text with
   | none => exact ⟨by decide, by decide⟩
   | some x => exact this x (List.mem_of_find?_eq_some hf)
  have e3 : (exT (.mk 8 [] 0 (.mk (kindS s.w.text) [] []) [] [y])).length = (basT (kindS s.w.text)).length + 2 + (exT y).length := by
   show (typT (.mk (kindS s.w.text) [] []) ++ ([40] ++ comB false [exT y] ++ [41])).length = _
   rw [show typT (.mk (kindS s.w.text) [] []) = basT (kindS s.w.text) by unfold typT; rw [if_neg hne.1, if_neg hne.2]]
   simp [comB]
   omega
  omega
 ·cases e
  have w5 := wt_want h1
  have := go s2 rfl (live_back (dn_want _ _) h1)
  have e3 : (exT (.mk 12 [] 0 noT [] [y])).length = 5 + (exT y).length := by
   show ([108, 101, 110, 40] ++ comB false [exT y] ++ [41]).length = _
   simp [comB]
   omega
  omega
theorem digq_len : ∀ f n : Nat, (digF f n).length ≤ f + 1
 | 0, n => by simp [digF]
 | f + 1, n => by
  have := digq_len f (n / 10)
  unfold digF
  split
  ·simp
  ·simp
   omega
theorem we_prim {E : EP} {n : Nat} (hD : DnE E) (h : WE E n) {m : Nat} {s s1 : Ps} {x : ExT} (hs : Wt s < 100 * n + 100) (e : primP true E m s = (x, s1)) (h1 : s1.e = 0) : (exT x).length + 2 + Wt s1 ≤ Wt s := by
 unfold primP at e
 split at e
 ·rename_i h0
  cases e
  exact absurd h1 h0
 split at e
 ·rename_i hk
  cases e
  have w := wt_next (s := s) (by omega) h1
  have := digq_len 24 ((s.w.int : Int)).toNat
  show (digF 24 ((s.w.int : Int)).toNat).length + 2 + _ ≤ _
  omega
 split at e
 ·exact we_named hD h hs e h1
 split at e
 ·rename_i hk
  refine we_keyed hD h hs ?_ e h1
  intro h0
  unfold keyB at hk
  simp only [is_end h0, h0] at hk
  simp at hk
 split at e
 ·rename_i s2 hg
  split at e
  rename_i y s3 he
  cases e
  have w3 := wt_want h1
  have h3 := live_back (dn_want _ _) h1
  have w1 := wt_got hg (live_back (hD.at he) h3)
  have w2 := h _ _ _ (by omega) he h3
  omega
 ·split at e
  ·split at e
   rename_i t s2 ht
   split at e
   rename_i l s3 hl
   cases e
   have h3 := live_back (dn_listP hD hl) h1
   have w1 := we_typ ht (live_back (dn_want _ _) h3)
   have w2 := wt_want h3
   have w3 := we_listP hD h (by omega) hl h1
   have := lenq_lis t l
   omega
  ·cases e
   exact absurd h1 (fun h => wt_fail (by decide) h)
theorem lenq_fld (t : List UInt8) (x : ExT) : (exT (.mk 9 t 0 noT [] [x])).length ≤ (exT x).length + 3 + t.length := by
 have := parq_len (tigB x) (exT x)
 show (parT (tigB x) (exT x) ++ ([46] ++ t)).length ≤ _
 simp
 omega
theorem lenq_idx (x y : ExT) : (exT (.mk 10 [] 0 noT [] [x, y])).length ≤ (exT x).length + 4 + (exT y).length := by
 have := parq_len (tigB x) (exT x)
 show (parT (tigB x) (exT x) ++ [91] ++ exT y ++ [93]).length ≤ _
 simp
 omega
theorem lenq_cut (x y z : ExT) : (exT (.mk 11 [] 0 noT [] [x, y, z])).length ≤ (exT x).length + 5 + (exT y).length + (exT z).length := by
 have := parq_len (tigB x) (exT x)
 show (parT (tigB x) (exT x) ++ [91] ++ exT y ++ [58] ++ exT z ++ [93]).length ≤ _
 simp
 omega
theorem lenq_bin (t : List UInt8) (x y : ExT) : (exT (.mk 6 t 0 noT [] [x, y])).length ≤ (exT x).length + 6 + t.length + (exT y).length := by
 have h1 := parq_len (lowB x (rankS t)) (exT x)
 have h2 := parq_len (lowB y (rankS t + 1)) (exT y)
 show (parT (lowB x (rankS t)) (exT x) ++ ([32] ++ t ++ [32]) ++ parT (lowB y (rankS t + 1)) (exT y)).length ≤ _
 simp
 omega
theorem lenq_sgn {k : Int} (hk : k = 4 ∨ k = 5) (x : ExT) : (exT (.mk k [] 0 noT [] [x])).length ≤ (exT x).length + 3 := by
 have := parq_len (tigB x) (exT x)
 rcases hk with rfl | rfl
 ·show ([33] ++ parT (tigB x) (exT x)).length ≤ _
  simp
  omega
 ·show ([45] ++ parT (tigB x) (exT x)).length ≤ _
  simp
  omega
theorem we_pst {E : EP} {n : Nat} (hD : DnE E) (h : WE E n) : ∀ (m : Nat) (x y : ExT) (s s1 : Ps), Wt s < 100 * n + 100 → pstL E m x s = (y, s1) → s1.e = 0 → (exT y).length + Wt s1 ≤ (exT x).length + Wt s
 | 0, x, y, s, s1, hs, e, h1 => by cases e; omega
 | m + 1, x, y, s, s1, hs, e, h1 => by
  unfold pstL at e
  split at e
  ·cases e; omega
  split at e
  ·rename_i s2 hg
   split at e
   rename_i t s3 hn
   have h3 := live_back (dn_pst hD m e) h1
   have w1 := wt_got hg (live_back (dn_name hn) h3)
   have w2 := wt_name hn h3
   have ih := we_pst hD h m _ _ _ _ (by omega) e h1
   have := lenq_fld t x
   omega
  ·split at e
   ·cases e; omega
   ·rename_i s2 hg
    split at e
    rename_i u s3 he
    split at e
    ·rename_i s4 hg2
     have h5 := live_back (dn_pst hD m e) h1
     have h4 := live_back (dn_want _ _) h5
     have h3 := live_back (dn_got hg2) h4
     obtain rfl := got_no hg2
     have w1 := wt_got hg (live_back (hD.at he) h3)
     have w2 := h _ _ _ (by omega) he h3
     have w4 := wt_want h5
     have ih := we_pst hD h m _ _ _ _ (by omega) e h1
     have := lenq_idx x u
     omega
    ·rename_i s4 hg2
     split at e
     rename_i v s5 he2
     have h6 := live_back (dn_pst hD m e) h1
     have h5 := live_back (dn_want _ _) h6
     have h4 := live_back (hD.at he2) h5
     have h3 := live_back (dn_got hg2) h4
     have w1 := wt_got hg (live_back (hD.at he) h3)
     have w2 := h _ _ _ (by omega) he h3
     have w4 := wt_got hg2 h4
     have w5 := h _ _ _ (by omega) he2 h5
     have w6 := wt_want h6
     have ih := we_pst hD h m _ _ _ _ (by omega) e h1
     have := lenq_cut x u v
     omega
theorem we_sgn : ∀ (m : Nat) (s s1 : Ps) (l : List Int), sgnL m s = (l, s1) → s1.e = 0 → 3 * l.length + Wt s1 ≤ Wt s
 | 0, s, s1, l, e, h1 => by cases e; simp
 | m + 1, s, s1, l, e, h1 => by
  have nk : ∀ T : List UInt8, isP s T = true → s.w.kind ≠ 0 := fun T h => by have := (is_live h).2.1; omega
  unfold sgnL at e
  split at e
  ·rename_i hi
   split at e
   rename_i l2 s2 hs
   cases e
   have ih := we_sgn m _ _ _ hs h1
   have w := wt_next (nk _ hi) (live_back (dn_sgn m hs) h1)
   rw [List.length_cons]
   omega
  ·split at e
   ·rename_i hi
    split at e
    rename_i l2 s2 hs
    cases e
    have ih := we_sgn m _ _ _ hs h1
    have w := wt_next (nk _ hi) (live_back (dn_sgn m hs) h1)
    rw [List.length_cons]
    omega
   ·cases e; simp
theorem signT_len : ∀ (l : List Int) (x : ExT), (∀ k ∈ l, k = 4 ∨ k = 5) → (exT (signT l x)).length ≤ (exT x).length + 3 * l.length
 | [], x, _ => Nat.le_refl _
 | k :: l, x, hl => by
  have ih := signT_len l x fun k hk => hl k (List.mem_cons_of_mem _ hk)
  have := lenq_sgn (hl k List.mem_cons_self) (signT l x)
  show (exT (.mk k [] 0 noT [] [signT l x])).length ≤ _
  rw [List.length_cons]
  omega
theorem we_oper {E : EP} {n : Nat} (hD : DnE E) (h : WE E n) (m : Nat) : WE (operP true E m) (n + 1) := fun s s1 x hs e h1 => by
 unfold operP at e
 split at e
 rename_i l s2 hg
 split at e
 rename_i y s3 hp
 split at e
 rename_i z s4 hq
 cases e
 have hl := pos_sgn m s
 rw [hg] at hl
 have h3 := live_back (dn_pst hD m hq) h1
 have w1 := we_sgn m _ _ _ hg (live_back (dn_prim hD hp) h3)
 have w2 := we_prim hD h (by omega) hp h3
 have w3 := we_pst hD h m _ _ _ _ (by omega) hq h1
 have := signT_len l z hl
 omega
theorem we_rank {O : EP} {n : Nat} (hD : DnE O) (h : WE O n) (r : Int) : ∀ (m : Nat) (x y : ExT) (s s1 : Ps), Wt s < 100 * n → rankL O r m x s = (y, s1) → s1.e = 0 → (exT y).length + Wt s1 ≤ (exT x).length + Wt s
 | 0, x, y, s, s1, hs, e, h1 => by cases e; omega
 | m + 1, x, y, s, s1, hs, e, h1 => by
  unfold rankL at e
  split at e
  ·rename_i hc
   split at e
   rename_i z s2 he
   have h2 := live_back (dn_rank hD r m e) h1
   have w1 := wt_next (s := s) (by omega) (live_back (hD.at he) h2)
   have w2 := h _ _ _ (by omega) he h2
   have ih := we_rank hD h r m _ _ _ _ (by omega) e h1
   have := lenq_bin s.w.text x z
   omega
  ·cases e; omega
theorem we_climb {O : EP} {n : Nat} (hD : DnE O) (h : WE O n) (m : Nat) : ∀ k : Nat, WE (climbP O m k) n
 | 0 => h
 | k + 1 => fun s s1 x hs e h1 => by
  have ih := we_climb hD h m k
  have dk := dn_climb hD m k
  unfold climbP at e
  split at e
  ·exact h _ _ _ hs e h1
  ·split at e
   rename_i y s2 he
   have w1 := ih _ _ _ hs he (live_back (dn_rank dk _ m e) h1)
   have w2 := we_rank dk ih _ m _ _ _ _ (by omega) e h1
   omega
theorem we_expr : ∀ n : Nat, WE (exprF true n) n
 | 0 => fun _ _ _ h => absurd h (by omega)
 | n + 1 => we_climb (.of fun h => dn_oper (dn_expr true n) h) (we_oper (dn_expr true n) (we_expr n) (n + 1)) (n + 1) 5
theorem we_dot : ∀ (m : Nat) (x y : ExT) (s s1 : Ps), dotL m x s = (y, s1) → s1.e = 0 → (exT y).length + Wt s1 ≤ (exT x).length + Wt s
 | 0, x, y, s, s1, e, h1 => by cases e; omega
 | m + 1, x, y, s, s1, e, h1 => by
  unfold dotL at e
  split at e
  ·rename_i s2 hg
   split at e
   rename_i t s3 hn
   have h3 := live_back (dn_dot m e) h1
   have w1 := wt_got hg (live_back (dn_name hn) h3)
   have w2 := wt_name hn h3
   have ih := we_dot m _ _ _ _ e h1
   have := lenq_fld t x
   omega
  ·rename_i s2 hg
   cases e
   obtain rfl := got_no hg
   omega
theorem we_left (m : Nat) : ∀ (k : Nat) (s s1 : Ps) (l : List ExT), leftL m k s = (l, s1) → s1.e = 0 → exsL l + Wt s1 ≤ Wt s
 | 0, s, s1, l, e, h1 => by
  cases e
  show 0 + Wt s ≤ Wt s
  omega
 | k + 1, s, s1, l, e, h1 => by
  unfold leftL at e
  split at e
  rename_i t s2 hn
  split at e
  rename_i x s3 hd
  have hx := lenq_name t
  split at e
  ·rename_i s4 hg
   cases e
   obtain rfl := got_no hg
   have w1 := wt_name hn (live_back (dn_dot m hd) h1)
   have w2 := we_dot m _ _ _ _ hd h1
   show (exT x).length + 2 + 0 + Wt _ ≤ Wt s
   omega
  ·rename_i s4 hg
   split at e
   rename_i l2 s5 hl
   cases e
   have h4 := live_back (dn_left m k hl) h1
   have h3 := live_back (dn_got hg) h4
   have w1 := wt_name hn (live_back (dn_dot m hd) h3)
   have w2 := we_dot m _ _ _ _ hd h3
   have w3 := wt_got hg h4
   have ih := we_left m k _ _ _ hl h1
   show (exT x).length + 2 + exsL l2 + Wt _ ≤ Wt s
   omega
def WSt (S : SP) (n : Nat) : Prop := ∀ (d : Int) (x : StT), OkS d x → ∀ k : Nat, (k : Int) ≤ d + 1 → ∀ s s1, Wt s < 100 * n → S s = (x, s1) → s1.e = 0 → (stT k x).length + Wt s1 ≤ Wt s
section
variable {S : SP} {n : Nat}
theorem we_stmts (hD : DnE S) (h : WSt S n) {d : Int} {k : Nat} (hk : (k : Int) ≤ d + 1) : ∀ (m : Nat) (s s1 : Ps) (l : List StT), (∀ x ∈ l, OkS d x) → Wt s < 100 * n → stmtsL S m s = (l, s1) → s1.e = 0 → (stTs k l).length + Wt s1 ≤ Wt s
 | 0, s, s1, l, hl, hs, e, h1 => by
  cases e
  simp [stTs]
 | m + 1, s, s1, l, hl, hs, e, h1 => by
  unfold stmtsL at e
  split at e
  ·split at e
   rename_i x s2 he
   split at e
   rename_i l2 s3 hq
   cases e
   have h2 := live_back (dn_stmts hD m hq) h1
   have w1 := h d x (hl x List.mem_cons_self) k hk _ _ hs he h2
   have ih := we_stmts hD h hk m _ _ _ (fun y hy => hl y (List.mem_cons_of_mem _ hy)) (by omega) hq h1
   unfold stTs
   rw [List.length_append]
   omega
  ·cases e
   simp [stTs]
theorem we_block (hD : DnE S) (h : WSt S n) {d : Int} {k : Nat} (hk : (k : Int) ≤ d + 1) {m : Nat} {s s1 : Ps} {l : List StT} (hl : ∀ x ∈ l, OkS d x) (hs : Wt s < 100 * n + 100) (e : blockP S m s = (l, s1)) (h1 : s1.e = 0) : (stTs k l).length + 200 + Wt s1 ≤ Wt s := by
 unfold blockP at e
 split at e
 rename_i l2 s2 hq
 cases e
 have h2 := live_back (dn_want _ _) h1
 have w1 := wt_want (live_back (dn_stmts hD m hq) h2)
 have w2 := we_stmts hD h hk m _ _ _ hl (by omega) hq h2
 have w3 := wt_want h1
 omega
theorem we_else (hD : DnE S) (h : WSt S n) {d : Int} {k : Nat} (hk : (k : Int) ≤ d + 1) {m : Nat} {s s1 : Ps} {l : List StT} (hl : ∀ x ∈ l, OkS d x) (hs : Wt s < 100 * n + 100) (e : elseP S m s = (l, s1)) (h1 : s1.e = 0) : (stTs k l).length + (if l.isEmpty = true then 0 else 200) + Wt s1 ≤ Wt s := by
 unfold elseP at e
 split at e
 ·rename_i s2 hg
  cases e
  obtain rfl := got_no hg
  simp [stTs]
 ·rename_i s2 hg
  have h2 := live_back (dn_stmts hD m e) h1
  have w1 := wt_got hg (live_back (dn_want _ _) h2)
  have w2 := wt_want h2
  have w3 := we_stmts hD h hk m _ _ _ hl (by omega) e h1
  split <;> omega
end
theorem ok_deepS {d : Int} {x : StT} (h : OkS d x) : d ≤ 60 := by cases h <;> assumption
theorem wt_num {s s1 : Ps} {i : Int} (h : numP s = (i, s1)) (h1 : s1.e = 0) : Wt s1 + 100 ≤ Wt s := by
 unfold numP at h
 split at h
 ·rename_i hi
  obtain ⟨_, rfl⟩ := Prod.mk.inj h
  have := wt_next (s := s) (by omega) h1
  omega
 ·obtain ⟨_, rfl⟩ := Prod.mk.inj h
  exact absurd h1 (fun h => wt_fail (by decide) h)
theorem caTs_cons (k : Nat) (i : Int) (b : List StT) (l : List CaT) : caTs k (.mk i b :: l) = tabT k ++ ([99, 97, 115, 101, 32] ++ digF 24 i.toNat ++ [58, 10]) ++ stTs (k + 1) b ++ caTs k l := by rw [caTs]
section
variable {E : EP} {S : SP} {n : Nat}
theorem we_cas (hD : DnE S) (h : WSt S n) {d : Int} (hd : d ≤ 60) {k : Nat} (hk : (k : Int) ≤ d + 1) (q : Nat) : ∀ (m : Nat) (s s1 : Ps) (l : List CaT), (∀ c ∈ l, ∀ x ∈ c.body, OkS (d + 2) x) → Wt s < 100 * n + 100 → casL S q m s = (l, s1) → s1.e = 0 → (caTs k l).length + Wt s1 ≤ Wt s
 | 0, s, s1, l, hl, hs, e, h1 => by
  cases e
  simp [caTs]
 | m + 1, s, s1, l, hl, hs, e, h1 => by
  unfold casL at e
  split at e
  ·rename_i s2 hg
   cases e
   obtain rfl := got_no hg
   simp [caTs]
  ·rename_i s2 hg
   split at e
   rename_i i s3 hn
   split at e
   rename_i b s4 hq
   split at e
   rename_i l2 s5 hc
   cases e
   have h4 := live_back (dn_cas hD q m hc) h1
   have h3 := live_back (dn_stmts hD q hq) h4
   have h2 := live_back (dn_want _ _) h3
   have w1 := wt_got hg (live_back (dn_num hn) h2)
   have w2 := wt_num hn h2
   have w3 := wt_want h3
   have hb : ∀ x ∈ b, OkS (d + 2) x := hl (.mk i b) List.mem_cons_self
   have w4 := we_stmts hD h (d := d + 2) (k := k + 1) (by omega) q _ _ _ hb (by omega) hq h4
   have ih := we_cas hD h hd hk q m _ _ _ (fun c hc => hl c (List.mem_cons_of_mem _ hc)) (by omega) hc h1
   have hdg := digq_len 24 i.toNat
   have hlen : (caTs k (.mk i b :: l2)).length = k + (5 + (digF 24 i.toNat).length + 2) + (stTs (k + 1) b).length + (caTs k l2).length := by
    rw [caTs_cons]
    simp only [tabT, List.length_append, List.length_replicate, List.length_cons, List.length_nil]
   rw [hlen]
   simp only [List.length_cons, List.length_nil] at w1 w3
   omega
theorem hed_len (k : Nat) (key : List UInt8) (x : ExT) : (hedT k key [x]).length = k + key.length + 1 + (exT x).length + 3 := by
 show (tabT k ++ (key ++ [32]) ++ exT x ++ [32, 123, 10]).length = _
 simp [tabT]
 omega
theorem we_head (hW : WE E n) {s s1 : Ps} {x : ExT} (hs : Wt s < 100 * n) (e : headP E s = (x, s1)) (h1 : s1.e = 0) : (exT x).length + 2 + Wt s1 ≤ Wt s := by
 unfold headP at e
 split at e
 rename_i y s2 he
 cases e
 exact hW ⟨s.ws, s.e, s.o, true⟩ s2 x hs he h1
end
section
variable {E : EP} {S : SP} {n : Nat}
theorem we_stmt (hE : DnE E) (hS : DnE S) (hW : WE E (n + 1)) (hT : WSt S n) (m : Nat) : WSt (stmtP E S m) (n + 1) := by
 intro d x hx k hk s s1 hs e h1
 have hd := ok_deepS hx
 unfold stmtP at e
 split at e
 ·rename_i s2 hg
  split at e
  rename_i t s3 hn
  split at e
  rename_i y s4 ht
  cases e
  have h3 := live_back (dn_typ ht) h1
  have w1 := wt_got hg (live_back (dn_name hn) h3)
  have w2 := wt_name hn h3
  have w3 := we_typ ht h1
  have hlen : (stT k (.mk 1 [t] y [] [] [] [] [])).length = k + (4 + t.length + 1) + (typT y).length + 1 := by
   show (tabT k ++ ([118, 97, 114, 32] ++ t ++ [32]) ++ typT y ++ [10]).length = _
   simp [tabT]
   omega
  rw [hlen]
  omega
 split at e
 ·rename_i s2 hg
  split at e
  rename_i y s3 hh
  split at e
  rename_i b s4 hb
  split at e
  ·rename_i s5 hg2
   split at e
   rename_i c s6 hb2
   cases e
   cases hx with
   | iff _ _ _ _ _ _ _ hq hr =>
    have h5 := live_back (dn_block hS hb2) h1
    have h4 := live_back (dn_got hg2) h5
    have h3 := live_back (dn_block hS hb) h4
    have w1 := wt_got hg (live_back (dn_head hE hh) h3)
    have w2 := we_head hW (by omega) hh h3
    have w3 := we_block hS hT (d := d + 1) (k := k + 1) (by omega) hq (by omega) hb h4
    have w4 := wt_got hg2 h5
    have w5 := we_block hS hT (d := d + 1) (k := k + 1) (by omega) hr (by omega) hb2 h1
    have hlen : (stT k (.mk 3 [] noT [] [y] b c [])).length ≤ (hedT k [105, 102] [y]).length + (stTs (k + 1) b).length + (k + 9 + (stTs (k + 1) c).length) + (k + 2) := by
     show (hedT k [105, 102] [y] ++ stTs (k + 1) b ++ (if c.isEmpty = true then [] else tabT k ++ [125, 32, 101, 108, 115, 101, 32, 123, 10] ++ stTs (k + 1) c) ++ (tabT k ++ [125, 10])).length ≤ _
     split <;> (simp [tabT]; omega)
    rw [hed_len] at hlen
    simp only [List.length_cons, List.length_nil] at hlen w1 w4
    omega
  ·rename_i s5 hg2
   cases e
   obtain rfl := got_no hg2
   cases hx with
   | iff _ _ _ _ _ _ _ hq hr =>
    have h3 := live_back (dn_block hS hb) h1
    have w1 := wt_got hg (live_back (dn_head hE hh) h3)
    have w2 := we_head hW (by omega) hh h3
    have w3 := we_block hS hT (d := d + 1) (k := k + 1) (by omega) hq (by omega) hb h1
    have hlen : (stT k (.mk 3 [] noT [] [y] b [] [])).length = (hedT k [105, 102] [y]).length + (stTs (k + 1) b).length + (k + 2) := by
     show (hedT k [105, 102] [y] ++ stTs (k + 1) b ++ [] ++ (tabT k ++ [125, 10])).length = _
     simp [tabT]
     omega
    rw [hed_len] at hlen
    simp only [List.length_cons, List.length_nil] at hlen w1
    omega
 split at e
 ·rename_i s2 hg
  split at e
  rename_i y s3 hh
  split at e
  rename_i b s4 hb
  cases e
  cases hx with
  | fro _ _ _ _ _ _ hq =>
   have h3 := live_back (dn_block hS hb) h1
   have w1 := wt_got hg (live_back (dn_head hE hh) h3)
   have w2 := we_head hW (by omega) hh h3
   have w3 := we_block hS hT (d := d + 1) (k := k + 1) (by omega) hq (by omega) hb h1
   have hlen : (stT k (.mk 4 [] noT [] [y] b [] [])).length = (hedT k [102, 111, 114] [y]).length + (stTs (k + 1) b).length + (k + 2) := by
    show (hedT k [102, 111, 114] [y] ++ stTs (k + 1) b ++ (tabT k ++ [125, 10])).length = _
    simp [tabT]
    omega
   rw [hed_len] at hlen
   simp only [List.length_cons, List.length_nil] at hlen w1
   omega
 split at e
 ·rename_i s2 hg
  split at e
  rename_i y s3 hh
  split at e
  rename_i cs s4 hc
  split at e
  rename_i b s5 hb
  cases e
  cases hx with
  | swi _ _ _ _ _ _ _ hq hi hr =>
   have h5 := live_back (dn_want _ _) h1
   have h4 := live_back (dn_else hS hb) h5
   have h3 := live_back (dn_cas hS m m hc) h4
   have h2 := live_back (dn_want _ _) h3
   have w1 := wt_got hg (live_back (dn_head hE hh) h2)
   have w2 := we_head hW (by omega) hh h2
   have w3 := wt_want h3
   have w4 := we_cas hS hT hd hk m m _ _ _ hr (by omega) hc h4
   have w5 := we_else hS hT (d := d + 1) (k := k + 1) (by omega) hq (by omega) hb h5
   have w6 := wt_want h1
   have hlen : (stT k (.mk 5 [] noT [] [y] [] b cs)).length ≤ (hedT k [115, 119, 105, 116, 99, 104] [y]).length + (caTs k cs).length + ((if b.isEmpty = true then 0 else k + 10) + (stTs (k + 1) b).length) + (k + 2) := by
    show (hedT k [115, 119, 105, 116, 99, 104] [y] ++ caTs k cs ++ (if b.isEmpty = true then [] else tabT k ++ [100, 101, 102, 97, 117, 108, 116, 58, 10] ++ stTs (k + 1) b) ++ (tabT k ++ [125, 10])).length ≤ _
    split <;> (simp [tabT]; omega)
   rw [hed_len] at hlen
   simp only [List.length_cons, List.length_nil] at hlen w1 w3 w6
   split at hlen
   ·rename_i hb0
    rw [if_pos hb0] at w5
    omega
   ·rename_i hb0
    rw [if_neg hb0] at w5
    omega
 split at e
 ·rename_i s2 hg
  split at e
  rename_i l s3 hv
  cases e
  have h2 := live_back (dn_vals hE m hv) h1
  have w1 := wt_got hg h2
  have w2 := we_vals hE hW m _ _ _ (by omega) hv h1
  have hc := comq_len l false
  have hlen : (stT k (.mk 6 [] noT [] l [] [] [])).length = k + 7 + (comB false (exTs l)).length + 1 := by
   show (tabT k ++ ([114, 101, 116, 117, 114, 110, 32] ++ comB false (exTs l) ++ [10])).length = _
   simp [tabT]
   omega
  simp only [List.length_cons, List.length_nil] at w1
  omega
 ·unfold setP at e
  split at e
  rename_i l s2 hl
  split at e
  rename_i r s3 hv
  cases e
  have h3 := live_back (dn_vals hE m hv) h1
  have h2 := live_back (dn_want _ _) h3
  have w1 := we_left m m _ _ _ hl h2
  have w2 := wt_want h3
  have w3 := we_vals hE hW m _ _ _ (by omega) hv h1
  have hc := comq_len l false
  have hc2 := comq_len r false
  have hlen : (stT k (.mk 2 [] noT l r [] [] [])).length = k + (comB false (exTs l)).length + 3 + (comB false (exTs r)).length + 1 := by
   show (tabT k ++ comB false (exTs l) ++ ([32, 61, 32] ++ comB false (exTs r) ++ [10])).length = _
   simp [tabT]
   omega
  simp only [List.length_cons, List.length_nil] at w2
  omega
theorem we_stmtF : ∀ n : Nat, WSt (stmtF true n) n
 | 0 => fun _ _ _ _ _ _ _ h => absurd h (by omega)
 | n + 1 => we_stmt (dn_expr true (n + 1)) (dn_stmtF true n) (we_expr (n + 1)) (we_stmtF n) (n + 1)
end
theorem we_param {m : Nat} {s s1 : Ps} {x : PaT} (e : paramP m s = (x, s1)) (h1 : s1.e = 0) : (paT x).length + 99 + Wt s1 ≤ Wt s := by
 unfold paramP at e
 split at e
 rename_i t s2 hn
 split at e
 rename_i y s3 ht
 cases e
 have w1 := wt_name hn (live_back (dn_typ ht) h1)
 have w2 := we_typ ht h1
 have : (paT ⟨t, y⟩).length = t.length + 1 + (typT y).length := by
  unfold paT
  simp
  omega
 omega
theorem we_fields (k : Nat) : ∀ (m : Nat) (s s1 : Ps) (l : List PaT), fieldL k m s = (l, s1) → s1.e = 0 → (flT l).length + Wt s1 ≤ Wt s
 | 0, s, s1, l, e, h1 => by
  cases e
  simp [flT]
 | m + 1, s, s1, l, e, h1 => by
  unfold fieldL at e
  split at e
  ·split at e
   rename_i x s2 hp
   split at e
   rename_i l2 s3 hl
   cases e
   have w1 := we_param hp (live_back (dn_fields k m hl) h1)
   have ih := we_fields k m _ _ _ hl h1
   unfold flT
   simp only [List.length_append, List.length_cons, List.length_nil]
   omega
  ·cases e
   simp [flT]
theorem we_struct {m : Nat} {s s1 : Ps} {x : SuT} (e : structP m s = (x, s1)) (h1 : s1.e = 0) : (sutT x).length + 200 + Wt s1 ≤ Wt s := by
 unfold structP at e
 split at e
 rename_i t s2 hn
 split at e
 rename_i l s3 hl
 cases e
 have h3 := live_back (dn_want _ _) h1
 have h2 := live_back (dn_fields m m hl) h3
 have h4 := live_back (dn_want _ _) h2
 have w1 := wt_name hn (live_back (dn_want _ _) h4)
 have w2 := wt_want h4
 have w3 := wt_want h2
 have w4 := we_fields m m _ _ _ hl h3
 have w5 := wt_want h1
 have : (sutT ⟨t, l⟩).length = 6 + t.length + 10 + (flT l).length + 2 := by
  unfold sutT
  simp
  omega
 omega
def rowL : List (List UInt8) → Nat
 | [] => 0
 | x :: l => x.length + 2 + rowL l
theorem row_len2 : ∀ (l : List (List UInt8)) (b : Bool), (comB b l).length ≤ rowL l
 | [], b => by simp [comB]
 | x :: l, b => by
  have := row_len2 l true
  unfold comB rowL
  cases b <;> simp <;> omega
theorem we_params (k : Nat) : ∀ (m : Nat) (s s1 : Ps) (l : List PaT), paramL k m s = (l, s1) → s1.e = 0 → rowL (l.map paT) + Wt s1 ≤ Wt s
 | 0, s, s1, l, e, h1 => by
  cases e
  simp [rowL]
 | m + 1, s, s1, l, e, h1 => by
  unfold paramL at e
  split at e
  rename_i x s2 hp
  split at e
  ·rename_i s3 hg
   cases e
   obtain rfl := got_no hg
   have w1 := we_param hp h1
   show (paT x).length + 2 + 0 + Wt _ ≤ _
   omega
  ·rename_i s3 hg
   split at e
   rename_i l2 s4 hl
   cases e
   have h3 := live_back (dn_params k m hl) h1
   have w1 := we_param hp (live_back (dn_got hg) h3)
   have w2 := wt_got hg h3
   have ih := we_params k m _ _ _ hl h1
   show (paT x).length + 2 + rowL (l2.map paT) + Wt _ ≤ _
   omega
section
variable {S : SP} {n : Nat}
theorem bf_pa {x : PaT} (hx : OkPa x) : ∃ w t, tokPa x = w :: t ∧ w.1 ≠ 9 := ⟨_, _, rfl, show ¬ (1 : Nat) = 9 by decide⟩
theorem bf_ty {t : TyT} (ht : OkT t) : ∃ w l, tokT t = w :: l ∧ w.1 ≠ 9 := by
 obtain ⟨w, l, e, h⟩ := fst_type ht
 exact ⟨w, l, e, h.n9⟩
theorem read_func (hS : RdSt S n) {x : FuT} (hx : OkFu x) {m : Nat} {s : Ps} {c : Wd} {tl : List Wd} (b : Bf s ((1, x.name, 0) :: (3, [40], 0) :: (comK false (x.params.map tokPa) ++ (3, [41], 0) :: (3, [40], 0) :: (comK false (x.results.map tokT) ++ (3, [41], 0) :: (3, [123], 0) :: (tokSs x.body ++ (3, [125], 0) :: c :: tl)))) 0 false) (hc : c.1 ≠ 9) (hn : mu s ≤ n) (hm : mu s ≤ m) :
 ∃ s', funcP S m s = (x, s') ∧ Bf s' (c :: tl) 0 false := by
 obtain ⟨_, hpa, hne, hre, hbo⟩ := hx
 have hmu := b.mu
 obtain ⟨s1, e1, b1⟩ := b.name (show ¬ (3 : Nat) = 9 by decide)
 obtain ⟨w2, r2, hw2, h92⟩ := row_first tokPa (fun p hp => bf_pa (hpa p hp)) ((3, [40], 0) :: (comK false (x.results.map tokT) ++ (3, [41], 0) :: (3, [123], 0) :: (tokSs x.body ++ (3, [125], 0) :: c :: tl)))
 rw [hw2] at b1
 obtain ⟨s2, _, e2, b2⟩ := b1.yes h92 (T := [40]) (by decide) (bump_open (by decide) ⟨by omega, by omega⟩)
 rw [← hw2] at b2
 have hmu2 := b2.mu
 simp only [List.length_append, List.length_cons] at hmu hmu2
 -- the parameters
 obtain ⟨s3, e3, b3⟩ : ∃ s3, (if isP s2 [41] = true then ([], s2) else paramL m m s2) = (x.params, s3) ∧ Bf s3 ((3, [41], 0) :: (3, [40], 0) :: (comK false (x.results.map tokT) ++ (3, [41], 0) :: (3, [123], 0) :: (tokSs x.body ++ (3, [125], 0) :: c :: tl))) (0 + 1) false := by
  cases hp : x.params with
  | nil =>
   rw [hp] at b2
   have b2 : Bf s2 ((3, [41], 0) :: (3, [40], 0) :: (comK false (x.results.map tokT) ++ (3, [41], 0) :: (3, [123], 0) :: (tokSs x.body ++ (3, [125], 0) :: c :: tl))) (0 + 1) false := b2
   exact ⟨s2, by rw [if_pos (by rw [b2.is]; decide)], b2⟩
  | cons p ps =>
   rw [hp] at b2 hpa
   have b2' : Bf s2 ((1, p.name, 0) :: (tokT p.type ++ comK true (ps.map tokPa) ++ (3, [41], 0) :: (3, [40], 0) :: (comK false (x.results.map tokT) ++ (3, [41], 0) :: (3, [123], 0) :: (tokSs x.body ++ (3, [125], 0) :: c :: tl)))) (0 + 1) false := b2
   obtain ⟨s3, e3, b3⟩ := read_row tokPa OkPa (paramP m) (paramL m) (param_eq m) m (fun x hx => bf_pa hx) (0 + 1) (fun x hx s c tl b hc hk => read_param hx b hc (by omega) (by omega) hk) (p :: ps) (by simp) hpa m s2 _ b2 (by omega) (by omega)
   refine ⟨s3, ?_, b3⟩
   rw [if_neg (by rw [b2'.is]; show ¬ isW (1, p.name, 0) [41] = true; unfold isW; rw [decide_eq_false (show ¬ (1 : Nat) = 3 by decide), decide_eq_false (show ¬ (1 : Nat) = 4 by decide)]; simp), e3]
 have hmu3 := b3.mu
 obtain ⟨s4, _, e4, b4⟩ := b3.yes (show ¬ (3 : Nat) = 9 by decide) (T := [41]) (by decide) (bump_close (by decide) (by decide) ⟨by omega, by omega⟩)
 obtain ⟨w5, r5, hw5, h95⟩ := row_first tokT (fun p hp => bf_ty (hre p hp)) ((3, [123], 0) :: (tokSs x.body ++ (3, [125], 0) :: c :: tl))
 rw [hw5] at b4
 obtain ⟨s5, _, e5, b5⟩ := b4.yes h95 (T := [40]) (by decide) (bump_open (by decide) ⟨by omega, by omega⟩)
 rw [← hw5] at b5
 have hmu5 := b5.mu
 simp only [List.length_append, List.length_cons] at hmu3 hmu5
 have hmu23 : mu s3 ≤ mu s2 := by omega
 obtain ⟨s6, e6, b6⟩ := read_row tokT OkT (typP m) (typeL m) (type_eq m) m (fun x hx => bf_ty hx) (0 + 1 - 1 + 1) (fun x hx s c tl b hc hk => read_type hx m s c tl _ false b hc (by omega) (by omega) hk) x.results hne hre m s5 _ b5 (by omega) (by omega)
 have hmu6 := b6.mu
 obtain ⟨s7, _, e7, b7⟩ := b6.yes (show ¬ (3 : Nat) = 9 by decide) (T := [41]) (by decide) (bump_close (by decide) (by decide) ⟨by omega, by omega⟩)
 have hmu7 := b7.mu
 simp only [List.length_append, List.length_cons] at hmu6 hmu7
 obtain ⟨s8, e8, b8⟩ := read_block (d := -1) hS (m := m) hbo b7 hc (by omega) (by omega) (by omega) (by omega) (by omega)
 refine ⟨s8, ?_, b8⟩
 unfold funcP
 rw [e1]
 dsimp only
 rw [e2, e3]
 dsimp only
 rw [e4, e5, e6]
 dsimp only
 rw [e7, e8]
theorem decl_struct {x : SuT} (hx : OkSu x) {k m : Nat} {s : Ps} {c : Wd} {tl : List Wd} (b : Bf s (tokSu x ++ c :: tl) 0 false) (hc : c.1 ≠ 9) (hk : mu s ≤ k) (p : PrT) : ∃ s', declL S k (m + 1) s p = declL S k m s' ⟨p.structs ++ [x], p.funcs⟩ ∧ Bf s' (c :: tl) 0 false ∧ mu s' < mu s := by
 have b : Bf s ((4, [116, 121, 112, 101], 0) :: (1, x.name, 0) :: (4, [115, 116, 114, 117, 99, 116], 0) :: (3, [123], 0) :: (tokFl x.fields ++ (3, [125], 0) :: c :: tl)) 0 false := by
  have e : tokSu x ++ c :: tl = (4, [116, 121, 112, 101], 0) :: (1, x.name, 0) :: (4, [115, 116, 114, 117, 99, 116], 0) :: (3, [123], 0) :: (tokFl x.fields ++ (3, [125], 0) :: c :: tl) := by
   show ((4, [116, 121, 112, 101], 0) :: (1, x.name, 0) :: (4, [115, 116, 114, 117, 99, 116], 0) :: (3, [123], 0) :: (tokFl x.fields ++ [(3, [125], 0)])) ++ c :: tl = _
   simp
  rw [← e]
  exact b
 have hmu := b.mu
 obtain ⟨s1, e1, _, b1⟩ := b.yes (show ¬ (1 : Nat) = 9 by decide) (T := [116, 121, 112, 101]) (by decide) (bump_not (by decide) (by decide) _)
 have hmu1 := b1.mu
 simp only [List.length_append, List.length_cons] at hmu hmu1
 obtain ⟨s2, e2, b2⟩ := read_struct hx (m := k) b1 hc (by omega)
 have hmu2 := b2.mu
 simp only [List.length_cons] at hmu2
 refine ⟨s2, ?_, b2, by omega⟩
 conv => lhs; unfold declL
 rw [if_pos ⟨b.at'.e, by rw [b.at'.kind.1]; exact show ¬ (4 : Nat) = 0 by decide⟩, e1]
 dsimp only
 rw [e2]
theorem decl_func (hS : RdSt S n) {x : FuT} (hx : OkFu x) {k m : Nat} {s : Ps} {c : Wd} {tl : List Wd} (b : Bf s (tokFu x ++ c :: tl) 0 false) (hc : c.1 ≠ 9) (hk : mu s ≤ k) (hn : mu s ≤ n) (p : PrT) : ∃ s', declL S k (m + 1) s p = declL S k m s' ⟨p.structs, p.funcs ++ [x]⟩ ∧ Bf s' (c :: tl) 0 false ∧ mu s' < mu s := by
 have b : Bf s ((4, [102, 117, 110, 99], 0) :: (1, x.name, 0) :: (3, [40], 0) :: (comK false (x.params.map tokPa) ++ (3, [41], 0) :: (3, [40], 0) :: (comK false (x.results.map tokT) ++ (3, [41], 0) :: (3, [123], 0) :: (tokSs x.body ++ (3, [125], 0) :: c :: tl)))) 0 false := by
  have e : tokFu x ++ c :: tl = (4, [102, 117, 110, 99], 0) :: (1, x.name, 0) :: (3, [40], 0) :: (comK false (x.params.map tokPa) ++ (3, [41], 0) :: (3, [40], 0) :: (comK false (x.results.map tokT) ++ (3, [41], 0) :: (3, [123], 0) :: (tokSs x.body ++ (3, [125], 0) :: c :: tl))) := by
   unfold tokFu
   simp
  rw [← e]
  exact b
 have hmu := b.mu
 obtain ⟨s1, e1, _, b1⟩ := b.yes (show ¬ (1 : Nat) = 9 by decide) (T := [102, 117, 110, 99]) (by decide) (bump_not (by decide) (by decide) _)
 have hmu1 := b1.mu
 simp only [List.length_append, List.length_cons] at hmu hmu1
 obtain ⟨s2, e2, b2⟩ := read_func hS hx (m := k) b1 hc (by omega) (by omega)
 have hmu2 := b2.mu
 simp only [List.length_cons] at hmu2
 refine ⟨s2, ?_, b2, by omega⟩
 conv => lhs; unfold declL
 rw [if_pos ⟨b.at'.e, by rw [b.at'.kind.1]; exact show ¬ (4 : Nat) = 0 by decide⟩, b.no (T := [116, 121, 112, 101]) (by decide)]
 dsimp only
 rw [e1]
 dsimp only
 rw [e2]
theorem read_funcs (hS : RdSt S n) (k : Nat) (tl : List Wd) (ss : List SuT) : ∀ (l : List FuT), (∀ x ∈ l, OkFu x) → ∀ (m : Nat) (s : Ps) (fs : List FuT), Bf s (tokFus l ++ (0, [], 0) :: tl) 0 false → mu s ≤ m → mu s ≤ k → mu s ≤ n → ∃ s', declL S k m s ⟨ss, fs⟩ = (⟨ss, fs ++ l⟩, s') ∧ Bf s' ((0, [], 0) :: tl) 0 false
 | [], _, m, s, fs, b, hm, hk, hn => by
  have b : Bf s ((0, [], 0) :: tl) 0 false := b
  refine ⟨s, ?_, b⟩
  rw [List.append_nil]
  cases m with
  | zero => rfl
  | succ m =>
   conv => lhs; unfold declL
   rw [if_neg (fun h => h.2 b.at'.kind.1)]
 | x :: l, hl, m, s, fs, b, hm, hk, hn => by
  have b : Bf s (tokFu x ++ (tokFus l ++ (0, [], 0) :: tl)) 0 false := by
   rw [← List.append_assoc]
   exact b
  obtain ⟨w, r, hw, h9⟩ : ∃ w r, tokFus l ++ (0, [], 0) :: tl = w :: r ∧ w.1 ≠ 9 := by
   cases l with
   | nil => exact ⟨_, _, rfl, show ¬ (0 : Nat) = 9 by decide⟩
   | cons y l => exact ⟨_, _, rfl, show ¬ (4 : Nat) = 9 by decide⟩
  rw [hw] at b
  obtain ⟨m, rfl⟩ : ∃ j, m = j + 1 := by
   refine ⟨m - 1, ?_⟩
   have h1 := b.mu
   rw [List.length_append, List.length_cons] at h1
   omega
  obtain ⟨s1, e1, b1, hlt⟩ := decl_func hS (hl x List.mem_cons_self) (k := k) (m := m) b h9 hk hn ⟨ss, fs⟩
  rw [← hw] at b1
  obtain ⟨s2, e2, b2⟩ := read_funcs hS k tl ss l (fun y hy => hl y (List.mem_cons_of_mem _ hy)) m s1 (fs ++ [x]) b1 (by omega) (by omega) (by omega)
  refine ⟨s2, ?_, b2⟩
  rw [e1]
  dsimp only
  rw [e2, List.append_assoc]
  rfl
theorem read_decls (hS : RdSt S n) (k : Nat) (tl : List Wd) (fl : List FuT) (hfl : ∀ x ∈ fl, OkFu x) : ∀ (l : List SuT), (∀ x ∈ l, OkSu x) → ∀ (m : Nat) (s : Ps) (ss : List SuT), Bf s (tokSus l ++ (tokFus fl ++ (0, [], 0) :: tl)) 0 false → mu s ≤ m → mu s ≤ k → mu s ≤ n → ∃ s', declL S k m s ⟨ss, []⟩ = (⟨ss ++ l, fl⟩, s') ∧ Bf s' ((0, [], 0) :: tl) 0 false
 | [], _, m, s, ss, b, hm, hk, hn => by
  have b : Bf s (tokFus fl ++ (0, [], 0) :: tl) 0 false := b
  rw [List.append_nil]
  exact read_funcs hS k tl ss fl hfl m s [] b hm hk hn
 | x :: l, hl, m, s, ss, b, hm, hk, hn => by
  have b : Bf s (tokSu x ++ (tokSus l ++ (tokFus fl ++ (0, [], 0) :: tl))) 0 false := by
   rw [← List.append_assoc]
   exact b
  obtain ⟨w, r, hw, h9⟩ : ∃ w r, tokSus l ++ (tokFus fl ++ (0, [], 0) :: tl) = w :: r ∧ w.1 ≠ 9 := by
   cases l with
   | nil =>
    cases fl with
    | nil => exact ⟨_, _, rfl, show ¬ (0 : Nat) = 9 by decide⟩
    | cons y fl => exact ⟨_, _, rfl, show ¬ (4 : Nat) = 9 by decide⟩
   | cons y l => exact ⟨_, _, rfl, show ¬ (4 : Nat) = 9 by decide⟩
  rw [hw] at b
  obtain ⟨m, rfl⟩ : ∃ j, m = j + 1 := by
   refine ⟨m - 1, ?_⟩
   have h1 := b.mu
   rw [List.length_append, List.length_cons] at h1
   omega
  obtain ⟨s1, e1, b1, hlt⟩ := decl_struct (S := S) (hl x List.mem_cons_self) (k := k) (m := m) b h9 hk ⟨ss, []⟩
  rw [← hw] at b1
  obtain ⟨s2, e2, b2⟩ := read_decls hS k tl fl hfl l (fun y hy => hl y (List.mem_cons_of_mem _ hy)) m s1 (ss ++ [x]) b1 (by omega) (by omega) (by omega)
  refine ⟨s2, ?_, b2⟩
  rw [e1]
  dsimp only
  rw [e2, List.append_assoc]
  rfl
theorem read_prog {p : PrT} (hp : OkPr p) {s : Ps} {tl : List Wd} (b : Bf s (tokPr p ++ (0, [], 0) :: tl) 0 false) (hn : mu s ≤ n) : ∃ s', progP true n s = (p, s') ∧ Bf s' ((0, [], 0) :: tl) 0 false := by
 have b : Bf s ((4, [112, 97, 99, 107, 97, 103, 101], 0) :: (1, [112], 0) :: (tokSus p.structs ++ (tokFus p.funcs ++ (0, [], 0) :: tl))) 0 false := by
  have e : tokPr p ++ (0, [], 0) :: tl = (4, [112, 97, 99, 107, 97, 103, 101], 0) :: (1, [112], 0) :: (tokSus p.structs ++ (tokFus p.funcs ++ (0, [], 0) :: tl)) := by
   unfold tokPr
   simp
  rw [← e]
  exact b
 obtain ⟨w, r, hw, h9⟩ : ∃ w r, tokSus p.structs ++ (tokFus p.funcs ++ (0, [], 0) :: tl) = w :: r ∧ w.1 ≠ 9 := by
  rcases p with ⟨_ | ⟨x, ss⟩, _ | ⟨f, fs⟩⟩
  ·exact ⟨_, _, rfl, show ¬ (0 : Nat) = 9 by decide⟩
  ·exact ⟨_, _, rfl, show ¬ (4 : Nat) = 9 by decide⟩
  ·exact ⟨_, _, rfl, show ¬ (4 : Nat) = 9 by decide⟩
  ·exact ⟨_, _, rfl, show ¬ (4 : Nat) = 9 by decide⟩
 have hmu := b.mu
 obtain ⟨s1, _, e1, b1⟩ := b.yes (show ¬ (1 : Nat) = 9 by decide) (T := [112, 97, 99, 107, 97, 103, 101]) (by decide) (bump_not (by decide) (by decide) _)
 rw [hw] at b1
 obtain ⟨s2, e2, b2⟩ := b1.name h9
 rw [← hw] at b2
 have hmu2 := b2.mu
 simp only [List.length_append, List.length_cons] at hmu hmu2
 obtain ⟨s3, e3, b3⟩ := read_decls (ps_stmt n) n tl p.funcs hp.2 p.structs hp.1 n s2 [] b2 (by omega) (by omega) (by omega)
 refine ⟨s3, ?_, b3⟩
 unfold progP
 rw [e1, e2]
 dsimp only
 rw [e3]
 rfl
end
theorem LxA.cast {s s' : List UInt8} {t t' : List Wd} (h : LxA s t) (e1 : s' = s) (e2 : t' = t) : LxA s' t' := by rw [e1, e2]; exact h
theorem lxk {s : List UInt8} (h : s ∈ keysL) : LxA (s ++ [32]) ([(4, s, 0)] ++ []) := (lx_key h).shut (fun r => rfl) lx_blank
theorem lxn {s : List UInt8} (h : identS s = true) : LxA (s ++ [32]) ([(1, s, 0)] ++ []) := (lx_name h).shut (fun r => rfl) lx_blank
theorem lxs {c : UInt8} (h : c ∈ [(40 : UInt8), 41, 123, 125, 91, 93, 44, 46, 58, 45]) : LxA [c] [(3, [c], 0)] := lx_sign h
theorem lx_set : LxA [61, 32] [(3, [61], 0)] := fun f r => by
 show wordsT (f + 1) (61 :: 32 :: r) = _
 rw [words_eq]
 show _ :: wordsT f ([32] ++ r) = _
 rw [show wordsT f ([32] ++ r) = wordsT f r from lx_blank f r]
 rfl
theorem lx_exprs {d : Int} {l : List ExT} (h : ∀ x ∈ l, OkE d x) : Lx (comT (exTs l)) (comK false (tokEs l)) := by
 rw [exTs_map, tokEs_map]
 exact lx_com _ _ (forall2_map l fun x hx => lx_expr (h x hx)) false
theorem lx_hed {d : Int} {x : ExT} (hx : OkE d x) {k : List UInt8} (hk : k ∈ keysL) (n : Nat) : LxA (hedT n k [x]) ((4, k, 0) :: (tokE x ++ [(3, [123], 0)])) :=
 ((lx_tabs n).app ((lxk hk).app ((lx_expr hx).shut (s2 := [32, 123, 10]) (t2 := [(3, [123], 0)]) (fun r => rfl) (lx_blank.app ((lxs (c := 123) (by decide)).app lx_line))))).cast (by
   show tabT n ++ (k ++ [32]) ++ exT x ++ [32, 123, 10] = _
   simp only [List.append_assoc]) (by simp)
theorem lx_end (n : Nat) : LxA (tabT n ++ [125, 10]) [(3, [125], 0)] := ((lx_tabs n).app ((lxs (c := 125) (by decide)).app lx_line)).cast rfl (by simp)
theorem lx_stmts : ∀ (l : List StT), (∀ y ∈ l, ∀ n, LxA (stT n y) (tokS y)) → ∀ n, LxA (stTs n l) (tokSs l)
 | [], _, n => by
  rw [tokSs_nil]
  unfold stTs
  exact fun f r => rfl
 | x :: l, h, n => by
  rw [tokSs_cons]
  unfold stTs
  exact (h x List.mem_cons_self n).app (lx_stmts l (fun y hy => h y (List.mem_cons_of_mem _ hy)) n)
theorem lx_cases : ∀ (l : List CaT), (∀ c ∈ l, 0 ≤ c.int ∧ c.int ≤ 18446744073709551615) → (∀ c ∈ l, ∀ y ∈ c.body, ∀ n, LxA (stT n y) (tokS y)) → ∀ n, LxA (caTs n l) (tokCs l)
 | [], _, _, n => by
  rw [tokCs_nil]
  unfold caTs
  exact fun f r => rfl
 | .mk i b :: l, hi, h, n => by
  have hi0 : 0 ≤ i ∧ i ≤ 18446744073709551615 := hi _ List.mem_cons_self
  have hb := lx_stmts b (h _ List.mem_cons_self) (n + 1)
  have hl := lx_cases l (fun c hc => hi c (List.mem_cons_of_mem _ hc)) (fun c hc => h c (List.mem_cons_of_mem _ hc)) n
  rw [tokCs_cons]
  unfold caTs
  refine ((lx_tabs n).app ((lxk (s := [99, 97, 115, 101]) (by decide)).app (((lx_num hi0.1 hi0.2).shut (s2 := [58, 10]) (t2 := [(3, [58], 0)]) (fun r => rfl) ((lxs (c := 58) (by decide)).app lx_line)).app (hb.app hl)))).cast ?_ (by simp)
  simp
theorem lx_stmt {d : Int} {x : StT} (hx : OkS d x) : ∀ n, LxA (stT n x) (tokS x) := by
 induction hx with
 | var d t y _ ht hy =>
  intro n
  refine ((lx_tabs n).app ((lxk (s := [118, 97, 114]) (by decide)).app ((lxn ht).app ((lx_type hy).shut (fun r => rfl) lx_line)))).cast ?_ ?_
  ·show tabT n ++ ([118, 97, 114, 32] ++ t ++ [32]) ++ typT y ++ [10] = _
   simp
  ·show (4, [118, 97, 114], 0) :: (1, t, 0) :: tokT y = _
   simp
 | set d ls es _ _ _ _ hls hes =>
  intro n
  refine ((lx_tabs n).app (((lx_exprs hls).shut (s2 := [32]) (t2 := []) (fun r => rfl) lx_blank).app (lx_set.app ((lx_exprs hes).shut (fun r => rfl) lx_line)))).cast ?_ ?_
  ·show tabT n ++ comT (exTs ls) ++ ([32, 61, 32] ++ comT (exTs es) ++ [10]) = _
   simp
  ·rw [tokS_set]
   simp
 | ret d es _ _ hes =>
  intro n
  refine ((lx_tabs n).app ((lxk (s := [114, 101, 116, 117, 114, 110]) (by decide)).app ((lx_exprs hes).shut (fun r => rfl) lx_line))).cast ?_ ?_
  ·show tabT n ++ ([114, 101, 116, 117, 114, 110, 32] ++ comT (exTs es) ++ [10]) = _
   simp
  ·show (4, [114, 101, 116, 117, 114, 110], 0) :: comK false (tokEs es) = _
   simp
 | iff d x b e _ hx _ _ _ ihb ihe =>
  intro n
  have hb := lx_stmts b ihb (n + 1)
  have he := lx_stmts e ihe (n + 1)
  have hh := lx_hed hx (k := [105, 102]) (by decide) n
  cases e with
  | nil =>
   refine (hh.app (hb.app (lx_end n))).cast ?_ ?_
   ·show hedT n [105, 102] [x] ++ stTs (n + 1) b ++ [] ++ (tabT n ++ [125, 10]) = _
    simp
   ·show (4, [105, 102], 0) :: (tokE x ++ (3, [123], 0) :: (tokSs b ++ (3, [125], 0) :: [])) = _
    simp
  | cons y e =>
   have hm : LxA (tabT n ++ ([125] ++ ([32] ++ (([101, 108, 115, 101] ++ [32]) ++ ([123] ++ [10]))))) ([] ++ ([(3, [125], 0)] ++ ([] ++ (([(4, [101, 108, 115, 101], 0)] ++ []) ++ ([(3, [123], 0)] ++ []))))) :=
    (lx_tabs n).app ((lxs (by decide)).app (lx_blank.app ((lxk (s := [101, 108, 115, 101]) (by decide)).app ((lxs (by decide)).app lx_line))))
   refine (hh.app (hb.app (hm.app (he.app (lx_end n))))).cast ?_ ?_
   ·show hedT n [105, 102] [x] ++ stTs (n + 1) b ++ (tabT n ++ [125, 32, 101, 108, 115, 101, 32, 123, 10] ++ stTs (n + 1) (y :: e)) ++ (tabT n ++ [125, 10]) = _
    simp
   ·show (4, [105, 102], 0) :: (tokE x ++ (3, [123], 0) :: (tokSs b ++ (3, [125], 0) :: ((4, [101, 108, 115, 101], 0) :: (3, [123], 0) :: (tokSs (y :: e) ++ [(3, [125], 0)])))) = _
    simp
 | fro d x b _ hx _ _ ihb =>
  intro n
  have hb := lx_stmts b ihb (n + 1)
  have hh := lx_hed hx (k := [102, 111, 114]) (by decide) n
  refine (hh.app (hb.app (lx_end n))).cast ?_ ?_
  ·show hedT n [102, 111, 114] [x] ++ stTs (n + 1) b ++ (tabT n ++ [125, 10]) = _
   simp
  ·show (4, [102, 111, 114], 0) :: (tokE x ++ (3, [123], 0) :: (tokSs b ++ [(3, [125], 0)])) = _
   simp
 | swi d x e cs _ hx _ _ hi _ ihe ihc =>
  intro n
  have hc := lx_cases cs hi ihc n
  have he := lx_stmts e ihe (n + 1)
  have hh := lx_hed hx (k := [115, 119, 105, 116, 99, 104]) (by decide) n
  cases e with
  | nil =>
   refine (hh.app (hc.app (lx_end n))).cast ?_ ?_
   ·show hedT n [115, 119, 105, 116, 99, 104] [x] ++ caTs n cs ++ [] ++ (tabT n ++ [125, 10]) = _
    simp
   ·show (4, [115, 119, 105, 116, 99, 104], 0) :: (tokE x ++ (3, [123], 0) :: (tokCs cs ++ ([] ++ [(3, [125], 0)]))) = _
    simp
  | cons y e =>
   have hm : LxA (tabT n ++ ([100, 101, 102, 97, 117, 108, 116] ++ ([58] ++ [10]))) ([] ++ ([(4, [100, 101, 102, 97, 117, 108, 116], 0)] ++ ([(3, [58], 0)] ++ []))) :=
    (lx_tabs n).app ((lx_key (s := [100, 101, 102, 97, 117, 108, 116]) (by decide)).shut (fun r => rfl) ((lxs (c := 58) (by decide)).app lx_line))
   refine (hh.app (hc.app (hm.app (he.app (lx_end n))))).cast ?_ ?_
   ·show hedT n [115, 119, 105, 116, 99, 104] [x] ++ caTs n cs ++ (tabT n ++ [100, 101, 102, 97, 117, 108, 116, 58, 10] ++ stTs (n + 1) (y :: e)) ++ (tabT n ++ [125, 10]) = _
    simp
   ·show (4, [115, 119, 105, 116, 99, 104], 0) :: (tokE x ++ (3, [123], 0) :: (tokCs cs ++ ((4, [100, 101, 102, 97, 117, 108, 116], 0) :: (3, [58], 0) :: tokSs (y :: e) ++ [(3, [125], 0)]))) = _
    simp
theorem lx_pa {p : PaT} (h : OkPa p) : Lx (paT p) (tokPa p) := by
 have := (lxn h.1).then (lx_type h.2)
 exact this
theorem lx_fl : ∀ (l : List PaT), (∀ p ∈ l, OkPa p) → LxA (flT l) (tokFl l)
 | [], _ => fun f r => rfl
 | p :: l, h => by
  refine ((lx_tabs 1).app (((lx_pa (h p List.mem_cons_self)).shut (s2 := [10]) (t2 := []) (fun r => rfl) lx_line).app (lx_fl l fun q hq => h q (List.mem_cons_of_mem _ hq)))).cast ?_ ?_
  ·show [9] ++ paT p ++ [10] ++ flT l = _
   show _ = [9] ++ _
   simp
  ·show tokPa p ++ tokFl l = _
   simp
theorem lx_su {s : SuT} (h : OkSu s) : LxA (sutT s) (tokSu s) := by
 refine (lx_line.app ((lxk (s := [116, 121, 112, 101]) (by decide)).app ((lxn h.1).app ((lxk (s := [115, 116, 114, 117, 99, 116]) (by decide)).app ((lxs (c := 123) (by decide)).app (lx_line.app ((lx_fl s.fields h.2).app ((lxs (c := 125) (by decide)).app lx_line)))))))).cast ?_ ?_
 ·unfold sutT
  simp
 ·unfold tokSu
  simp
theorem lx_sus : ∀ (l : List SuT), (∀ s ∈ l, OkSu s) → LxA (suTs l) (tokSus l)
 | [], _ => fun f r => rfl
 | s :: l, h => (lx_su (h s List.mem_cons_self)).app (lx_sus l fun t ht => h t (List.mem_cons_of_mem _ ht))
theorem lx_fu {x : FuT} (h : OkFu x) : LxA (fuT x) (tokFu x) := by
 obtain ⟨hn, hpa, _, hre, hbo⟩ := h
 have hp : Lx (comT (x.params.map paT)) (comK false (x.params.map tokPa)) := lx_com _ _ (forall2_map _ fun p hp => lx_pa (hpa p hp)) false
 have hr : Lx (comT (x.results.map typT)) (comK false (x.results.map tokT)) := lx_com _ _ (forall2_map _ fun t ht => lx_type (hre t ht)) false
 have hb := lx_stmts x.body (fun y hy => lx_stmt (hbo y hy)) 1
 refine (lx_line.app ((lxk (s := [102, 117, 110, 99]) (by decide)).app (((lx_name hn).shut (fun r => rfl) (lxs (c := 40) (by decide))).app ((hp.shut (fun r => rfl) (lxs (c := 41) (by decide))).app (lx_blank.app ((lxs (c := 40) (by decide)).app
  ((hr.shut (fun r => rfl) (lxs (c := 41) (by decide))).app (lx_blank.app ((lxs (c := 123) (by decide)).app (lx_line.app (hb.app ((lxs (c := 125) (by decide)).app lx_line)))))))))))).cast ?_ ?_
 ·unfold fuT
  simp
 ·unfold tokFu
  simp
theorem lx_fus : ∀ (l : List FuT), (∀ s ∈ l, OkFu s) → LxA (fuTs l) (tokFus l)
 | [], _ => fun f r => rfl
 | s :: l, h => (lx_fu (h s List.mem_cons_self)).app (lx_fus l fun t ht => h t (List.mem_cons_of_mem _ ht))
theorem lx_pr {p : PrT} (h : OkPr p) : LxA (prT' p) (tokPr p) := by
 refine ((lxk (s := [112, 97, 99, 107, 97, 103, 101]) (by decide)).app (((lx_name (s := [112]) (by decide)).shut (s2 := [10]) (t2 := []) (fun r => rfl) lx_line).app ((lx_sus p.structs h.1).app (lx_fus p.funcs h.2)))).cast ?_ ?_
 ·unfold prT'
  simp
 ·unfold tokPr
  simp
end Go.Proofs.YtfaoamebphckbaaGreatDoor
namespace Go.Proofs.YtfaoamebphckbaaGreatDoor
open Go.RowKit Go.Av Go.Ab
set_option linter.unusedSimpArgs false
theorem start_at {bs : List UInt8} {y : Wd} {l : List Wd} (hw : (wordsAt bs 0).map strip = y :: l) (hy : y.1 ≠ 9) : AtO (startS bs) (y :: l) 0 := by
 by_cases h : (takeS bs 0).2 = 0
 ·have : startS bs = ⟨wordsAt bs 0, 0, 0, false⟩ := by unfold startS; rw [if_pos h]
  rw [this]
  exact ⟨⟨rfl, hw⟩, rfl, rfl⟩
 ·rw [words0, if_neg h] at hw
  exact absurd (congrArg Prod.fst (List.cons.inj hw).1).symm hy
theorem start_pr {p : PrT} (h : OkPr p) : Bf (startS (prT' p)) (tokPr p ++ [(0, [], 0)]) 0 false := by
 have hw : (wordsAt (prT' p) 0).map strip = tokPr p ++ [(0, [], 0)] := by
  have h1 := lx_pr h ((prT' p).length + 1) []
  rw [List.append_nil] at h1
  rw [wordsAt_T (prT' p) ((prT' p).length + 1 + (tokPr p).length) (by omega), h1]
  rfl
 have h4 : ¬ (4 : Nat) = 9 := by decide
 have h2 : AtO (startS (prT' p)) (tokPr p ++ [(0, [], 0)]) 0 := start_at (y := (4, [112, 97, 99, 107, 97, 103, 101], 0)) (l := (1, [112], 0) :: (tokSus p.structs ++ tokFus p.funcs) ++ [(0, [], 0)]) hw h4
 exact ⟨h2.at', h2.o, h2.h⟩
theorem fin_pr {p : PrT} (h : OkPr p) (rg : PrT → Bool) (hr : rg p = true) (n : Nat) (hn : (prT' p).length + 2 ≤ n) : finP rg n (startS (prT' p)) = (p, 0) := by
 have b := start_pr h
 have hmu : mu (startS (prT' p)) ≤ n := by
  have h1 := wordsF_len (prT' p) ((prT' p).length + 1) 0
  have h2 : mu (startS (prT' p)) ≤ (startS (prT' p)).ws.length := by
   unfold mu
   split
   ·exact Nat.le_refl _
   ·exact Nat.zero_le _
  have h3 : (startS (prT' p)).ws.length ≤ (prT' p).length + 2 := by
   unfold startS
   split
   ·exact h1
   ·show 1 ≤ _
    omega
  omega
 obtain ⟨s', e, b'⟩ := read_prog h b hmu
 unfold finP
 rw [e]
 have he : endP s' (rg p) = 0 := by
  unfold endP
  rw [if_pos b'.at'.e, if_pos ⟨b'.at'.kind.1, hr⟩]
 dsimp only
 rw [he, if_pos rfl]
end Go.Proofs.YtfaoamebphckbaaGreatDoor
namespace Go.Proofs.YtfaoamebphckbaaGreatDoor
open Go.RowKit Go.Av
set_option linter.unusedSimpArgs false
set_option linter.unusedVariables false
mutual
def numS : StT → Prop
 | .mk _ _ _ ls es b e cs => numEs ls ∧ numEs es ∧ numSs b ∧ numSs e ∧ numCs cs
def numSs : List StT → Prop
 | [] => True
 | x :: l => numS x ∧ numSs l
def numCs : List CaT → Prop
 | [] => True
 | .mk i b :: l => (0 ≤ i ∧ i ≤ 18446744073709551615) ∧ numSs b ∧ numCs l
end
def numPr (p : PrT) : Prop := ∀ f ∈ p.funcs, numSs f.body
theorem numSs_cons (x : StT) (l : List StT) : numSs (x :: l) = (numS x ∧ numSs l) := by rw [numSs]
theorem numCs_cons (i : Int) (b : List StT) (l : List CaT) : numCs (.mk i b :: l) = ((0 ≤ i ∧ i ≤ 18446744073709551615) ∧ numSs b ∧ numCs l) := by rw [numCs]
theorem numSs_mem : ∀ {l : List StT}, numSs l → ∀ x ∈ l, numS x
 | y :: l, h, x, hx => by
  rw [numSs_cons] at h
  rcases List.mem_cons.1 hx with e | hx
  ·rw [e]; exact h.1
  ·exact numSs_mem h.2 x hx
theorem numCs_mem : ∀ {l : List CaT}, numCs l → ∀ c ∈ l, (0 ≤ c.int ∧ c.int ≤ 18446744073709551615) ∧ numSs c.body
 | .mk i b :: l, h, c, hc => by
  rw [numCs_cons] at h
  rcases List.mem_cons.1 hc with e | hc
  ·rw [e]; exact ⟨h.1, h.2.1⟩
  ·exact numCs_mem h.2.2 c hc
theorem ok_exs40 {l : List ExT} {d p : Int} (h : (exs40 l d p).1 = true) (hn : numEs l) : ∀ x ∈ l, OkE d x := ok_exprs l d p (andS_true (f := fun p => exsS l d p) h).1 hn
theorem part_deep {d p : Int} (h : (partS d p).1 = true) : d ≤ 60 := by
 have h' : partOk d p = true := h
 unfold partOk at h'
 rw [Bool.and_eq_true, decide_eq_true_iff, decide_eq_true_iff] at h'
 exact h'.2
def oneI : List (List UInt8) → Bool
 | [x] => identS x
 | _ => false
def oneC : List ExT → Bool
 | [x] => decide (x.kind = 7)
 | _ => false
def oneH : List ExT → Bool
 | [x] => headS x
 | _ => false
theorem sized_eq (k : Int) (ns : List (List UInt8)) (ty : TyT) (ls es : List ExT) (b e : List StT) (cs : List CaT) : sizedS (.mk k ns ty ls es b e cs) = (if k = 1 then decide (es.length = 0) && oneI ns && decide (ls = []) && decide (b.length = 0) && decide (e.length = 0) && decide (cs.length = 0)
 else if k = 2 then decide (0 < ls.length) && (decide (es.length = ls.length) || oneC es) && ls.all placeS && (decide (ns = []) && zeroS ty) && decide (b.length = 0) && decide (e.length = 0) && decide (cs.length = 0)
 else if k = 3 then (decide (ns = []) && zeroS ty) && decide (ls = []) && oneH es && decide (cs.length = 0)
 else if k = 4 then (decide (ns = []) && zeroS ty) && decide (ls = []) && oneH es && decide (e.length = 0) && decide (cs.length = 0)
 else if k = 5 then (decide (ns = []) && zeroS ty) && decide (ls = []) && oneH es && decide (b.length = 0)
 else if k = 6 then (decide (ns = []) && zeroS ty) && decide (ls = []) && decide (0 < es.length) && decide (b.length = 0) && decide (e.length = 0) && decide (cs.length = 0)
 else false) := rfl
theorem ok_stmt : ∀ (n : Nat) (x : StT) (d p : Int), (stS n x d p).1 = true → numS x → OkS d x
 | 0, _, _, _, h, _ => by cases h
 | n + 1, .mk k ns ty ls es b e cs, d, p, h, hn => by
  obtain ⟨hp, h⟩ := andS_true (f := partS d) h
  obtain ⟨hz, h⟩ := andS_true h
  obtain ⟨ht, h⟩ := andS_true h
  obtain ⟨hc, h⟩ := andS_true h
  obtain ⟨hl, h⟩ := andS_true h
  obtain ⟨hx, h⟩ := andS_true h
  obtain ⟨hb, he⟩ := andS_true h
  have hd := part_deep hp
  unfold numS at hn
  obtain ⟨n1, n2, n3, n4, n5⟩ := hn
  have gl := ok_exs40 hl n1
  have gx := ok_exs40 hx n2
  have gb : ∀ y ∈ b, OkS (d + 1) y := fun y hy => by
   obtain ⟨q, hq⟩ := rowS_mem (f := fun x => stS n x (d + 1)) _ _ hb y hy
   exact ok_stmt n y _ q hq (numSs_mem n3 y hy)
  have ge : ∀ y ∈ e, OkS (d + 1) y := fun y hy => by
   obtain ⟨q, hq⟩ := rowS_mem (f := fun x => stS n x (d + 1)) _ _ he y hy
   exact ok_stmt n y _ q hq (numSs_mem n4 y hy)
  have gc : ∀ c ∈ cs, ∀ y ∈ c.body, OkS (d + 2) y := fun c hcm y hy => by
   obtain ⟨q, hq⟩ := casS_mem _ _ _ hc c hcm y hy
   exact ok_stmt n y _ q hq (numSs_mem (numCs_mem n5 c hcm).2 y hy)
  have hi : ∀ c ∈ cs, 0 ≤ c.int ∧ c.int ≤ 18446744073709551615 := fun c hcm => (numCs_mem n5 c hcm).1
  have hz0 : (sizedS (.mk k ns ty ls es b e cs) && decide (cs.length ≤ 40)) = true := hz
  rw [Bool.and_eq_true] at hz0
  have hz' := hz0.1
  rw [sized_eq] at hz'
  by_cases k1 : k = 1
  ·subst k1
   rw [if_pos rfl] at hz'
   simp only [Bool.and_eq_true, decide_eq_true_eq] at hz'
   obtain ⟨⟨⟨⟨⟨h1, h2⟩, h3⟩, h4⟩, h5⟩, h6⟩ := hz'
   obtain rfl := List.eq_nil_of_length_eq_zero h1
   obtain rfl := h3
   obtain rfl := List.eq_nil_of_length_eq_zero h4
   obtain rfl := List.eq_nil_of_length_eq_zero h5
   obtain rfl := List.eq_nil_of_length_eq_zero h6
   have ht' : OkT ty := by
    rw [if_pos (show (StT.mk 1 ns ty [] [] [] [] []).kind = 1 from rfl)] at ht
    exact ok_type ty _ _ ht
   match ns, h2 with
   | [m], h2 => exact .var d m ty hd h2 ht'
   | [], h2 => cases h2
   | _ :: _ :: _, h2 => cases h2
  rw [if_neg k1] at hz'
  by_cases k2 : k = 2
  ·subst k2
   rw [if_pos rfl] at hz'
   simp only [Bool.and_eq_true, decide_eq_true_eq, List.all_eq_true] at hz'
   obtain ⟨⟨⟨⟨⟨⟨h1, h2⟩, h3⟩, h4, h5⟩, h6⟩, h7⟩, h8⟩ := hz'
   obtain rfl := h4
   obtain rfl := zero_noT h5
   obtain rfl := List.eq_nil_of_length_eq_zero h6
   obtain rfl := List.eq_nil_of_length_eq_zero h7
   obtain rfl := List.eq_nil_of_length_eq_zero h8
   have hls : ls ≠ [] := by rintro rfl; exact absurd h1 (by decide)
   have hes : es ≠ [] := by
    rintro rfl
    rw [Bool.or_eq_true, decide_eq_true_eq] at h2
    rcases h2 with h2 | h2
    ·have h2 : 0 = ls.length := h2
     omega
    ·cases h2
   exact .set d ls es hd hls hes h3 gl gx
  rw [if_neg k2] at hz'
  by_cases k3 : k = 3
  ·subst k3
   rw [if_pos rfl] at hz'
   simp only [Bool.and_eq_true, decide_eq_true_eq] at hz'
   obtain ⟨⟨⟨⟨h1, h2⟩, h3⟩, h4⟩, h5⟩ := hz'
   obtain rfl := h1
   obtain rfl := zero_noT h2
   obtain rfl := h3
   obtain rfl := List.eq_nil_of_length_eq_zero h5
   match es, h4, gx with
   | [x], h4, gx => exact .iff d x b e hd (gx x List.mem_cons_self) h4 gb ge
   | [], h4, _ => cases h4
   | _ :: _ :: _, h4, _ => cases h4
  rw [if_neg k3] at hz'
  by_cases k4 : k = 4
  ·subst k4
   rw [if_pos rfl] at hz'
   simp only [Bool.and_eq_true, decide_eq_true_eq] at hz'
   obtain ⟨⟨⟨⟨⟨h1, h2⟩, h3⟩, h4⟩, h6⟩, h5⟩ := hz'
   obtain rfl := h1
   obtain rfl := zero_noT h2
   obtain rfl := h3
   obtain rfl := List.eq_nil_of_length_eq_zero h5
   obtain rfl := List.eq_nil_of_length_eq_zero h6
   match es, h4, gx with
   | [x], h4, gx => exact .fro d x b hd (gx x List.mem_cons_self) h4 gb
   | [], h4, _ => cases h4
   | _ :: _ :: _, h4, _ => cases h4
  rw [if_neg k4] at hz'
  by_cases k5 : k = 5
  ·subst k5
   rw [if_pos rfl] at hz'
   simp only [Bool.and_eq_true, decide_eq_true_eq] at hz'
   obtain ⟨⟨⟨⟨h1, h2⟩, h3⟩, h4⟩, h5⟩ := hz'
   obtain rfl := h1
   obtain rfl := zero_noT h2
   obtain rfl := h3
   obtain rfl := List.eq_nil_of_length_eq_zero h5
   match es, h4, gx with
   | [x], h4, gx => exact .swi d x e cs hd (gx x List.mem_cons_self) h4 ge hi gc
   | [], h4, _ => cases h4
   | _ :: _ :: _, h4, _ => cases h4
  rw [if_neg k5] at hz'
  by_cases k6 : k = 6
  ·subst k6
   rw [if_pos rfl] at hz'
   simp only [Bool.and_eq_true, decide_eq_true_eq] at hz'
   obtain ⟨⟨⟨⟨⟨⟨h1, h2⟩, h3⟩, h4⟩, h5⟩, h6⟩, h7⟩ := hz'
   obtain rfl := h1
   obtain rfl := zero_noT h2
   obtain rfl := h3
   obtain rfl := List.eq_nil_of_length_eq_zero h5
   obtain rfl := List.eq_nil_of_length_eq_zero h6
   obtain rfl := List.eq_nil_of_length_eq_zero h7
   exact .ret d es hd (by rintro rfl; exact absurd h4 (by decide)) gx
  rw [if_neg k6] at hz'
  cases hz'
theorem ok_pas {most : Nat} {l : List PaT} {p : Int} (h : (paS most l p).1 = true) : ∀ x ∈ l, OkPa x := by
 obtain ⟨h1, h2⟩ := andS_true (f := rowS (fun x : PaT => andS (partS 0) (fun p => tyS identS x.type 0 p)) l) h
 have h2 : (decide (l.length ≤ most) && diffS l.length (l.map PaT.name)) = true := h2
 rw [Bool.and_eq_true] at h2
 have hn := names_ident (l := l.map PaT.name) (by rw [List.length_map]; exact h2.2)
 intro x hx
 obtain ⟨q, hq⟩ := rowS_mem (f := fun x : PaT => andS (partS 0) (fun p => tyS identS x.type 0 p)) _ _ h1 x hx
 obtain ⟨_, hq⟩ := andS_true (f := partS 0) hq
 exact ⟨hn _ (List.mem_map_of_mem hx), ok_type x.type 0 _ hq⟩
theorem ok_prog {n : Nat} {x : PrT} {p : Int} (h : (prS n x p).1 = true) (hn : numPr x) : OkPr x := by
 obtain ⟨h1, h2⟩ := andS_true (f := rowS suS x.structs) h
 refine ⟨fun s hs => ?_, fun f hf => ?_⟩
 ·obtain ⟨q, hq⟩ := rowS_mem (f := suS) _ _ h1 s hs
  obtain ⟨_, hq⟩ := andS_true (f := partS 0) hq
  obtain ⟨h3, hq⟩ := andS_true (f := allowS (identS s.name)) hq
  exact ⟨h3, ok_pas hq⟩
 ·obtain ⟨q, hq⟩ := rowS_mem (f := fuS n) _ _ h2 f hf
  obtain ⟨_, hq⟩ := andS_true (f := partS 0) hq
  obtain ⟨h3, hq⟩ := andS_true (f := allowS (identS f.name)) hq
  obtain ⟨h4, hq⟩ := andS_true (f := paS 20 f.params) hq
  obtain ⟨h5, hq⟩ := andS_true hq
  obtain ⟨h6, h7⟩ := andS_true hq
  have h5 : (decide (1 ≤ f.results.length) && decide (f.results.length ≤ 20)) = true := h5
  rw [Bool.and_eq_true, decide_eq_true_eq, decide_eq_true_eq] at h5
  refine ⟨h3, ok_pas h4, ?_, fun t ht => ?_, fun s hs => ?_⟩
  ·intro e
   rw [e] at h5
   exact absurd h5.1 (by decide)
  ·obtain ⟨q, hq⟩ := rowS_mem (f := fun t p => tyS identS t 0 p) _ _ h6 t ht
   exact ok_type t 0 _ hq
  ·obtain ⟨q, hq⟩ := rowS_mem (f := fun s => stS n s 0) _ _ h7 s hs
   exact ok_stmt n s 0 q hq (numSs_mem (hn f hf) s hs)
def inU (i : Int) : Prop := 0 ≤ i ∧ i ≤ 18446744073709551615
theorem inU0 : inU 0 := ⟨by decide, by decide⟩
theorem inU1 : inU 1 := ⟨by decide, by decide⟩
def WB (s : Ps) : Prop := ∀ w ∈ s.ws, inU (w.int : Int)
theorem WB.dn {s s' : Ps} (h : WB s) (d : Dn s s') : WB s' := fun w hw => h w (d.sub w hw)
theorem WB.w {s : Ps} (h : WB s) : inU (s.w.int : Int) := by
 unfold Ps.w
 cases hs : s.ws with
 | nil => exact inU0
 | cons w l => exact h w (by rw [hs]; exact List.mem_cons_self)
theorem numEs_all : ∀ l : List ExT, numEs l ↔ ∀ x ∈ l, numE x
 | [] => by simp [numEs]
 | x :: l => by
  unfold numEs
  rw [numEs_all l]
  simp
theorem numE_mk (k : Int) (t : List UInt8) (i : Int) (ty : TyT) (ns : List (List UInt8)) (ks : List ExT) : numE (.mk k t i ty ns ks) = (inU i ∧ ∀ x ∈ ks, numE x) := by
 conv => lhs; unfold numE
 rw [numEs_all]
 rfl
theorem num0 {k : Int} {t : List UInt8} {ty : TyT} {ns : List (List UInt8)} {ks : List ExT} (h : ∀ x ∈ ks, numE x) : numE (.mk k t 0 ty ns ks) := by
 rw [numE_mk]
 exact ⟨inU0, h⟩
theorem num_zero : numE zeroE := num0 fun _ h => nomatch h
def NuE (E : EP) : Prop := ∀ s, WB s → numE (E s).1
theorem NuE.at {E : EP} (h : NuE E) {s s1 : Ps} {x : ExT} (hs : WB s) (e : E s = (x, s1)) : numE x := by
 have := h s hs
 rw [e] at this
 exact this
theorem num_list {E : EP} (hD : DnE E) (h : NuE E) (en : List UInt8) (cm : Bool) : ∀ (m : Nat) (s : Ps), WB s → ∀ x ∈ (listL E en cm m s).1, numE x
 | 0, s, _ => by unfold listL; simp
 | m + 1, s, hs => by
  unfold listL
  split
  ·rcases he : E s with ⟨x, s1⟩
   have hx := h.at hs he
   have d1 := hD.at he
   dsimp only
   rcases hg : gotP s1 [44] with ⟨b, s2⟩
   have d2 := dn_got hg
   have w2 := (hs.dn d1).dn d2
   cases b
   ·intro y hy
    rw [List.mem_singleton.1 hy]; exact hx
   ·intro y hy
    rcases List.mem_cons.1 hy with rfl | hy
    ·exact hx
    ·refine num_list hD h en cm m _ ?_ y hy
     split
     ·exact w2.dn (dn_fail _ _)
     ·exact w2
  ·simp
theorem num_listP {E : EP} (hD : DnE E) (h : NuE E) (en : List UInt8) (cm : Bool) (m : Nat) (s : Ps) (hs : WB s) : ∀ x ∈ (listP E en cm m s).1, numE x := num_list hD h en cm m s hs
theorem num_vals {E : EP} (hD : DnE E) (h : NuE E) : ∀ (m : Nat) (s : Ps), WB s → ∀ x ∈ (valsP E m s).1, numE x
 | 0, s, _ => by unfold valsP; simp
 | m + 1, s, hs => by
  unfold valsP
  rcases he : E s with ⟨x, s1⟩
  have hx := h.at hs he
  have d1 := hD.at he
  dsimp only
  rcases hg : gotP s1 [44] with ⟨b, s2⟩
  have w2 := (hs.dn d1).dn (dn_got hg)
  cases b
  ·intro y hy
   rw [List.mem_singleton.1 hy]; exact hx
  ·intro y hy
   rcases List.mem_cons.1 hy with rfl | hy
   ·exact hx
   ·exact num_vals hD h m _ w2 y hy
theorem num_fld {E : EP} (hD : DnE E) (h : NuE E) : ∀ (m : Nat) (s : Ps), WB s → ∀ x ∈ (fldL E m s).1.2, numE x
 | 0, s, _ => by unfold fldL; simp
 | m + 1, s, hs => by
  unfold fldL
  split
  ·rcases hn : nameP s with ⟨t, s0⟩
   have w0 := (hs.dn (dn_name hn)).dn (dn_want s0 [58])
   dsimp only
   rcases he : E (wantP s0 [58]) with ⟨x, s1⟩
   have hx := h.at w0 he
   have d1 := hD.at he
   dsimp only
   rcases hg : gotP s1 [44] with ⟨b, s2⟩
   have w2 := (w0.dn d1).dn (dn_got hg)
   cases b
   ·intro y hy
    rw [List.mem_singleton.1 hy]; exact hx
   ·intro y hy
    rcases List.mem_cons.1 hy with rfl | hy
    ·exact hx
    ·exact num_fld hD h m _ w2 y hy
  ·simp
theorem num_named {E : EP} (hD : DnE E) (h : NuE E) (m : Nat) (s : Ps) (hs : WB s) : numE (namedP true E m s).1 := by
 unfold namedP
 rcases hn : nameP s with ⟨t, s1⟩
 have w1 := hs.dn (dn_name hn)
 dsimp only
 rcases hg : gotP s1 [40] with ⟨b, s2⟩
 have w2 := w1.dn (dn_got hg)
 cases b
 case true => exact num0 (num_listP hD h [41] false m s2 w2)
 dsimp only
 split
 ·rcases hg2 : gotP s1 [123] with ⟨b, s3⟩
  cases b
  ·exact num0 fun _ h => nomatch h
  ·exact num0 (num_fld hD h m s3 (w1.dn (dn_got hg2)))
 ·exact num0 fun _ h => nomatch h
theorem num_keyed {E : EP} (hD : DnE E) (h : NuE E) (s : Ps) (hs : WB s) : numE (keyedP E s).1 := by
 unfold keyedP
 split
 ·rw [numE_mk]; exact ⟨inU1, fun _ h => nomatch h⟩
 split
 ·exact num0 fun _ h => nomatch h
 have w1 := (hs.dn (dn_next s)).dn (dn_want (nextP s) [40])
 rcases he : E (wantP (nextP s) [40]) with ⟨x, s1⟩
 have hx := h.at w1 he
 have w2 := w1.dn (hD.at he)
 have one : ∀ z ∈ [x], numE z := fun z hz => by rw [List.mem_singleton.1 hz]; exact hx
 dsimp only
 split
 ·rcases he2 : E (wantP s1 [44]) with ⟨y, s2⟩
  have hy := h.at (w2.dn (dn_want s1 [44])) he2
  refine num0 fun z hz => ?_
  rcases List.mem_cons.1 hz with rfl | hz
  ·exact hx
  ·rw [List.mem_singleton.1 hz]; exact hy
 split
 ·exact num0 one
 ·exact num0 one
theorem num_prim {E : EP} (hD : DnE E) (h : NuE E) (m : Nat) (s : Ps) (hs : WB s) : numE (primP true E m s).1 := by
 unfold primP
 split
 ·exact num_zero
 split
 ·show numE (.mk 2 [] (s.w.int : Int) noT [] [])
  rw [numE_mk]; exact ⟨hs.w, fun _ h => nomatch h⟩
 split
 ·exact num_named hD h m s hs
 split
 ·exact num_keyed hD h s hs
 rcases hg : gotP s [40] with ⟨b, s1⟩
 cases b
 case true => exact h s1 (hs.dn (dn_got hg))
 dsimp only
 split
 ·rcases ht : typP m s with ⟨t, s1⟩
  exact num0 (num_listP hD h [125] true m _ ((hs.dn (dn_typ ht)).dn (dn_want s1 [123])))
 ·exact num_zero
theorem num_pst {E : EP} (hD : DnE E) (h : NuE E) : ∀ (m : Nat) (x : ExT) (s : Ps), WB s → numE x → numE (pstL E m x s).1
 | 0, x, s, _, hx => hx
 | m + 1, x, s, hs, hx => by
  have ih := num_pst hD h m
  unfold pstL
  split
  ·exact hx
  rcases hg : gotP s [46] with ⟨b, s1⟩
  have w1 := hs.dn (dn_got hg)
  cases b
  case true =>
   dsimp only
   rcases hn : nameP s1 with ⟨t, s2⟩
   exact ih _ _ (w1.dn (dn_name hn)) (num0 (by simp [hx]))
  dsimp only
  rcases hg2 : gotP s [91] with ⟨b, s1⟩
  have w1 := hs.dn (dn_got hg2)
  cases b
  case false => exact hx
  dsimp only
  rcases h2 : E s1 with ⟨y, s2⟩
  have hy := h.at w1 h2
  have w2 := w1.dn (hD.at h2)
  dsimp only
  rcases hg3 : gotP s2 [58] with ⟨b, s3⟩
  have w3 := w2.dn (dn_got hg3)
  cases b
  case false => exact ih _ _ (w3.dn (dn_want _ _)) (num0 (by simp [hx, hy]))
  dsimp only
  rcases h3 : E s3 with ⟨z, s4⟩
  have hz := h.at w3 h3
  exact ih _ _ ((w3.dn (hD.at h3)).dn (dn_want _ _)) (num0 (by simp [hx, hy, hz]))
theorem num_signT : ∀ (l : List Int) (x : ExT), numE x → numE (signT l x)
 | [], x, hx => hx
 | k :: l, x, hx => num0 fun y hy => by
  rw [List.mem_singleton.1 hy]
  exact num_signT l x hx
theorem num_oper {E : EP} (hD : DnE E) (h : NuE E) (m : Nat) : NuE (operP true E m) := fun s hs => by
 unfold operP
 rcases h1 : sgnL m s with ⟨l, s1⟩
 have w1 := hs.dn (dn_sgn m h1)
 dsimp only
 have hx := num_prim hD h m s1 w1
 rcases h2 : primP true E m s1 with ⟨x, s2⟩
 rw [h2] at hx
 exact num_signT l _ (num_pst hD h m x s2 (w1.dn (dn_prim hD h2)) hx)
theorem num_rank {O : EP} (hD : DnE O) (h : NuE O) (r : Int) : ∀ (m : Nat) (x : ExT) (s : Ps), WB s → numE x → numE (rankL O r m x s).1
 | 0, x, s, _, hx => hx
 | m + 1, x, s, hs, hx => by
  unfold rankL
  split
  ·have w1 := hs.dn (dn_next s)
   rcases he : O (nextP s) with ⟨y, s1⟩
   have hy := h.at w1 he
   exact num_rank hD h r m _ s1 (w1.dn (hD.at he)) (num0 (by simp [hx, hy]))
  ·exact hx
theorem num_climb {O : EP} (hD : DnE O) (h : NuE O) (m : Nat) : ∀ k : Nat, NuE (climbP O m k)
 | 0 => h
 | k + 1 => fun s hs => by
  have ih := num_climb hD h m k
  have dk := dn_climb hD m k
  unfold climbP
  split
  ·exact h s hs
  ·rcases he : climbP O m k s with ⟨x, s1⟩
   exact num_rank dk ih _ m x s1 (hs.dn (dk.at he)) (ih.at hs he)
theorem num_expr : ∀ n : Nat, NuE (exprF true n)
 | 0 => fun s _ => num_zero
 | n + 1 => fun s hs => num_climb (.of fun h => dn_oper (dn_expr true n) h) (num_oper (dn_expr true n) (num_expr n) (n + 1)) (n + 1) 5 s hs
end Go.Proofs.YtfaoamebphckbaaGreatDoor
