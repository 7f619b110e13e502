/- Proved: GoprintOne, for any text: no condition. Part 6 of 6 of the proof. -/
import Derived.Test.YtfaoamebphckbaaGreatDoorGoprintOnee
import Derived.OpenShut
import Derived.ChangeArms
import Derived.Test.YtfaoamebphckbaaGreatDoorRows
import Derived.ProofKit
import Derived.ShutString
import Derived.Deep.DeepHandedRow
import Derived.Carry
import Derived.Lib.LaidTab
import Derived.LaidLaws
import Derived.WalkKit
import Derived.Test.YtfaoamebphckbaaGreatDoorCards
import Derived.Test.YtfaoamebphckbaaGreatDoorTie
import Derived.Lay
namespace Go.Proofs.YtfaoamebphckbaaGreatDoor
open Go.RowKit Go.Av
set_option linter.unusedSimpArgs false
set_option linter.unusedVariables false
theorem numSs_all : ∀ l : List StT, numSs l ↔ ∀ x ∈ l, numS x
 | [] => by simp [numSs]
 | x :: l => by
  rw [numSs_cons, numSs_all l]
  simp
theorem numCs_all : ∀ l : List CaT, numCs l ↔ ∀ c ∈ l, inU c.int ∧ ∀ x ∈ c.body, numS x
 | [] => by simp [numCs]
 | .mk i b :: l => by
  rw [numCs_cons, numCs_all l, numSs_all b]
  simp [inU, and_assoc, CaT.int, CaT.body]
theorem numS_mk {k : Int} {ns : List (List UInt8)} {ty : TyT} {ls es : List ExT} {b e : List StT} {cs : List CaT} (h1 : ∀ x ∈ ls, numE x) (h2 : ∀ x ∈ es, numE x) (h3 : ∀ x ∈ b, numS x) (h4 : ∀ x ∈ e, numS x) (h5 : ∀ c ∈ cs, inU c.int ∧ ∀ x ∈ c.body, numS x) : numS (.mk k ns ty ls es b e cs) := by
 unfold numS
 exact ⟨(numEs_all _).2 h1, (numEs_all _).2 h2, (numSs_all _).2 h3, (numSs_all _).2 h4, (numCs_all _).2 h5⟩
def NuS (S : SP) : Prop := ∀ s, WB s → numS (S s).1
theorem num_head {E : EP} (h : NuE E) {s : Ps} (hs : WB s) : numE (headP E s).1 := h ⟨s.ws, s.e, s.o, true⟩ hs
theorem num_dot : ∀ (m : Nat) (x : ExT) (s : Ps), numE x → numE (dotL m x s).1
 | 0, x, s, hx => hx
 | m + 1, x, s, hx => by
  unfold dotL
  rcases gotP s [46] with ⟨b, s1⟩
  cases b
  case false => exact hx
  exact num_dot m _ _ (num0 (by simp [hx]))
theorem num_left (m : Nat) : ∀ (k : Nat) (s : Ps), ∀ x ∈ (leftL m k s).1, numE x
 | 0, s => by unfold leftL; simp
 | k + 1, s => by
  unfold leftL
  rcases nameP s with ⟨t, s1⟩
  have hx := num_dot m (.mk 1 t 0 noT [] []) s1 (num0 fun _ h => nomatch h)
  dsimp only
  rcases hd : dotL m (.mk 1 t 0 noT [] []) s1 with ⟨x, s2⟩
  rw [hd] at hx
  dsimp only at hx ⊢
  rcases gotP s2 [44] with ⟨b, s3⟩
  cases b
  ·intro y hy
   rw [List.mem_singleton.1 hy]; exact hx
  ·intro y hy
   rcases List.mem_cons.1 hy with rfl | hy
   ·exact hx
   ·exact num_left m k s3 y hy
section
variable {E : EP} {S : SP}
theorem num_set (hD : DnE E) (h : NuE E) (m : Nat) (s : Ps) (hs : WB s) : numS (setP E m s).1 := by
 have h1 := num_left m m s
 unfold setP
 rcases h3 : leftL m m s with ⟨l, s1⟩
 rw [h3] at h1
 have w1 := (hs.dn (dn_left m m h3)).dn (dn_want s1 [61])
 exact numS_mk h1 (num_vals hD h m _ w1) (fun _ h => nomatch h) (fun _ h => nomatch h) fun _ h => nomatch h
theorem num_stmts (hD : DnE S) (h : NuS S) : ∀ (m : Nat) (s : Ps), WB s → ∀ x ∈ (stmtsL S m s).1, numS x
 | 0, s, _ => by unfold stmtsL; simp
 | m + 1, s, hs => by
  unfold stmtsL
  split
  ·have hx := h s hs
   rcases he : S s with ⟨x, s1⟩
   rw [he] at hx
   intro y hy
   rcases List.mem_cons.1 hy with rfl | hy
   ·exact hx
   ·exact num_stmts hD h m s1 (hs.dn (hD.at he)) y hy
  ·simp
theorem num_block (hD : DnE S) (h : NuS S) (m : Nat) (s : Ps) (hs : WB s) : ∀ x ∈ (blockP S m s).1, numS x := num_stmts hD h m _ (hs.dn (dn_want s [123]))
theorem num_cas (hD : DnE S) (h : NuS S) (k : Nat) : ∀ (m : Nat) (s : Ps), WB s → ∀ c ∈ (casL S k m s).1, inU c.int ∧ ∀ x ∈ c.body, numS x
 | 0, s, _ => by unfold casL; simp
 | m + 1, s, hs => by
  unfold casL
  rcases hg : gotP s [99, 97, 115, 101] with ⟨b, s1⟩
  have w1 := hs.dn (dn_got hg)
  cases b
  case false => exact fun _ h => nomatch h
  dsimp only
  rcases hn : numP s1 with ⟨i, s2⟩
  have w2 := w1.dn (dn_num hn)
  have hi : inU i := by
   unfold numP at hn
   split at hn
   ·cases hn; exact w1.w
   ·cases hn; exact inU0
  dsimp only
  have hb := num_stmts hD h k _ (w2.dn (dn_want s2 [58]))
  rcases hq : stmtsL S k (wantP s2 [58]) with ⟨q, s3⟩
  rw [hq] at hb
  have w3 := (w2.dn (dn_want s2 [58])).dn (dn_stmts hD k hq)
  intro c hc
  rcases List.mem_cons.1 hc with rfl | hc
  ·exact ⟨hi, hb⟩
  ·exact num_cas hD h k m s3 w3 c hc
theorem num_else (hD : DnE S) (h : NuS S) (m : Nat) (s : Ps) (hs : WB s) : ∀ x ∈ (elseP S m s).1, numS x := by
 unfold elseP
 rcases hg : gotP s [100, 101, 102, 97, 117, 108, 116] with ⟨b, s1⟩
 cases b
 case false => exact fun _ h => nomatch h
 exact num_stmts hD h m _ ((hs.dn (dn_got hg)).dn (dn_want s1 [58]))
theorem num_stmt (hE : DnE E) (hS : DnE S) (hN : NuE E) (hM : NuS S) (m : Nat) : NuS (stmtP E S m) := by
 intro s hs
 have n1 : ∀ x ∈ ([] : List ExT), numE x := fun _ h => nomatch h
 have n2 : ∀ x ∈ ([] : List StT), numS x := fun _ h => nomatch h
 have n3 : ∀ c ∈ ([] : List CaT), inU c.int ∧ ∀ x ∈ c.body, numS x := fun _ h => nomatch h
 have one : ∀ s, WB s → ∀ x ∈ [(headP E s).1], numE x := fun s hs x hx => by rw [List.mem_singleton.1 hx]; exact num_head hN hs
 have whd : ∀ s, WB s → WB (headP E s).2 := fun s hs => hs.dn (dn_head hE (x := (headP E s).1) rfl)
 have wbl : ∀ s, WB s → WB (blockP S m s).2 := fun s hs => hs.dn (dn_block hS (l := (blockP S m s).1) rfl)
 unfold stmtP
 rcases hg : gotP s [118, 97, 114] with ⟨b, s1⟩
 cases b
 case true => exact numS_mk n1 n1 n2 n2 n3
 dsimp only
 rcases hg : gotP s [105, 102] with ⟨b, s1⟩
 have w1 := hs.dn (dn_got hg)
 cases b
 case true =>
  dsimp only
  rcases hg2 : gotP (blockP S m (headP E s1).2).2 [101, 108, 115, 101] with ⟨b, s4⟩
  have w4 := (wbl _ (whd s1 w1)).dn (dn_got hg2)
  cases b
  ·exact numS_mk n1 (one s1 w1) (num_block hS hM m _ (whd s1 w1)) n2 n3
  ·exact numS_mk n1 (one s1 w1) (num_block hS hM m _ (whd s1 w1)) (num_block hS hM m _ w4) n3
 dsimp only
 rcases hg : gotP s [102, 111, 114] with ⟨b, s1⟩
 have w1 := hs.dn (dn_got hg)
 cases b
 case true => exact numS_mk n1 (one s1 w1) (num_block hS hM m _ (whd s1 w1)) n2 n3
 dsimp only
 rcases hg : gotP s [115, 119, 105, 116, 99, 104] with ⟨b, s1⟩
 have w1 := hs.dn (dn_got hg)
 cases b
 case true =>
  have w2 := (whd s1 w1).dn (dn_want (headP E s1).2 [123])
  have w3 := w2.dn (dn_cas hS m m (l := (casL S m m (wantP (headP E s1).2 [123])).1) rfl)
  exact numS_mk n1 (one s1 w1) n2 (num_else hS hM m _ w3) (num_cas hS hM m m _ w2)
 dsimp only
 rcases hg : gotP s [114, 101, 116, 117, 114, 110] with ⟨b, s1⟩
 have w1 := hs.dn (dn_got hg)
 cases b
 case true => exact numS_mk n1 (num_vals hE hN m s1 w1) n2 n2 n3
 exact num_set hE hN m s hs
theorem num_stmtF : ∀ n : Nat, NuS (stmtF true n)
 | 0 => fun s _ => numS_mk (fun _ h => nomatch h) (fun _ h => nomatch h) (fun _ h => nomatch h) (fun _ h => nomatch h) fun _ h => nomatch h
 | n + 1 => fun s hs => num_stmt (dn_expr true (n + 1)) (dn_stmtF true n) (num_expr (n + 1)) (num_stmtF n) (n + 1) s hs
theorem num_func (hD : DnE S) (hM : NuS S) (m : Nat) (s : Ps) (hs : WB s) : numSs (funcP S m s).1.body := by
 refine (numSs_all _).2 ?_
 unfold funcP
 rcases h1 : nameP s with ⟨t, s1⟩
 have w1 := (hs.dn (dn_name h1)).dn (dn_want s1 [40])
 dsimp only
 rcases h2 : (if isP (wantP s1 [40]) [41] = true then ([], wantP s1 [40]) else paramL m m (wantP s1 [40])) with ⟨ps, s2⟩
 have w2 : WB s2 := by
  split at h2
  ·cases h2; exact w1
  ·exact w1.dn (dn_params m m h2)
 dsimp only
 have w3 := (w2.dn (dn_want s2 [41])).dn (dn_want (wantP s2 [41]) [40])
 rcases h3 : typeL m m (wantP (wantP s2 [41]) [40]) with ⟨rs, s3⟩
 have w4 := (w3.dn (dn_types m m h3)).dn (dn_want s3 [41])
 exact num_block hD hM m _ w4
theorem num_decl (hD : DnE S) (hM : NuS S) (k : Nat) : ∀ (m : Nat) (s : Ps) (p : PrT), WB s → numPr p → numPr (declL S k m s p).1
 | 0, s, p, _, h => h
 | m + 1, s, p, hs, h => by
  unfold declL
  split
  case isFalse => exact h
  rcases hg : gotP s [116, 121, 112, 101] with ⟨b, s1⟩
  have w1 := hs.dn (dn_got hg)
  cases b
  case true =>
   dsimp only
   rcases hx : structP k s1 with ⟨x, s2⟩
   exact num_decl hD hM k m _ _ (w1.dn (dn_struct hx)) h
  dsimp only
  rcases hg : gotP s [102, 117, 110, 99] with ⟨b, s1⟩
  have w1 := hs.dn (dn_got hg)
  cases b
  case true =>
   dsimp only
   have hf := num_func hD hM k s1 w1
   rcases hx : funcP S k s1 with ⟨x, s2⟩
   rw [hx] at hf
   refine num_decl hD hM k m _ _ (w1.dn (dn_func hD hx)) fun f hm => ?_
   rcases List.mem_append.1 hm with hm | hm
   ·exact h f hm
   ·rw [List.mem_singleton.1 hm]
    exact hf
  exact num_decl hD hM k m _ _ (hs.dn (dn_fail s 51)) h
end
theorem num_prog (n : Nat) (s : Ps) (hs : WB s) : numPr (progP true n s).1 := by
 unfold progP
 rcases h1 : nameP (wantP s [112, 97, 99, 107, 97, 103, 101]) with ⟨t, s1⟩
 exact num_decl (dn_stmtF true n) (num_stmtF n) n n s1 _ ((hs.dn (dn_want s _)).dn (dn_name h1)) fun _ h => nomatch h
theorem wl_int {l : List UInt8} {x : Wd} (h : wl l = some x) : x.2.2 ≤ maxU := by
 unfold wl at h
 split at h
 ·obtain rfl := Option.some.inj h
  exact Nat.zero_le _
 ·split at h
  ·obtain rfl := Option.some.inj h
   exact Nat.zero_le _
  ·split at h
   ·split at h
    ·rename_i hok
     obtain rfl := Option.some.inj h
     unfold okD at hok
     simp only [Bool.and_eq_true, decide_eq_true_eq] at hok
     exact hok.1.1
    ·cases h
   ·split at h
    ·obtain rfl := Option.some.inj h
     exact Nat.zero_le _
    ·cases h
theorem wordsT_int : ∀ (f : Nat) (l : List UInt8), ∀ x ∈ wordsT f l, x.2.2 ≤ maxU
 | 0, l => by
  unfold wordsT
  intro x hx
  rw [List.mem_singleton.1 hx]
  exact Nat.zero_le _
 | f + 1, l => by
  unfold wordsT
  split
  ·intro x hx
   rw [List.mem_singleton.1 hx]
   exact Nat.zero_le _
  ·rename_i y hy
   split
   ·intro x hx
    rw [List.mem_singleton.1 hx]
    exact Nat.zero_le _
   ·intro x hx
    rcases List.mem_cons.1 hx with rfl | hx
    ·exact wl_int hy
    ·exact wordsT_int f _ x hx
theorem wordsAt_int (bs : List UInt8) : ∀ w ∈ wordsAt bs 0, inU (w.int : Int) := fun w hw => by
 have h := wordsT_int (bs.length + 1) bs (strip w) (by rw [← wordsAt_T bs (bs.length + 1) (by omega)]; exact List.mem_map_of_mem hw)
 have h : w.int ≤ maxU := h
 unfold maxU at h
 exact ⟨by omega, by omega⟩
end Go.Proofs.YtfaoamebphckbaaGreatDoor
namespace Go.Proofs.YtfaoamebphckbaaGreatDoor
open Go.RowKit Go.Av Go.Ab
set_option linter.unusedSimpArgs false
theorem wb_start (bs : List UInt8) : WB (startS bs) := by
 unfold startS
 split
 ·exact wordsAt_int bs
 ·intro w hw
  rw [List.mem_singleton.1 hw]
  exact inU0
theorem parsed_ok {rg : PrT → Bool} (hrg : ∀ p, rg p = true → ∃ k, (prS k p 0).1 = true) {n : Nat} {bs : List UInt8} (h : (finP rg n (startS bs)).2 = 0) :
 ∃ p, finP rg n (startS bs) = (p, 0) ∧ OkPr p ∧ rg p = true ∧ ∀ n', (prT' p).length + 2 ≤ n' → finP rg n' (startS (prT' p)) = (p, 0) := by
 have hnum := num_prog n (startS bs) (wb_start bs)
 unfold finP at h
 by_cases he : endP (progP true n (startS bs)).2 (rg (progP true n (startS bs)).1) = 0
 ·have hr : rg (progP true n (startS bs)).1 = true := by
   unfold endP at he
   by_cases h1 : (progP true n (startS bs)).2.e = 0
   ·rw [if_pos h1] at he
    by_cases h2 : (progP true n (startS bs)).2.w.kind = 0 ∧ rg (progP true n (startS bs)).1 = true
    ·exact h2.2
    ·rw [if_neg h2] at he
     exact absurd he (by decide)
   ·rw [if_neg h1] at he
    exact absurd he h1
  obtain ⟨k, hk⟩ := hrg _ hr
  have ho := ok_prog hk hnum
  refine ⟨(progP true n (startS bs)).1, ?_, ho, hr, fun n' hn' => fin_pr ho rg hr n' hn'⟩
  unfold finP
  rw [if_pos he]
 ·rw [if_neg he] at h
  exact absurd h he
end Go.Proofs.YtfaoamebphckbaaGreatDoor
namespace Go.Proofs.YtfaoamebphckbaaGreatDoor
open Go.RowKit Go.Av
theorem dn_decl {S : SP} (hS : DnE S) (k : Nat) : ∀ (m : Nat) {s s1 : Ps} {p q : PrT}, declL S k m s p = (q, s1) → Dn s s1
 | 0, s, s1, p, q, h => by cases h; exact .refl _
 | m + 1, s, s1, p, q, h => by
  unfold declL at h
  split at h
  ·split at h
   ·rename_i hg
    split at h
    rename_i hs
    exact (dn_got hg).trans ((dn_struct hs).trans (dn_decl hS k m h))
   ·split at h
    ·rename_i hg
     split at h
     rename_i hs
     exact (dn_got hg).trans ((dn_func hS hs).trans (dn_decl hS k m h))
    ·exact (dn_fail _ _).trans (dn_decl hS k m h)
  ·cases h; exact .refl _
set_option linter.unusedSimpArgs false
set_option linter.unusedVariables false
theorem we_types (k : Nat) : ∀ (m : Nat) (s s1 : Ps) (l : List TyT), typeL k m s = (l, s1) → s1.e = 0 → rowL (l.map typT) + Wt s1 ≤ Wt s + 2
 | 0, s, s1, l, e, h1 => by
  cases e
  simp [rowL]
 | m + 1, s, s1, l, e, h1 => by
  unfold typeL at e
  split at e
  rename_i x s2 hp
  split at e
  ·rename_i s3 hg
   cases e
   obtain rfl := got_no hg
   have w1 := we_typ hp h1
   show (typT x).length + 2 + 0 + Wt _ ≤ _
   omega
  ·rename_i s3 hg
   split at e
   rename_i l2 s4 hl
   cases e
   have h3 := live_back (dn_types k m hl) h1
   have w1 := we_typ hp (live_back (dn_got hg) h3)
   have w2 := wt_got hg h3
   have ih := we_types k m _ _ _ hl h1
   show (typT x).length + 2 + rowL (l2.map typT) + Wt _ ≤ _
   omega
section
variable {S : SP} {n : Nat}
theorem we_func (hD : DnE S) (h : WSt S n) {m : Nat} {s s1 : Ps} {x : FuT} (hx : OkFu x) (hs : Wt s < 100 * n + 100) (e : funcP S m s = (x, s1)) (h1 : s1.e = 0) : (fuT x).length + 200 + Wt s1 ≤ Wt s := by
 unfold funcP at e
 split at e
 rename_i t s2 hn
 split at e
 rename_i ps s3 hps
 split at e
 rename_i rs s4 hrs
 split at e
 rename_i b s5 hb
 cases e
 have h4 := live_back (dn_block hD hb) h1
 have h5 := live_back (dn_want _ _) h4
 have h6 := live_back (dn_types m m hrs) h5
 have h7 := live_back (dn_want _ _) h6
 have h8 := live_back (dn_want _ _) h7
 have w2 := wt_want h4
 have w3 := we_types m m _ _ _ hrs h5
 have w4 := wt_want h6
 have w5 := wt_want h7
 have w6 : rowL (ps.map paT) + Wt s3 + 100 ≤ Wt s2 ∧ s2.e = 0 := by
  split at hps
  ·cases hps
   have w := wt_want h8
   simp only [List.length_cons, List.length_nil] at w
   exact ⟨by simp [rowL]; omega, live_back (dn_want _ _) h8⟩
  ·have h9 := live_back (dn_params m m hps) h8
   have w := wt_want h9
   have w' := we_params m m _ _ _ hps h8
   simp only [List.length_cons, List.length_nil] at w
   exact ⟨by omega, live_back (dn_want _ _) h9⟩
 have w7 := wt_name hn w6.2
 have w1 := we_block hD h (d := 0) (k := 1) (l := b) (by omega) hx.2.2.2.2 (by omega) hb h1
 have r1 := row_len2 (ps.map paT) false
 have r2 := row_len2 (rs.map typT) false
 have hlen : (fuT ⟨t, ps, rs, b⟩).length = 6 + t.length + 1 + (comB false (ps.map paT)).length + 1 + (2 + (comB false (rs.map typT)).length + 4) + (stTs 1 b).length + 2 := by
  unfold fuT comT
  simp
  omega
 simp only [List.length_cons, List.length_nil] at w2 w4 w5
 omega
theorem suTs_snoc : ∀ (l : List SuT) (x : SuT), (suTs (l ++ [x])).length = (suTs l).length + (sutT x).length
 | [], x => by simp [suTs]
 | y :: l, x => by
  have := suTs_snoc l x
  simp only [List.cons_append, suTs, List.length_append, this]
  omega
theorem fuTs_snoc : ∀ (l : List FuT) (x : FuT), (fuTs (l ++ [x])).length = (fuTs l).length + (fuT x).length
 | [], x => by simp [fuTs]
 | y :: l, x => by
  have := fuTs_snoc l x
  simp only [List.cons_append, fuTs, List.length_append, this]
  omega
theorem decl_in (k : Nat) : ∀ (m : Nat) (s s1 : Ps) (p q : PrT), declL S k m s p = (q, s1) → ∀ f ∈ p.funcs, f ∈ q.funcs
 | 0, s, s1, p, q, e, f, hf => by
  cases e
  exact hf
 | m + 1, s, s1, p, q, e, f, hf => by
  unfold declL at e
  split at e
  ·split at e
   ·split at e
    exact decl_in k m _ _ _ _ e f hf
   ·split at e
    ·split at e
     exact decl_in k m _ _ _ _ e f (List.mem_append_left _ hf)
    ·exact decl_in k m _ _ _ _ e f hf
  ·cases e
   exact hf
theorem we_decl (hD : DnE S) (h : WSt S n) (k : Nat) : ∀ (m : Nat) (s s1 : Ps) (p q : PrT), OkPr q → Wt s < 100 * n + 100 → declL S k m s p = (q, s1) → s1.e = 0 → (prT' q).length + Wt s1 ≤ (prT' p).length + Wt s
 | 0, s, s1, p, q, hq, hs, e, h1 => by
  cases e
  exact Nat.le_refl _
 | m + 1, s, s1, p, q, hq, hs, e, h1 => by
  unfold declL at e
  split at e
  ·split at e
   ·rename_i s2 hg
    split at e
    rename_i x s3 hx
    have h3 := live_back (dn_decl hD k m e) h1
    have w1 := wt_got hg (live_back (dn_struct hx) h3)
    have w2 := we_struct hx h3
    have ih := we_decl hD h k m _ _ _ _ hq (by omega) e h1
    have : (prT' ⟨p.structs ++ [x], p.funcs⟩).length = (prT' p).length + (sutT x).length := by
     unfold prT'
     simp only [List.length_append, suTs_snoc]
     omega
    omega
   ·split at e
    ·rename_i s2 hg
     split at e
     rename_i x s3 hx
     have h3 := live_back (dn_decl hD k m e) h1
     have w1 := wt_got hg (live_back (dn_func hD hx) h3)
     have hin := decl_in k m _ _ _ _ e x (List.mem_append_right _ List.mem_cons_self)
     have w2 := we_func hD h (hq.2 x hin) (by omega) hx h3
     have ih := we_decl hD h k m _ _ _ _ hq (by omega) e h1
     have : (prT' ⟨p.structs, p.funcs ++ [x]⟩).length = (prT' p).length + (fuT x).length := by
      unfold prT'
      simp only [List.length_append, fuTs_snoc]
      omega
     omega
    ·exact (wt_fail (e := 51) (by decide) (live_back (dn_decl hD k m e) h1)).elim
  ·cases e
   exact Nat.le_refl _
end
theorem we_prog (n : Nat) (s s1 : Ps) (q : PrT) (hq : OkPr q) (hs : Wt s < 100 * n + 100) (e : progP true n s = (q, s1)) (h1 : s1.e = 0) : (prT' q).length + Wt s1 ≤ Wt s := by
 unfold progP at e
 split at e
 rename_i t s2 hn
 have h2 := live_back (dn_decl (dn_stmtF true n) n n e) h1
 have h3 := live_back (dn_name hn) h2
 have w1 := wt_name hn h2
 have w2 := wt_want h3
 simp only [List.length_cons, List.length_nil] at w2
 have w3 := we_decl (dn_stmtF true n) (we_stmtF n) n n _ _ _ _ hq (by omega) e h1
 have : (prT' ⟨[], []⟩).length = 10 := rfl
 omega
def wdsL : List Wd → Nat
 | [] => 0
 | x :: l => 100 + x.2.1.length + wdsL l
theorem wtL_strip : ∀ l : List WordS, wtL l = wdsL (l.map strip)
 | [] => rfl
 | w :: l => by
  rw [wtL, wtL_strip l]
  rfl
theorem wl_some {l : List UInt8} {x : Wd} (h : wl l = some x) (hx : x.1 ≠ 0) : x.2.1 ≠ [] := by
 unfold wl at h
 split at h
 ·obtain rfl := Option.some.inj h
  exact absurd rfl hx
 ·rename_i hl
  obtain ⟨c, l, rfl⟩ := List.exists_cons_of_ne_nil hl
  split at h
  ·rename_i hc
   obtain rfl := Option.some.inj h
   have hc : letterB c = true := hc
   have : wordB c = true := by simp [wordB, hc]
   simp [List.takeWhile_cons, this]
  ·split at h
   ·rename_i hc
    split at h
    ·obtain rfl := Option.some.inj h
     have hc : digitB c = true := hc
     simp [List.takeWhile_cons, hc]
    ·cases h
   ·split at h
    ·rename_i s hs
     obtain rfl := Option.some.inj h
     have hm : s ∈ signsL := List.mem_of_find?_eq_some (show signsL.find? (fun s => hasPre (c :: l) s) = some s from hs)
     rintro rfl
     exact absurd hm (by decide)
    ·cases h
theorem words_wt : ∀ (f : Nat) (l : List UInt8), wdsL (wordsT f l) ≤ 101 * l.length + 100
 | 0, l => by
  show 100 + 0 + 0 ≤ _
  omega
 | f + 1, l => by
  unfold wordsT
  split
  ·show 100 + 0 + 0 ≤ _
   omega
  ·rename_i x hw
   split
   ·show 100 + 0 + 0 ≤ _
    omega
   ·rename_i hx
    have h1 := List.length_pos_iff.2 (wl_some hw hx)
    have h2 := (wl_prefix hw).length_le
    have h3 := skip_le false l
    have ih := words_wt f ((skipM false l).drop x.2.1.length)
    rw [List.length_drop] at ih
    show 100 + x.2.1.length + wdsL _ ≤ _
    omega
theorem start_wt (bs : List UInt8) : Wt (startS bs) ≤ 101 * bs.length + 100 := by
 unfold startS
 split
 ·show wtL (wordsAt bs 0) ≤ _
  rw [wtL_strip, wordsAt_T bs (bs.length + 1) (by omega)]
  exact words_wt _ _
 ·show 100 + 0 + 0 ≤ _
  omega
theorem fin_len {rg : PrT → Bool} {n : Nat} {bs : List UInt8} {p : PrT} (h : finP rg n (startS bs) = (p, 0)) (hp : OkPr p) (hn : 2 * bs.length + 5 ≤ n) : (prT' p).length ≤ 101 * bs.length + 100 := by
 have hw := start_wt bs
 unfold finP at h
 by_cases he : endP (progP true n (startS bs)).2 (rg (progP true n (startS bs)).1) = 0
 ·rw [if_pos he] at h
  have h1 : (progP true n (startS bs)).1 = p := (Prod.mk.inj h).1
  have h2 : (progP true n (startS bs)).2.e = 0 := by
   unfold endP at he
   by_cases h1 : (progP true n (startS bs)).2.e = 0
   ·exact h1
   ·rw [if_neg h1] at he
    exact absurd he h1
  have := we_prog n (startS bs) _ p hp (by omega) (by rw [← h1]) h2
  omega
 ·rw [if_neg he] at h
  exact absurd (Prod.mk.inj h).2 he
end Go.Proofs.YtfaoamebphckbaaGreatDoor
namespace Go.Proofs.YtfaoamebphckbaaGreatDoor
open Go.RowKit Go.Av Go.Ab
set_option linter.unusedSimpArgs false
set_option maxRecDepth 100000
set_option linter.defProp false
def c35 := by
 have c := KK_of Tryz.f35 (by conv => lhs; cbv)
 dsimp only [KK, KxP, doO, opO, List.map_cons, List.map_nil, List.toList_toArray] at c
 exact c
theorem b35 : FnIs Tryz.prog 35 Tryz.f35 32 := ⟨Tryz.func35, by kernel_rfl⟩
set_option maxHeartbeats 1000000 in
theorem equalFunc_Type (g : FuncId) (first caps : List V) (e : TyT → TyT → Bool) (a b : List TyT) (B : List (List V)) (T : List (Nat × Nat)) (hg : ∀ x ∈ a, ∀ y ∈ b, ∀ J, AFn Tryz.prog TabI g (first ++ [tyV x, tyV y] ++ caps) ⟨B ++ J, T⟩ (Same (.d (.bool (e x y))) ⟨B ++ J, T⟩)) :
 AFn Tryz.prog TabI 35 [.d (.sl (a.map tyD)), .d (.sl (b.map tyD)), .func g first caps] ⟨B, T⟩ (Same (.d (.bool (eqF e a b))) ⟨B, T⟩) := by
 obtain ⟨N, hn⟩ : ∃ N, B.length = N := ⟨_, rfl⟩
 refine b35.go 8 rfl fun hsm => ?_
 simp only [smw] at hsm
 simp only [W, seval, c35, hn]
 refine ARun.fitE fun hfe => ?_
 have hfe2 := hfe 2
 simp only [envS_get, lk_cons, lk_nil, Nat.reduceBEq, Nat.reduceAdd, Nat.reduceSub, cond_true, cond_false, hn] at hfe2
 clear hfe
 by_cases hl : a.length = b.length
 case neg =>
  have hl' : decide ((a.length : Int) = (b.length : Int)) = false := decide_eq_false (by omega)
  refine ARun.go 200 ?_
  simp only [W, seval, c35, hl', hn]
  refine ARun.ret Tryz.func35 rfl (Left.none ?_)
  rw [eqF_len e a b hl]
  exact ⟨rfl, rfl⟩
 have hl' : decide ((a.length : Int) = (b.length : Int)) = true := decide_eq_true (by omega)
 refine ARun.go 30 ?_
 simp only [W, seval, c35, hl', hn]
 refine ARun.fits fun hf => ?_
 refine ARun.loopB (fun i : Nat => (envS 32 [(1, .d (.sl (b.map tyD))), (2, .func g first caps), (15, .d (.sl (a.map tyD))), (16, .d (.int .i64 a.length)), (17, .d (.int .i64 i))], ⟨B, T⟩)) (fun i => i ≤ a.length ∧ eqF e a b = eqF e (a.drop i) (b.drop i)) (fun i => a.length - i) 0 ⟨by omega, rfl⟩ ?_ rfl ?_
 ·skip
  refine Agree.env _ ?_
  simp only [agw, seval, hn]
 rintro i ⟨h1, h2⟩ ih
 dsimp only at h1 h2 ih ⊢
 by_cases hlt : i < a.length
 ·have hw := wrap_in ((i : Int) + 1) (by omega)
  have hltb : i < b.length := by omega
  have hga := List.getElem?_eq_getElem hlt
  have hgb := List.getElem?_eq_getElem hltb
  have hlt' : decide ((i : Int) < (a.length : Int)) = true := decide_eq_true (by omega)
  rw [eqF_step e a b i hlt hltb] at h2
  have hgx := hg a[i] (List.getElem_mem hlt) b[i] (List.getElem_mem hltb)
  obtain ⟨x, hx⟩ : ∃ x, a[i] = x := ⟨_, rfl⟩
  obtain ⟨y, hy⟩ : ∃ y, b[i] = y := ⟨_, rfl⟩
  rw [hx] at hga h2 hgx
  rw [hy] at hgb h2 hgx
  refine ARun.go 200 ?_
  simp only [W, seval, c35, hn, List.getElem?_map, hga, hgb, hlt', tyD_eq]
  refine callS_of (hgx _) ?_
  rintro _ _ ⟨rfl, rfl⟩
  refine ARun.go 200 ?_
  simp only [W, seval, c35, hn]
  cases he : e x y
  ·simp only [W, seval, c35, hn, he]
   refine ARun.ret Tryz.func35 rfl (Left.box ?_)
   rw [h2, he]
   exact ⟨rfl, rfl⟩
  ·simp only [W, seval, c35, hn, he, hw]
   rw [he, Bool.true_and] at h2
   refine ih (i + 1) ⟨hlt, h2⟩ (by omega) _ _ _ _ rfl ⟨by omega, Nat.le_refl _⟩ hf ?_
   refine AgreeF.env _ ?_
   simp only [agf, seval, hn]
   exact hfe2
 ·have hlt' : decide ((i : Int) < (a.length : Int)) = false := decide_eq_false (by omega)
  refine ARun.go 200 ?_
  simp only [W, seval, c35, hn, hlt']
  refine ARun.ret Tryz.func35 rfl (Left.none ?_)
  rw [h2, eqF_end e a b i (by omega) (by omega)]
  exact ⟨rfl, rfl⟩
def c64 := by
 have c := KK_of Tryz.f64 (by conv => lhs; cbv)
 dsimp only [KK, KxP, doO, opO, List.map_cons, List.map_nil, List.toList_toArray] at c
 exact c
theorem b64 : FnIs Tryz.prog 64 Tryz.f64 32 := ⟨Tryz.func64, by kernel_rfl⟩
set_option maxHeartbeats 1000000 in
theorem equalFunc_Expr (g : FuncId) (first caps : List V) (e : ExT → ExT → Bool) (a b : List ExT) (B : List (List V)) (T : List (Nat × Nat)) (hg : ∀ x ∈ a, ∀ y ∈ b, ∀ J, AFn Tryz.prog TabI g (first ++ [exV x, exV y] ++ caps) ⟨B ++ J, T⟩ (Same (.d (.bool (e x y))) ⟨B ++ J, T⟩)) :
 AFn Tryz.prog TabI 64 [.d (.sl (a.map exD)), .d (.sl (b.map exD)), .func g first caps] ⟨B, T⟩ (Same (.d (.bool (eqF e a b))) ⟨B, T⟩) := by
 obtain ⟨N, hn⟩ : ∃ N, B.length = N := ⟨_, rfl⟩
 refine b64.go 8 rfl fun hsm => ?_
 simp only [smw] at hsm
 simp only [W, seval, c64, hn]
 refine ARun.fitE fun hfe => ?_
 have hfe2 := hfe 2
 simp only [envS_get, lk_cons, lk_nil, Nat.reduceBEq, Nat.reduceAdd, Nat.reduceSub, cond_true, cond_false, hn] at hfe2
 clear hfe
 by_cases hl : a.length = b.length
 case neg =>
  have hl' : decide ((a.length : Int) = (b.length : Int)) = false := decide_eq_false (by omega)
  refine ARun.go 200 ?_
  simp only [W, seval, c64, hl', hn]
  refine ARun.ret Tryz.func64 rfl (Left.none ?_)
  rw [eqF_len e a b hl]
  exact ⟨rfl, rfl⟩
 have hl' : decide ((a.length : Int) = (b.length : Int)) = true := decide_eq_true (by omega)
 refine ARun.go 30 ?_
 simp only [W, seval, c64, hl', hn]
 refine ARun.fits fun hf => ?_
 refine ARun.loopB (fun i : Nat => (envS 32 [(1, .d (.sl (b.map exD))), (2, .func g first caps), (15, .d (.sl (a.map exD))), (16, .d (.int .i64 a.length)), (17, .d (.int .i64 i))], ⟨B, T⟩)) (fun i => i ≤ a.length ∧ eqF e a b = eqF e (a.drop i) (b.drop i)) (fun i => a.length - i) 0 ⟨by omega, rfl⟩ ?_ rfl ?_
 ·skip
  refine Agree.env _ ?_
  simp only [agw, seval, hn]
 rintro i ⟨h1, h2⟩ ih
 dsimp only at h1 h2 ih ⊢
 by_cases hlt : i < a.length
 ·have hw := wrap_in ((i : Int) + 1) (by omega)
  have hltb : i < b.length := by omega
  have hga := List.getElem?_eq_getElem hlt
  have hgb := List.getElem?_eq_getElem hltb
  have hlt' : decide ((i : Int) < (a.length : Int)) = true := decide_eq_true (by omega)
  rw [eqF_step e a b i hlt hltb] at h2
  have hgx := hg a[i] (List.getElem_mem hlt) b[i] (List.getElem_mem hltb)
  obtain ⟨x, hx⟩ : ∃ x, a[i] = x := ⟨_, rfl⟩
  obtain ⟨y, hy⟩ : ∃ y, b[i] = y := ⟨_, rfl⟩
  rw [hx] at hga h2 hgx
  rw [hy] at hgb h2 hgx
  refine ARun.go 200 ?_
  simp only [W, seval, c64, hn, List.getElem?_map, hga, hgb, hlt', exD_eq]
  refine callS_of (hgx _) ?_
  rintro _ _ ⟨rfl, rfl⟩
  refine ARun.go 200 ?_
  simp only [W, seval, c64, hn]
  cases he : e x y
  ·simp only [W, seval, c64, hn, he]
   refine ARun.ret Tryz.func64 rfl (Left.box ?_)
   rw [h2, he]
   exact ⟨rfl, rfl⟩
  ·simp only [W, seval, c64, hn, he, hw]
   rw [he, Bool.true_and] at h2
   refine ih (i + 1) ⟨hlt, h2⟩ (by omega) _ _ _ _ rfl ⟨by omega, Nat.le_refl _⟩ hf ?_
   refine AgreeF.env _ ?_
   simp only [agf, seval, hn]
   exact hfe2
 ·have hlt' : decide ((i : Int) < (a.length : Int)) = false := decide_eq_false (by omega)
  refine ARun.go 200 ?_
  simp only [W, seval, c64, hn, hlt']
  refine ARun.ret Tryz.func64 rfl (Left.none ?_)
  rw [h2, eqF_end e a b i (by omega) (by omega)]
  exact ⟨rfl, rfl⟩
def c36 := by
 have c := KK_of Tryz.f36 (by conv => lhs; cbv)
 dsimp only [KK, KxP, doO, opO, List.map_cons, List.map_nil, List.toList_toArray] at c
 exact c
theorem b36 : FnIs Tryz.prog 36 Tryz.f36 32 := ⟨Tryz.func36, by kernel_rfl⟩
set_option maxHeartbeats 1000000 in
theorem equalFunc_Stmt (g : FuncId) (first caps : List V) (e : StT → StT → Bool) (a b : List StT) (B : List (List V)) (T : List (Nat × Nat)) (hg : ∀ x ∈ a, ∀ y ∈ b, ∀ J, AFn Tryz.prog TabI g (first ++ [stV x, stV y] ++ caps) ⟨B ++ J, T⟩ (Same (.d (.bool (e x y))) ⟨B ++ J, T⟩)) :
 AFn Tryz.prog TabI 36 [.d (.sl (a.map stD)), .d (.sl (b.map stD)), .func g first caps] ⟨B, T⟩ (Same (.d (.bool (eqF e a b))) ⟨B, T⟩) := by
 obtain ⟨N, hn⟩ : ∃ N, B.length = N := ⟨_, rfl⟩
 refine b36.go 8 rfl fun hsm => ?_
 simp only [smw] at hsm
 simp only [W, seval, c36, hn]
 refine ARun.fitE fun hfe => ?_
 have hfe2 := hfe 2
 simp only [envS_get, lk_cons, lk_nil, Nat.reduceBEq, Nat.reduceAdd, Nat.reduceSub, cond_true, cond_false, hn] at hfe2
 clear hfe
 by_cases hl : a.length = b.length
 case neg =>
  have hl' : decide ((a.length : Int) = (b.length : Int)) = false := decide_eq_false (by omega)
  refine ARun.go 200 ?_
  simp only [W, seval, c36, hl', hn]
  refine ARun.ret Tryz.func36 rfl (Left.none ?_)
  rw [eqF_len e a b hl]
  exact ⟨rfl, rfl⟩
 have hl' : decide ((a.length : Int) = (b.length : Int)) = true := decide_eq_true (by omega)
 refine ARun.go 30 ?_
 simp only [W, seval, c36, hl', hn]
 refine ARun.fits fun hf => ?_
 refine ARun.loopB (fun i : Nat => (envS 32 [(1, .d (.sl (b.map stD))), (2, .func g first caps), (15, .d (.sl (a.map stD))), (16, .d (.int .i64 a.length)), (17, .d (.int .i64 i))], ⟨B, T⟩)) (fun i => i ≤ a.length ∧ eqF e a b = eqF e (a.drop i) (b.drop i)) (fun i => a.length - i) 0 ⟨by omega, rfl⟩ ?_ rfl ?_
 ·skip
  refine Agree.env _ ?_
  simp only [agw, seval, hn]
 rintro i ⟨h1, h2⟩ ih
 dsimp only at h1 h2 ih ⊢
 by_cases hlt : i < a.length
 ·have hw := wrap_in ((i : Int) + 1) (by omega)
  have hltb : i < b.length := by omega
  have hga := List.getElem?_eq_getElem hlt
  have hgb := List.getElem?_eq_getElem hltb
  have hlt' : decide ((i : Int) < (a.length : Int)) = true := decide_eq_true (by omega)
  rw [eqF_step e a b i hlt hltb] at h2
  have hgx := hg a[i] (List.getElem_mem hlt) b[i] (List.getElem_mem hltb)
  obtain ⟨x, hx⟩ : ∃ x, a[i] = x := ⟨_, rfl⟩
  obtain ⟨y, hy⟩ : ∃ y, b[i] = y := ⟨_, rfl⟩
  rw [hx] at hga h2 hgx
  rw [hy] at hgb h2 hgx
  refine ARun.go 200 ?_
  simp only [W, seval, c36, hn, List.getElem?_map, hga, hgb, hlt', stD_eq]
  refine callS_of (hgx _) ?_
  rintro _ _ ⟨rfl, rfl⟩
  refine ARun.go 200 ?_
  simp only [W, seval, c36, hn]
  cases he : e x y
  ·simp only [W, seval, c36, hn, he]
   refine ARun.ret Tryz.func36 rfl (Left.box ?_)
   rw [h2, he]
   exact ⟨rfl, rfl⟩
  ·simp only [W, seval, c36, hn, he, hw]
   rw [he, Bool.true_and] at h2
   refine ih (i + 1) ⟨hlt, h2⟩ (by omega) _ _ _ _ rfl ⟨by omega, Nat.le_refl _⟩ hf ?_
   refine AgreeF.env _ ?_
   simp only [agf, seval, hn]
   exact hfe2
 ·have hlt' : decide ((i : Int) < (a.length : Int)) = false := decide_eq_false (by omega)
  refine ARun.go 200 ?_
  simp only [W, seval, c36, hn, hlt']
  refine ARun.ret Tryz.func36 rfl (Left.none ?_)
  rw [h2, eqF_end e a b i (by omega) (by omega)]
  exact ⟨rfl, rfl⟩
def c66 := by
 have c := KK_of Tryz.f66 (by conv => lhs; cbv)
 dsimp only [KK, KxP, doO, opO, List.map_cons, List.map_nil, List.toList_toArray] at c
 exact c
theorem b66 : FnIs Tryz.prog 66 Tryz.f66 32 := ⟨Tryz.func66, by kernel_rfl⟩
set_option maxHeartbeats 1000000 in
theorem equalFunc_Case (g : FuncId) (first caps : List V) (e : CaT → CaT → Bool) (a b : List CaT) (B : List (List V)) (T : List (Nat × Nat)) (hg : ∀ x ∈ a, ∀ y ∈ b, ∀ J, AFn Tryz.prog TabI g (first ++ [caV x, caV y] ++ caps) ⟨B ++ J, T⟩ (Same (.d (.bool (e x y))) ⟨B ++ J, T⟩)) :
 AFn Tryz.prog TabI 66 [.d (.sl (a.map caD)), .d (.sl (b.map caD)), .func g first caps] ⟨B, T⟩ (Same (.d (.bool (eqF e a b))) ⟨B, T⟩) := by
 obtain ⟨N, hn⟩ : ∃ N, B.length = N := ⟨_, rfl⟩
 refine b66.go 8 rfl fun hsm => ?_
 simp only [smw] at hsm
 simp only [W, seval, c66, hn]
 refine ARun.fitE fun hfe => ?_
 have hfe2 := hfe 2
 simp only [envS_get, lk_cons, lk_nil, Nat.reduceBEq, Nat.reduceAdd, Nat.reduceSub, cond_true, cond_false, hn] at hfe2
 clear hfe
 by_cases hl : a.length = b.length
 case neg =>
  have hl' : decide ((a.length : Int) = (b.length : Int)) = false := decide_eq_false (by omega)
  refine ARun.go 200 ?_
  simp only [W, seval, c66, hl', hn]
  refine ARun.ret Tryz.func66 rfl (Left.none ?_)
  rw [eqF_len e a b hl]
  exact ⟨rfl, rfl⟩
 have hl' : decide ((a.length : Int) = (b.length : Int)) = true := decide_eq_true (by omega)
 refine ARun.go 30 ?_
 simp only [W, seval, c66, hl', hn]
 refine ARun.fits fun hf => ?_
 refine ARun.loopB (fun i : Nat => (envS 32 [(1, .d (.sl (b.map caD))), (2, .func g first caps), (15, .d (.sl (a.map caD))), (16, .d (.int .i64 a.length)), (17, .d (.int .i64 i))], ⟨B, T⟩)) (fun i => i ≤ a.length ∧ eqF e a b = eqF e (a.drop i) (b.drop i)) (fun i => a.length - i) 0 ⟨by omega, rfl⟩ ?_ rfl ?_
 ·skip
  refine Agree.env _ ?_
  simp only [agw, seval, hn]
 rintro i ⟨h1, h2⟩ ih
 dsimp only at h1 h2 ih ⊢
 by_cases hlt : i < a.length
 ·have hw := wrap_in ((i : Int) + 1) (by omega)
  have hltb : i < b.length := by omega
  have hga := List.getElem?_eq_getElem hlt
  have hgb := List.getElem?_eq_getElem hltb
  have hlt' : decide ((i : Int) < (a.length : Int)) = true := decide_eq_true (by omega)
  rw [eqF_step e a b i hlt hltb] at h2
  have hgx := hg a[i] (List.getElem_mem hlt) b[i] (List.getElem_mem hltb)
  obtain ⟨x, hx⟩ : ∃ x, a[i] = x := ⟨_, rfl⟩
  obtain ⟨y, hy⟩ : ∃ y, b[i] = y := ⟨_, rfl⟩
  rw [hx] at hga h2 hgx
  rw [hy] at hgb h2 hgx
  refine ARun.go 200 ?_
  simp only [W, seval, c66, hn, List.getElem?_map, hga, hgb, hlt', caD_eq]
  refine callS_of (hgx _) ?_
  rintro _ _ ⟨rfl, rfl⟩
  refine ARun.go 200 ?_
  simp only [W, seval, c66, hn]
  cases he : e x y
  ·simp only [W, seval, c66, hn, he]
   refine ARun.ret Tryz.func66 rfl (Left.box ?_)
   rw [h2, he]
   exact ⟨rfl, rfl⟩
  ·simp only [W, seval, c66, hn, he, hw]
   rw [he, Bool.true_and] at h2
   refine ih (i + 1) ⟨hlt, h2⟩ (by omega) _ _ _ _ rfl ⟨by omega, Nat.le_refl _⟩ hf ?_
   refine AgreeF.env _ ?_
   simp only [agf, seval, hn]
   exact hfe2
 ·have hlt' : decide ((i : Int) < (a.length : Int)) = false := decide_eq_false (by omega)
  refine ARun.go 200 ?_
  simp only [W, seval, c66, hn, hlt']
  refine ARun.ret Tryz.func66 rfl (Left.none ?_)
  rw [h2, eqF_end e a b i (by omega) (by omega)]
  exact ⟨rfl, rfl⟩
def c33 := by
 have c := KK_of Tryz.f33 (by conv => lhs; cbv)
 dsimp only [KK, KxP, doO, opO, List.map_cons, List.map_nil, List.toList_toArray] at c
 exact c
theorem b33 : FnIs Tryz.prog 33 Tryz.f33 32 := ⟨Tryz.func33, by kernel_rfl⟩
set_option maxHeartbeats 1000000 in
theorem equalFunc_Param (g : FuncId) (first caps : List V) (e : PaT → PaT → Bool) (a b : List PaT) (B : List (List V)) (T : List (Nat × Nat)) (hg : ∀ x ∈ a, ∀ y ∈ b, ∀ J, AFn Tryz.prog TabI g (first ++ [paV x, paV y] ++ caps) ⟨B ++ J, T⟩ (Same (.d (.bool (e x y))) ⟨B ++ J, T⟩)) :
 AFn Tryz.prog TabI 33 [.d (.sl (a.map paD)), .d (.sl (b.map paD)), .func g first caps] ⟨B, T⟩ (Same (.d (.bool (eqF e a b))) ⟨B, T⟩) := by
 obtain ⟨N, hn⟩ : ∃ N, B.length = N := ⟨_, rfl⟩
 refine b33.go 8 rfl fun hsm => ?_
 simp only [smw] at hsm
 simp only [W, seval, c33, hn]
 refine ARun.fitE fun hfe => ?_
 have hfe2 := hfe 2
 simp only [envS_get, lk_cons, lk_nil, Nat.reduceBEq, Nat.reduceAdd, Nat.reduceSub, cond_true, cond_false, hn] at hfe2
 clear hfe
 by_cases hl : a.length = b.length
 case neg =>
  have hl' : decide ((a.length : Int) = (b.length : Int)) = false := decide_eq_false (by omega)
  refine ARun.go 200 ?_
  simp only [W, seval, c33, hl', hn]
  refine ARun.ret Tryz.func33 rfl (Left.none ?_)
  rw [eqF_len e a b hl]
  exact ⟨rfl, rfl⟩
 have hl' : decide ((a.length : Int) = (b.length : Int)) = true := decide_eq_true (by omega)
 refine ARun.go 30 ?_
 simp only [W, seval, c33, hl', hn]
 refine ARun.fits fun hf => ?_
 refine ARun.loopB (fun i : Nat => (envS 32 [(1, .d (.sl (b.map paD))), (2, .func g first caps), (15, .d (.sl (a.map paD))), (16, .d (.int .i64 a.length)), (17, .d (.int .i64 i))], ⟨B, T⟩)) (fun i => i ≤ a.length ∧ eqF e a b = eqF e (a.drop i) (b.drop i)) (fun i => a.length - i) 0 ⟨by omega, rfl⟩ ?_ rfl ?_
 ·skip
  refine Agree.env _ ?_
  simp only [agw, seval, hn]
 rintro i ⟨h1, h2⟩ ih
 dsimp only at h1 h2 ih ⊢
 by_cases hlt : i < a.length
 ·have hw := wrap_in ((i : Int) + 1) (by omega)
  have hltb : i < b.length := by omega
  have hga := List.getElem?_eq_getElem hlt
  have hgb := List.getElem?_eq_getElem hltb
  have hlt' : decide ((i : Int) < (a.length : Int)) = true := decide_eq_true (by omega)
  rw [eqF_step e a b i hlt hltb] at h2
  have hgx := hg a[i] (List.getElem_mem hlt) b[i] (List.getElem_mem hltb)
  obtain ⟨x, hx⟩ : ∃ x, a[i] = x := ⟨_, rfl⟩
  obtain ⟨y, hy⟩ : ∃ y, b[i] = y := ⟨_, rfl⟩
  rw [hx] at hga h2 hgx
  rw [hy] at hgb h2 hgx
  refine ARun.go 200 ?_
  simp only [W, seval, c33, hn, List.getElem?_map, hga, hgb, hlt', paD_eq]
  refine callS_of (hgx _) ?_
  rintro _ _ ⟨rfl, rfl⟩
  refine ARun.go 200 ?_
  simp only [W, seval, c33, hn]
  cases he : e x y
  ·simp only [W, seval, c33, hn, he]
   refine ARun.ret Tryz.func33 rfl (Left.box ?_)
   rw [h2, he]
   exact ⟨rfl, rfl⟩
  ·simp only [W, seval, c33, hn, he, hw]
   rw [he, Bool.true_and] at h2
   refine ih (i + 1) ⟨hlt, h2⟩ (by omega) _ _ _ _ rfl ⟨by omega, Nat.le_refl _⟩ hf ?_
   refine AgreeF.env _ ?_
   simp only [agf, seval, hn]
   exact hfe2
 ·have hlt' : decide ((i : Int) < (a.length : Int)) = false := decide_eq_false (by omega)
  refine ARun.go 200 ?_
  simp only [W, seval, c33, hn, hlt']
  refine ARun.ret Tryz.func33 rfl (Left.none ?_)
  rw [h2, eqF_end e a b i (by omega) (by omega)]
  exact ⟨rfl, rfl⟩
def c38 := by
 have c := KK_of Tryz.f38 (by conv => lhs; cbv)
 dsimp only [KK, KxP, doO, opO, List.map_cons, List.map_nil, List.toList_toArray] at c
 exact c
theorem b38 : FnIs Tryz.prog 38 Tryz.f38 32 := ⟨Tryz.func38, by kernel_rfl⟩
set_option maxHeartbeats 1000000 in
theorem equalFunc_Struct (g : FuncId) (first caps : List V) (e : SuT → SuT → Bool) (a b : List SuT) (B : List (List V)) (T : List (Nat × Nat)) (hg : ∀ x ∈ a, ∀ y ∈ b, ∀ J, AFn Tryz.prog TabI g (first ++ [suV x, suV y] ++ caps) ⟨B ++ J, T⟩ (Same (.d (.bool (e x y))) ⟨B ++ J, T⟩)) :
 AFn Tryz.prog TabI 38 [.d (.sl (a.map suD)), .d (.sl (b.map suD)), .func g first caps] ⟨B, T⟩ (Same (.d (.bool (eqF e a b))) ⟨B, T⟩) := by
 obtain ⟨N, hn⟩ : ∃ N, B.length = N := ⟨_, rfl⟩
 refine b38.go 8 rfl fun hsm => ?_
 simp only [smw] at hsm
 simp only [W, seval, c38, hn]
 refine ARun.fitE fun hfe => ?_
 have hfe2 := hfe 2
 simp only [envS_get, lk_cons, lk_nil, Nat.reduceBEq, Nat.reduceAdd, Nat.reduceSub, cond_true, cond_false, hn] at hfe2
 clear hfe
 by_cases hl : a.length = b.length
 case neg =>
  have hl' : decide ((a.length : Int) = (b.length : Int)) = false := decide_eq_false (by omega)
  refine ARun.go 200 ?_
  simp only [W, seval, c38, hl', hn]
  refine ARun.ret Tryz.func38 rfl (Left.none ?_)
  rw [eqF_len e a b hl]
  exact ⟨rfl, rfl⟩
 have hl' : decide ((a.length : Int) = (b.length : Int)) = true := decide_eq_true (by omega)
 refine ARun.go 30 ?_
 simp only [W, seval, c38, hl', hn]
 refine ARun.fits fun hf => ?_
 refine ARun.loopB (fun i : Nat => (envS 32 [(1, .d (.sl (b.map suD))), (2, .func g first caps), (15, .d (.sl (a.map suD))), (16, .d (.int .i64 a.length)), (17, .d (.int .i64 i))], ⟨B, T⟩)) (fun i => i ≤ a.length ∧ eqF e a b = eqF e (a.drop i) (b.drop i)) (fun i => a.length - i) 0 ⟨by omega, rfl⟩ ?_ rfl ?_
 ·skip
  refine Agree.env _ ?_
  simp only [agw, seval, hn]
 rintro i ⟨h1, h2⟩ ih
 dsimp only at h1 h2 ih ⊢
 by_cases hlt : i < a.length
 ·have hw := wrap_in ((i : Int) + 1) (by omega)
  have hltb : i < b.length := by omega
  have hga := List.getElem?_eq_getElem hlt
  have hgb := List.getElem?_eq_getElem hltb
  have hlt' : decide ((i : Int) < (a.length : Int)) = true := decide_eq_true (by omega)
  rw [eqF_step e a b i hlt hltb] at h2
  have hgx := hg a[i] (List.getElem_mem hlt) b[i] (List.getElem_mem hltb)
  obtain ⟨x, hx⟩ : ∃ x, a[i] = x := ⟨_, rfl⟩
  obtain ⟨y, hy⟩ : ∃ y, b[i] = y := ⟨_, rfl⟩
  rw [hx] at hga h2 hgx
  rw [hy] at hgb h2 hgx
  refine ARun.go 200 ?_
  simp only [W, seval, c38, hn, List.getElem?_map, hga, hgb, hlt', suD_eq]
  refine callS_of (hgx _) ?_
  rintro _ _ ⟨rfl, rfl⟩
  refine ARun.go 200 ?_
  simp only [W, seval, c38, hn]
  cases he : e x y
  ·simp only [W, seval, c38, hn, he]
   refine ARun.ret Tryz.func38 rfl (Left.box ?_)
   rw [h2, he]
   exact ⟨rfl, rfl⟩
  ·simp only [W, seval, c38, hn, he, hw]
   rw [he, Bool.true_and] at h2
   refine ih (i + 1) ⟨hlt, h2⟩ (by omega) _ _ _ _ rfl ⟨by omega, Nat.le_refl _⟩ hf ?_
   refine AgreeF.env _ ?_
   simp only [agf, seval, hn]
   exact hfe2
 ·have hlt' : decide ((i : Int) < (a.length : Int)) = false := decide_eq_false (by omega)
  refine ARun.go 200 ?_
  simp only [W, seval, c38, hn, hlt']
  refine ARun.ret Tryz.func38 rfl (Left.none ?_)
  rw [h2, eqF_end e a b i (by omega) (by omega)]
  exact ⟨rfl, rfl⟩
def c39 := by
 have c := KK_of Tryz.f39 (by conv => lhs; cbv)
 dsimp only [KK, KxP, doO, opO, List.map_cons, List.map_nil, List.toList_toArray] at c
 exact c
theorem b39 : FnIs Tryz.prog 39 Tryz.f39 32 := ⟨Tryz.func39, by kernel_rfl⟩
set_option maxHeartbeats 1000000 in
theorem equalFunc_Func (g : FuncId) (first caps : List V) (e : FuT → FuT → Bool) (a b : List FuT) (B : List (List V)) (T : List (Nat × Nat)) (hg : ∀ x ∈ a, ∀ y ∈ b, ∀ J, AFn Tryz.prog TabI g (first ++ [fuV x, fuV y] ++ caps) ⟨B ++ J, T⟩ (Same (.d (.bool (e x y))) ⟨B ++ J, T⟩)) :
 AFn Tryz.prog TabI 39 [.d (.sl (a.map fuD)), .d (.sl (b.map fuD)), .func g first caps] ⟨B, T⟩ (Same (.d (.bool (eqF e a b))) ⟨B, T⟩) := by
 obtain ⟨N, hn⟩ : ∃ N, B.length = N := ⟨_, rfl⟩
 refine b39.go 8 rfl fun hsm => ?_
 simp only [smw] at hsm
 simp only [W, seval, c39, hn]
 refine ARun.fitE fun hfe => ?_
 have hfe2 := hfe 2
 simp only [envS_get, lk_cons, lk_nil, Nat.reduceBEq, Nat.reduceAdd, Nat.reduceSub, cond_true, cond_false, hn] at hfe2
 clear hfe
 by_cases hl : a.length = b.length
 case neg =>
  have hl' : decide ((a.length : Int) = (b.length : Int)) = false := decide_eq_false (by omega)
  refine ARun.go 200 ?_
  simp only [W, seval, c39, hl', hn]
  refine ARun.ret Tryz.func39 rfl (Left.none ?_)
  rw [eqF_len e a b hl]
  exact ⟨rfl, rfl⟩
 have hl' : decide ((a.length : Int) = (b.length : Int)) = true := decide_eq_true (by omega)
 refine ARun.go 30 ?_
 simp only [W, seval, c39, hl', hn]
 refine ARun.fits fun hf => ?_
 refine ARun.loopB (fun i : Nat => (envS 32 [(1, .d (.sl (b.map fuD))), (2, .func g first caps), (15, .d (.sl (a.map fuD))), (16, .d (.int .i64 a.length)), (17, .d (.int .i64 i))], ⟨B, T⟩)) (fun i => i ≤ a.length ∧ eqF e a b = eqF e (a.drop i) (b.drop i)) (fun i => a.length - i) 0 ⟨by omega, rfl⟩ ?_ rfl ?_
 ·skip
  refine Agree.env _ ?_
  simp only [agw, seval, hn]
 rintro i ⟨h1, h2⟩ ih
 dsimp only at h1 h2 ih ⊢
 by_cases hlt : i < a.length
 ·have hw := wrap_in ((i : Int) + 1) (by omega)
  have hltb : i < b.length := by omega
  have hga := List.getElem?_eq_getElem hlt
  have hgb := List.getElem?_eq_getElem hltb
  have hlt' : decide ((i : Int) < (a.length : Int)) = true := decide_eq_true (by omega)
  rw [eqF_step e a b i hlt hltb] at h2
  have hgx := hg a[i] (List.getElem_mem hlt) b[i] (List.getElem_mem hltb)
  obtain ⟨x, hx⟩ : ∃ x, a[i] = x := ⟨_, rfl⟩
  obtain ⟨y, hy⟩ : ∃ y, b[i] = y := ⟨_, rfl⟩
  rw [hx] at hga h2 hgx
  rw [hy] at hgb h2 hgx
  refine ARun.go 200 ?_
  simp only [W, seval, c39, hn, List.getElem?_map, hga, hgb, hlt', fuD_eq]
  refine callS_of (hgx _) ?_
  rintro _ _ ⟨rfl, rfl⟩
  refine ARun.go 200 ?_
  simp only [W, seval, c39, hn]
  cases he : e x y
  ·simp only [W, seval, c39, hn, he]
   refine ARun.ret Tryz.func39 rfl (Left.box ?_)
   rw [h2, he]
   exact ⟨rfl, rfl⟩
  ·simp only [W, seval, c39, hn, he, hw]
   rw [he, Bool.true_and] at h2
   refine ih (i + 1) ⟨hlt, h2⟩ (by omega) _ _ _ _ rfl ⟨by omega, Nat.le_refl _⟩ hf ?_
   refine AgreeF.env _ ?_
   simp only [agf, seval, hn]
   exact hfe2
 ·have hlt' : decide ((i : Int) < (a.length : Int)) = false := decide_eq_false (by omega)
  refine ARun.go 200 ?_
  simp only [W, seval, c39, hn, hlt']
  refine ARun.ret Tryz.func39 rfl (Left.none ?_)
  rw [h2, eqF_end e a b i (by omega) (by omega)]
  exact ⟨rfl, rfl⟩
mutual
def eqT : TyT → TyT → Bool
 | .mk k n es, .mk k' n' es' => decide (k = k') && (decide (n = n') && eqTs es es')
def eqTs : List TyT → List TyT → Bool
 | [], [] => true
 | t :: a, u :: b => eqT t u && eqTs a b
 | [], _ :: _ => false
 | _ :: _, [] => false
end
mutual
def eqE : ExT → ExT → Bool
 | .mk k t i ty ns ks, .mk k' t' i' ty' ns' ks' => decide (k = k') && (decide (t = t') && (decide (i = i') && (eqT ty ty' && (decide (ns = ns') && eqEs ks ks'))))
def eqEs : List ExT → List ExT → Bool
 | [], [] => true
 | t :: a, u :: b => eqE t u && eqEs a b
 | [], _ :: _ => false
 | _ :: _, [] => false
end
mutual
def eqSt : StT → StT → Bool
 | .mk k ns ty ls es b e cs, .mk k' ns' ty' ls' es' b' e' cs' => decide (k = k') && (decide (ns = ns') && (eqT ty ty' && (eqEs ls ls' && (eqEs es es' && (eqSts b b' && (eqSts e e' && eqCas cs cs'))))))
def eqSts : List StT → List StT → Bool
 | [], [] => true
 | t :: a, u :: b => eqSt t u && eqSts a b
 | [], _ :: _ => false
 | _ :: _, [] => false
def eqCa : CaT → CaT → Bool
 | .mk i b, .mk i' b' => decide (i = i') && eqSts b b'
def eqCas : List CaT → List CaT → Bool
 | [], [] => true
 | t :: a, u :: b => eqCa t u && eqCas a b
 | [], _ :: _ => false
 | _ :: _, [] => false
end
def eqPa (p q : PaT) : Bool := decide (p.name = q.name) && eqT p.type q.type
def eqSu (p q : SuT) : Bool := decide (p.name = q.name) && eqF eqPa p.fields q.fields
def eqFu (p q : FuT) : Bool := decide (p.name = q.name) && (eqF eqPa p.params q.params && (eqF eqT p.results q.results && eqF eqSt p.body q.body))
def eqPr (p q : PrT) : Bool := eqF eqSu p.structs q.structs && eqF eqFu p.funcs q.funcs
theorem eqTs_F : ∀ a b : List TyT, eqTs a b = eqF eqT a b
 | [], [] => by rw [eqTs, eqF]
 | t :: a, u :: b => by rw [eqTs, eqF, eqTs_F a b]
 | [], _ :: _ => by rw [eqTs, eqF] <;> simp
 | _ :: _, [] => by rw [eqTs, eqF] <;> simp
theorem eqEs_F : ∀ a b : List ExT, eqEs a b = eqF eqE a b
 | [], [] => by rw [eqEs, eqF]
 | t :: a, u :: b => by rw [eqEs, eqF, eqEs_F a b]
 | [], _ :: _ => by rw [eqEs, eqF] <;> simp
 | _ :: _, [] => by rw [eqEs, eqF] <;> simp
theorem eqSts_F : ∀ a b : List StT, eqSts a b = eqF eqSt a b
 | [], [] => by rw [eqSts, eqF]
 | t :: a, u :: b => by rw [eqSts, eqF, eqSts_F a b]
 | [], _ :: _ => by rw [eqSts, eqF] <;> simp
 | _ :: _, [] => by rw [eqSts, eqF] <;> simp
theorem eqCas_F : ∀ a b : List CaT, eqCas a b = eqF eqCa a b
 | [], [] => by rw [eqCas, eqF]
 | t :: a, u :: b => by rw [eqCas, eqF, eqCas_F a b]
 | [], _ :: _ => by rw [eqCas, eqF] <;> simp
 | _ :: _, [] => by rw [eqCas, eqF] <;> simp
theorem eqT_mk (t u : TyT) : eqT t u = (decide (t.kind = u.kind) && (decide (t.name = u.name) && eqF eqT t.elem u.elem)) := by
 cases t; cases u
 rw [eqT, eqTs_F]
 rfl
theorem eqE_mk (t u : ExT) : eqE t u = (decide (t.kind = u.kind) && (decide (t.text = u.text) && (decide (t.int = u.int) && (eqT t.type u.type && (decide (t.names = u.names) && eqF eqE t.kids u.kids))))) := by
 cases t; cases u
 rw [eqE, eqEs_F]
 rfl
theorem eqSt_mk (t u : StT) : eqSt t u = (decide (t.kind = u.kind) && (decide (t.names = u.names) && (eqT t.type u.type && (eqF eqE t.lefts u.lefts && (eqF eqE t.exprs u.exprs && (eqF eqSt t.body u.body && (eqF eqSt t.els u.els && eqF eqCa t.cases u.cases))))))) := by
 cases t; cases u
 rw [eqSt, eqEs_F, eqEs_F, eqSts_F, eqSts_F, eqCas_F]
 rfl
theorem eqCa_mk (t u : CaT) : eqCa t u = (decide (t.int = u.int) && eqF eqSt t.body u.body) := by
 cases t; cases u
 rw [eqCa, eqSts_F]
 rfl
def c63 := by
 have c := KK_of Tryz.f63 (by conv => lhs; cbv)
 dsimp only [KK, KxP, doO, opO, List.map_cons, List.map_nil, List.toList_toArray] at c
 exact c
theorem b63 : FnIs Tryz.prog 63 Tryz.f63 26 := ⟨Tryz.func63, by kernel_rfl⟩
def c31 := by
 have c := KK_of Tryz.f31 (by conv => lhs; cbv)
 dsimp only [KK, KxP, doO, opO, List.map_cons, List.map_nil, List.toList_toArray] at c
 exact c
theorem b31 : FnIs Tryz.prog 31 Tryz.f31 24 := ⟨Tryz.func31, by kernel_rfl⟩
def c65 := by
 have c := KK_of Tryz.f65 (by conv => lhs; cbv)
 dsimp only [KK, KxP, doO, opO, List.map_cons, List.map_nil, List.toList_toArray] at c
 exact c
theorem b65 : FnIs Tryz.prog 65 Tryz.f65 45 := ⟨Tryz.func65, by kernel_rfl⟩
def c62 := by
 have c := KK_of Tryz.f62 (by conv => lhs; cbv)
 dsimp only [KK, KxP, doO, opO, List.map_cons, List.map_nil, List.toList_toArray] at c
 exact c
theorem b62 : FnIs Tryz.prog 62 Tryz.f62 17 := ⟨Tryz.func62, by kernel_rfl⟩
def c37 := by
 have c := KK_of Tryz.f37 (by conv => lhs; cbv)
 dsimp only [KK, KxP, doO, opO, List.map_cons, List.map_nil, List.toList_toArray] at c
 exact c
theorem b37 : FnIs Tryz.prog 37 Tryz.f37 61 := ⟨Tryz.func37, by kernel_rfl⟩
theorem ssD_drop_eq (a b : List (List UInt8)) (i : Nat) (h : i < a.length) (h' : i < b.length) : decide (a.drop i = b.drop i) = (decide (a[i] = b[i]) && decide (a.drop (i + 1) = b.drop (i + 1))) := by
 rw [List.drop_eq_getElem_cons h, List.drop_eq_getElem_cons h']
 generalize a[i] = x
 generalize b[i] = y
 generalize a.drop (i + 1) = p
 generalize b.drop (i + 1) = q
 by_cases h1 : x = y <;> by_cases h2 : p = q <;> simp [h1, h2]
set_option maxHeartbeats 1000000 in
theorem equalSs_ab0 (a b : List (List UInt8)) :
 AFn Tryz.prog TabI 63 [.d (.sl (ssD a)), .d (.sl (ssD b))] ⟨[], []⟩ (Same (.d (.bool (decide (a = b)))) ⟨[], []⟩) := by
 refine b63.go 8 rfl fun hsm => ?_
 simp only [smw] at hsm
 simp only [W, seval, c63]
 by_cases hl : a.length = b.length
 case neg =>
  have hl' : decide ((a.length : Int) = (b.length : Int)) = false := decide_eq_false (by omega)
  have hne : decide (a = b) = false := decide_eq_false (fun e => hl (by rw [e]))
  refine ARun.go 200 ?_
  simp only [W, seval, c63, hl']
  refine ARun.ret Tryz.func63 rfl (Left.empty ?_)
  rw [hne]
  exact ⟨rfl, rfl⟩
 have hl' : decide ((a.length : Int) = (b.length : Int)) = true := decide_eq_true (by omega)
 refine ARun.go 30 ?_
 simp only [W, seval, c63, hl']
 refine ARun.loopW (fun i : Nat => (envS 26 [(0, .d (.sl (ssD a))), (1, .d (.sl (ssD b))), (12, .d (.int .i64 a.length)), (13, .d (.int .i64 i))], ⟨[], []⟩)) (fun i => i ≤ a.length ∧ decide (a = b) = decide (a.drop i = b.drop i)) (fun i => a.length - i) 0 ⟨by omega, rfl⟩ ?_ rfl ?_
 ·skip
  refine Agree.env _ ?_
  simp only [agw, seval]
 rintro i ⟨h1, h2⟩ ih
 dsimp only at h1 h2 ih ⊢
 by_cases hlt : i < a.length
 ·have hw := wrap_in ((i : Int) + 1) (by omega)
  have hltb : i < b.length := by omega
  have hga := List.getElem?_eq_getElem hlt
  have hgb := List.getElem?_eq_getElem hltb
  have hlt' : decide ((i : Int) < (a.length : Int)) = true := decide_eq_true (by omega)
  have hltb' : decide ((i : Int) < (b.length : Int)) = true := decide_eq_true (by omega)
  rw [ssD_drop_eq a b i hlt hltb] at h2
  refine ARun.go 20 ?_
  simp only [W, seval, c63, hlt']
  refine ARun.draw (by kernel_rfl) (by kernel_rfl) (lexQ_ok 60 _ _ ?_)
  simp only [W, seval, c63, hga, hgb, hltb]
  cases he : decide (a[i] = b[i])
  ·refine ARun.go 200 ?_
   simp only [W, seval, c63, he]
   refine ARun.ret Tryz.func63 rfl (Left.empty ?_)
   rw [h2, he]
   exact ⟨rfl, rfl⟩
  ·refine ARun.go 200 ?_
   simp only [W, seval, c63, he, hw]
   rw [he, Bool.true_and] at h2
   refine ih (i + 1) ⟨hlt, h2⟩ (by omega) _ _ ?_ rfl
   refine Agree.env _ ?_
   simp only [agw, seval]
 ·have hlt' : decide ((i : Int) < (a.length : Int)) = false := decide_eq_false (by omega)
  refine ARun.go 200 ?_
  simp only [W, seval, c63, hlt']
  refine ARun.ret Tryz.func63 rfl (Left.empty ?_)
  rw [h2, List.drop_eq_nil_of_le (by omega), List.drop_eq_nil_of_le (by omega)]
  exact ⟨rfl, rfl⟩
theorem equalSs_ab (a b : List (List UInt8)) (S : Mem) : AFn Tryz.prog TabI 63 [.d (.sl (ssD a)), .d (.sl (ssD b))] S (Same (.d (.bool (decide (a = b)))) S) := (equalSs_ab0 a b).same rfl rfl S
def TOkG (t : TyT) : Prop := ∀ (u : TyT) (S : Mem), AFn Tryz.prog TabI 31 [tyV t, tyV u] S (Same (.d (.bool (eqT t u))) S)
set_option maxHeartbeats 1000000 in
theorem sameType_step (t : TyT) (h : ∀ x ∈ t.elem, TOkG x) : TOkG t := by
 intro u S
 refine AFn.same (v := .d (.bool (eqT t u))) ?_ rfl rfl S
 rw [eqT_mk]
 have he := fun B T => equalFunc_Type 31 [] [] eqT t.elem u.elem B T (fun x hx y _ J => h x hx y _)
 unfold tyV
 cases h1 : decide (t.kind = u.kind)
 ·refine b31.go 200 rfl fun _ => ?_
  simp only [W, seval, c31, h1]
  refine ARun.ret Tryz.func31 rfl (Left.empty ?_)
  exact ⟨rfl, rfl⟩
 cases h2 : decide (t.name = u.name)
 ·refine b31.go 200 rfl fun _ => ?_
  simp only [W, seval, c31, h1, h2]
  refine ARun.ret Tryz.func31 rfl (Left.empty ?_)
  exact ⟨rfl, rfl⟩
 refine b31.go 200 rfl fun _ => ?_
 simp only [W, seval, c31, h1, h2]
 refine callS_fn (he _ _) ?_
 rintro _ _ ⟨rfl, rfl⟩
 refine ARun.go 200 ?_
 simp only [W, seval, c31]
 refine ARun.ret Tryz.func31 rfl (Left.empty ?_)
 exact ⟨rfl, rfl⟩
mutual
theorem sameType_ab : ∀ t : TyT, TOkG t
 | .mk k n es => sameType_step (.mk k n es) (sameType_all es)
theorem sameType_all : ∀ (ts : List TyT), ∀ x ∈ ts, TOkG x
 | [], _, h => absurd h List.not_mem_nil
 | y :: l, x, h => by
  rcases List.mem_cons.1 h with e | e
  ·rw [e]; exact sameType_ab y
  ·exact sameType_all l x e
end
def EOkG (t : ExT) : Prop := ∀ (u : ExT) (S : Mem), AFn Tryz.prog TabI 65 [exV t, exV u] S (Same (.d (.bool (eqE t u))) S)
set_option maxHeartbeats 2000000 in
theorem sameExpr_step (t : ExT) (h : ∀ x ∈ t.kids, EOkG x) : EOkG t := by
 intro u S
 refine AFn.same (v := .d (.bool (eqE t u))) ?_ rfl rfl S
 rw [eqE_mk]
 have he := fun B T => equalFunc_Expr 65 [] [] eqE t.kids u.kids B T (fun x hx y _ J => h x hx y _)
 have hty := sameType_ab t.type u.type
 have hns := equalSs_ab t.names u.names
 unfold tyV at hty
 unfold exV
 cases h1 : decide (t.kind = u.kind)
 ·refine b65.go 200 rfl fun _ => ?_
  simp only [W, seval, c65, h1]
  refine ARun.ret Tryz.func65 rfl (Left.empty ?_)
  exact ⟨rfl, rfl⟩
 cases h2 : decide (t.text = u.text)
 ·refine b65.go 200 rfl fun _ => ?_
  simp only [W, seval, c65, h1, h2]
  refine ARun.ret Tryz.func65 rfl (Left.empty ?_)
  exact ⟨rfl, rfl⟩
 cases h3 : decide (t.int = u.int)
 ·refine b65.go 200 rfl fun _ => ?_
  simp only [W, seval, c65, h1, h2, h3]
  refine ARun.ret Tryz.func65 rfl (Left.empty ?_)
  exact ⟨rfl, rfl⟩
 refine b65.go 200 rfl fun _ => ?_
 simp only [W, seval, c65, h1, h2, h3]
 refine callS_fn (hty _) ?_
 rintro _ _ ⟨rfl, rfl⟩
 cases h4 : eqT t.type u.type
 ·refine ARun.go 200 ?_
  simp only [W, seval, c65, h4]
  refine ARun.ret Tryz.func65 rfl (Left.empty ?_)
  exact ⟨rfl, rfl⟩
 refine ARun.go 200 ?_
 simp only [W, seval, c65, h4]
 refine callS_fn (hns _) ?_
 rintro _ _ ⟨rfl, rfl⟩
 cases h5 : decide (t.names = u.names)
 ·refine ARun.go 200 ?_
  simp only [W, seval, c65, h5]
  refine ARun.ret Tryz.func65 rfl (Left.empty ?_)
  exact ⟨rfl, rfl⟩
 refine ARun.go 200 ?_
 simp only [W, seval, c65, h5]
 refine callS_fn (he _ _) ?_
 rintro _ _ ⟨rfl, rfl⟩
 refine ARun.go 200 ?_
 simp only [W, seval, c65]
 refine ARun.ret Tryz.func65 rfl (Left.empty ?_)
 exact ⟨rfl, rfl⟩
mutual
theorem sameExpr_ab : ∀ t : ExT, EOkG t
 | .mk k t i ty ns ks => sameExpr_step (.mk k t i ty ns ks) (sameExpr_all ks)
theorem sameExpr_all : ∀ (ts : List ExT), ∀ x ∈ ts, EOkG x
 | [], _, h => absurd h List.not_mem_nil
 | y :: l, x, h => by
  rcases List.mem_cons.1 h with e | e
  ·rw [e]; exact sameExpr_ab y
  ·exact sameExpr_all l x e
end
def SOkG (t : StT) : Prop := ∀ (u : StT) (S : Mem), AFn Tryz.prog TabI 37 [stV t, stV u] S (Same (.d (.bool (eqSt t u))) S)
set_option maxHeartbeats 1000000 in
theorem sameCase_ab (t : CaT) (h : ∀ x ∈ t.body, SOkG x) (u : CaT) (S : Mem) : AFn Tryz.prog TabI 62 [caV t, caV u] S (Same (.d (.bool (eqCa t u))) S) := by
 refine AFn.same (v := .d (.bool (eqCa t u))) ?_ rfl rfl S
 rw [eqCa_mk]
 have he := fun B T => equalFunc_Stmt 37 [] [] eqSt t.body u.body B T (fun x hx y _ J => h x hx y _)
 unfold caV
 cases h1 : decide (t.int = u.int)
 ·refine b62.go 200 rfl fun _ => ?_
  simp only [W, seval, c62, h1]
  refine ARun.ret Tryz.func62 rfl (Left.empty ?_)
  exact ⟨rfl, rfl⟩
 refine b62.go 200 rfl fun _ => ?_
 simp only [W, seval, c62, h1]
 refine callS_fn (he _ _) ?_
 rintro _ _ ⟨rfl, rfl⟩
 refine ARun.go 200 ?_
 simp only [W, seval, c62]
 refine ARun.ret Tryz.func62 rfl (Left.empty ?_)
 exact ⟨rfl, rfl⟩
set_option maxHeartbeats 4000000 in
theorem sameStmt_step (t : StT) (hb : ∀ x ∈ t.body, SOkG x) (hl : ∀ x ∈ t.els, SOkG x) (hc : ∀ c ∈ t.cases, ∀ x ∈ c.body, SOkG x) : SOkG t := by
 intro u S
 refine AFn.same (v := .d (.bool (eqSt t u))) ?_ rfl rfl S
 rw [eqSt_mk]
 have hns := equalSs_ab t.names u.names
 have hty := sameType_ab t.type u.type
 have hle := fun B T => equalFunc_Expr 65 [] [] eqE t.lefts u.lefts B T (fun x hx y _ J => sameExpr_ab x y _)
 have hex := fun B T => equalFunc_Expr 65 [] [] eqE t.exprs u.exprs B T (fun x hx y _ J => sameExpr_ab x y _)
 have hbo := fun B T => equalFunc_Stmt 37 [] [] eqSt t.body u.body B T (fun x hx y _ J => hb x hx y _)
 have hel := fun B T => equalFunc_Stmt 37 [] [] eqSt t.els u.els B T (fun x hx y _ J => hl x hx y _)
 have hca := fun B T => equalFunc_Case 62 [] [] eqCa t.cases u.cases B T (fun x hx y _ J => sameCase_ab x (hc x hx) y _)
 unfold tyV at hty
 unfold stV
 cases h1 : decide (t.kind = u.kind)
 ·refine b37.go 200 rfl fun _ => ?_
  simp only [W, seval, c37, h1]
  refine ARun.ret Tryz.func37 rfl (Left.empty ?_)
  exact ⟨rfl, rfl⟩
 refine b37.go 200 rfl fun _ => ?_
 simp only [W, seval, c37, h1]
 refine callS_fn (hns _) ?_
 rintro _ _ ⟨rfl, rfl⟩
 cases h2 : decide (t.names = u.names)
 ·refine ARun.go 200 ?_
  simp only [W, seval, c37, h2]
  refine ARun.ret Tryz.func37 rfl (Left.empty ?_)
  exact ⟨rfl, rfl⟩
 refine ARun.go 200 ?_
 simp only [W, seval, c37, h2]
 refine callS_fn (hty _) ?_
 rintro _ _ ⟨rfl, rfl⟩
 cases h3 : eqT t.type u.type
 ·refine ARun.go 200 ?_
  simp only [W, seval, c37, h3]
  refine ARun.ret Tryz.func37 rfl (Left.empty ?_)
  exact ⟨rfl, rfl⟩
 refine ARun.go 200 ?_
 simp only [W, seval, c37, h3]
 refine callS_fn (hle _ _) ?_
 rintro _ _ ⟨rfl, rfl⟩
 cases h4 : eqF eqE t.lefts u.lefts
 ·refine ARun.go 200 ?_
  simp only [W, seval, c37, h4]
  refine ARun.ret Tryz.func37 rfl (Left.empty ?_)
  exact ⟨rfl, rfl⟩
 refine ARun.go 200 ?_
 simp only [W, seval, c37, h4]
 refine callS_fn (hex _ _) ?_
 rintro _ _ ⟨rfl, rfl⟩
 cases h5 : eqF eqE t.exprs u.exprs
 ·refine ARun.go 200 ?_
  simp only [W, seval, c37, h5]
  refine ARun.ret Tryz.func37 rfl (Left.empty ?_)
  exact ⟨rfl, rfl⟩
 refine ARun.go 200 ?_
 simp only [W, seval, c37, h5]
 refine callS_fn (hbo _ _) ?_
 rintro _ _ ⟨rfl, rfl⟩
 cases h6 : eqF eqSt t.body u.body
 ·refine ARun.go 200 ?_
  simp only [W, seval, c37, h6]
  refine ARun.ret Tryz.func37 rfl (Left.empty ?_)
  exact ⟨rfl, rfl⟩
 refine ARun.go 200 ?_
 simp only [W, seval, c37, h6]
 refine callS_fn (hel _ _) ?_
 rintro _ _ ⟨rfl, rfl⟩
 cases h7 : eqF eqSt t.els u.els
 ·refine ARun.go 200 ?_
  simp only [W, seval, c37, h7]
  refine ARun.ret Tryz.func37 rfl (Left.empty ?_)
  exact ⟨rfl, rfl⟩
 refine ARun.go 200 ?_
 simp only [W, seval, c37, h7]
 refine callS_fn (hca _ _) ?_
 rintro _ _ ⟨rfl, rfl⟩
 refine ARun.go 200 ?_
 simp only [W, seval, c37]
 refine ARun.ret Tryz.func37 rfl (Left.empty ?_)
 exact ⟨rfl, rfl⟩
mutual
theorem sameStmt_ab : ∀ t : StT, SOkG t
 | .mk k ns ty ls es b e cs => sameStmt_step (.mk k ns ty ls es b e cs) (sameStmt_all b) (sameStmt_all e) (sameCase_all cs)
theorem sameStmt_all : ∀ (ts : List StT), ∀ x ∈ ts, SOkG x
 | [], _, h => absurd h List.not_mem_nil
 | y :: l, x, h => by
  rcases List.mem_cons.1 h with e | e
  ·rw [e]; exact sameStmt_ab y
  ·exact sameStmt_all l x e
theorem sameCase_all : ∀ (cs : List CaT), ∀ c ∈ cs, ∀ x ∈ c.body, SOkG x
 | [], _, h => absurd h List.not_mem_nil
 | .mk i b :: l, c, h => by
  rcases List.mem_cons.1 h with e | e
  ·rw [e]; exact sameStmt_all b
  ·exact sameCase_all l c e
end
def c30 := by
 have c := KK_of Tryz.f30 (by conv => lhs; cbv)
 dsimp only [KK, KxP, doO, opO, List.map_cons, List.map_nil, List.toList_toArray] at c
 exact c
theorem b30 : FnIs Tryz.prog 30 Tryz.f30 17 := ⟨Tryz.func30, by kernel_rfl⟩
def c32 := by
 have c := KK_of Tryz.f32 (by conv => lhs; cbv)
 dsimp only [KK, KxP, doO, opO, List.map_cons, List.map_nil, List.toList_toArray] at c
 exact c
theorem b32 : FnIs Tryz.prog 32 Tryz.f32 19 := ⟨Tryz.func32, by kernel_rfl⟩
def c34 := by
 have c := KK_of Tryz.f34 (by conv => lhs; cbv)
 dsimp only [KK, KxP, doO, opO, List.map_cons, List.map_nil, List.toList_toArray] at c
 exact c
theorem b34 : FnIs Tryz.prog 34 Tryz.f34 33 := ⟨Tryz.func34, by kernel_rfl⟩
def c10 := by
 have c := KK_of Tryz.f10 (by conv => lhs; cbv)
 dsimp only [KK, KxP, doO, opO, List.map_cons, List.map_nil, List.toList_toArray] at c
 exact c
theorem b10 : FnIs Tryz.prog 10 Tryz.f10 24 := ⟨Tryz.func10, by kernel_rfl⟩
set_option maxHeartbeats 1000000 in
theorem samePa_ab (x y : PaT) (S : Mem) : AFn Tryz.prog TabI 30 [paV x, paV y] S (Same (.d (.bool (eqPa x y))) S) := by
 refine AFn.same (v := .d (.bool (eqPa x y))) ?_ rfl rfl S
 unfold eqPa
 have hty := sameType_ab x.type y.type
 unfold tyV at hty
 unfold paV
 cases h1 : decide (x.name = y.name)
 ·refine b30.go 200 rfl fun _ => ?_
  simp only [W, seval, c30, h1]
  refine ARun.ret Tryz.func30 rfl (Left.empty ?_)
  exact ⟨rfl, rfl⟩
 refine b30.go 200 rfl fun _ => ?_
 simp only [W, seval, c30, h1]
 refine callS_fn (hty _) ?_
 rintro _ _ ⟨rfl, rfl⟩
 refine ARun.go 200 ?_
 simp only [W, seval, c30]
 refine ARun.ret Tryz.func30 rfl (Left.empty ?_)
 exact ⟨rfl, rfl⟩
set_option maxHeartbeats 1000000 in
theorem sameSu_ab (x y : SuT) (a : Nat) (B : List (List V)) (T : List (Nat × Nat)) (ha : B[a]? = some [.func 30 [] []]) : AFn Tryz.prog TabI 32 [suV x, suV y, .ptr a 0] ⟨B, T⟩ (Same (.d (.bool (eqSu x y))) ⟨B, T⟩) := by
 obtain ⟨N, hn⟩ : ∃ N, B.length = N := ⟨_, rfl⟩
 have hia : a < N := by have := (List.getElem?_eq_some_iff.1 ha).1; omega
 unfold eqSu
 have hpa := fun B T => equalFunc_Param 30 [] [] eqPa x.fields y.fields B T (fun p _ q _ J => samePa_ab p q _)
 unfold suV
 cases h1 : decide (x.name = y.name)
 ·refine b32.go 200 rfl fun hsm => ?_
  simp only [smw] at hsm
  simp only [W, seval, c32, h1, hn, hia, ha]
  refine ARun.ret Tryz.func32 rfl (Left.box ?_)
  exact ⟨rfl, rfl⟩
 refine b32.go 200 rfl fun hsm => ?_
 simp only [smw] at hsm
 simp only [W, seval, c32, h1, hn, hia, ha]
 refine callS_fn (hpa _ _) ?_
 rintro _ _ ⟨rfl, rfl⟩
 refine ARun.go 200 ?_
 simp only [W, seval, c32, hn, hia]
 refine ARun.ret Tryz.func32 rfl (Left.box ?_)
 exact ⟨rfl, rfl⟩
set_option maxHeartbeats 1000000 in
theorem sameFu_ab (x y : FuT) (a : Nat) (B : List (List V)) (T : List (Nat × Nat)) (ha : B[a]? = some [.func 30 [] []]) : AFn Tryz.prog TabI 34 [fuV x, fuV y, .ptr a 0] ⟨B, T⟩ (Same (.d (.bool (eqFu x y))) ⟨B, T⟩) := by
 obtain ⟨N, hn⟩ : ∃ N, B.length = N := ⟨_, rfl⟩
 have hia : a < N := by have := (List.getElem?_eq_some_iff.1 ha).1; omega
 unfold eqFu
 have hpa := fun B T => equalFunc_Param 30 [] [] eqPa x.params y.params B T (fun p _ q _ J => samePa_ab p q _)
 have hre := fun B T => equalFunc_Type 31 [] [] eqT x.results y.results B T (fun p _ q _ J => sameType_ab p q _)
 have hbo := fun B T => equalFunc_Stmt 37 [] [] eqSt x.body y.body B T (fun p _ q _ J => sameStmt_ab p q _)
 unfold fuV
 cases h1 : decide (x.name = y.name)
 ·refine b34.go 200 rfl fun hsm => ?_
  simp only [smw] at hsm
  simp only [W, seval, c34, h1, hn, hia, ha]
  refine ARun.ret Tryz.func34 rfl (Left.box ?_)
  exact ⟨rfl, rfl⟩
 refine b34.go 200 rfl fun hsm => ?_
 simp only [smw] at hsm
 simp only [W, seval, c34, h1, hn, hia, ha]
 refine callS_fn (hpa _ _) ?_
 rintro _ _ ⟨rfl, rfl⟩
 cases h2 : eqF eqPa x.params y.params
 ·refine ARun.go 200 ?_
  simp only [W, seval, c34, hn, hia, h2]
  refine ARun.ret Tryz.func34 rfl (Left.box ?_)
  exact ⟨rfl, rfl⟩
 refine ARun.go 200 ?_
 simp only [W, seval, c34, hn, hia, h2]
 refine callS_fn (hre _ _) ?_
 rintro _ _ ⟨rfl, rfl⟩
 cases h3 : eqF eqT x.results y.results
 ·refine ARun.go 200 ?_
  simp only [W, seval, c34, hn, hia, h3]
  refine ARun.ret Tryz.func34 rfl (Left.box ?_)
  exact ⟨rfl, rfl⟩
 refine ARun.go 200 ?_
 simp only [W, seval, c34, hn, hia, h3]
 refine callS_fn (hbo _ _) ?_
 rintro _ _ ⟨rfl, rfl⟩
 refine ARun.go 200 ?_
 simp only [W, seval, c34, hn, hia]
 refine ARun.ret Tryz.func34 rfl (Left.box ?_)
 exact ⟨rfl, rfl⟩
set_option maxHeartbeats 1000000 in
theorem same_ab (p q : PrT) (S : Mem) : AFn Tryz.prog TabI 10 [prV p, prV q] S (Same (.d (.bool (eqPr p q))) S) := by
 refine AFn.same (v := .d (.bool (eqPr p q))) ?_ rfl rfl S
 unfold eqPr
 have hsu := fun B T (h : ∀ J, (B ++ J)[2]? = some [.func 30 [] []]) => equalFunc_Struct 32 [] [.ptr 2 0] eqSu p.structs q.structs B T (fun x _ y _ J => sameSu_ab x y 2 _ T (h J))
 have hfu := fun B T (h : ∀ J, (B ++ J)[2]? = some [.func 30 [] []]) => equalFunc_Func 34 [] [.ptr 2 0] eqFu p.funcs q.funcs B T (fun x _ y _ J => sameFu_ab x y 2 _ T (h J))
 unfold prV
 refine b10.go 200 rfl fun _ => ?_
 simp only [W, seval, c10]
 refine callS_fn (hsu _ _ (fun J => rfl)) ?_
 rintro _ _ ⟨rfl, rfl⟩
 cases h2 : eqF eqSu p.structs q.structs
 ·refine ARun.go 200 ?_
  simp only [W, seval, c10, h2]
  refine ARun.ret Tryz.func10 rfl (Left.empty ?_)
  exact ⟨rfl, rfl⟩
 refine ARun.go 200 ?_
 simp only [W, seval, c10, h2]
 refine callS_fn (hfu _ _ (fun J => rfl)) ?_
 rintro _ _ ⟨rfl, rfl⟩
 refine ARun.go 200 ?_
 simp only [W, seval, c10]
 refine ARun.ret Tryz.func10 rfl (Left.empty ?_)
 exact ⟨rfl, rfl⟩
set_option linter.unusedVariables false
def c4 := by
 have c := KK_of Tryz.f4 (by conv => lhs; cbv)
 dsimp only [KK, KxP, doO, opO, List.map_cons, List.map_nil, List.toList_toArray] at c
 exact c
theorem b4 : FnIs Tryz.prog 4 Tryz.f4 60 := ⟨Tryz.func4, by kernel_rfl⟩
mutual
theorem eqT_self : ∀ t : TyT, eqT t t = true
 | .mk k n es => by
  rw [eqT, eqTs_self es]
  simp
theorem eqTs_self : ∀ l : List TyT, eqTs l l = true
 | [] => by rw [eqTs]
 | t :: l => by
  rw [eqTs, eqT_self t, eqTs_self l]
  rfl
end
mutual
theorem eqE_self : ∀ x : ExT, eqE x x = true
 | .mk k t i ty ns ks => by
  rw [eqE, eqT_self ty, eqEs_self ks]
  simp
theorem eqEs_self : ∀ l : List ExT, eqEs l l = true
 | [] => by rw [eqEs]
 | t :: l => by
  rw [eqEs, eqE_self t, eqEs_self l]
  rfl
end
mutual
theorem eqSt_self : ∀ x : StT, eqSt x x = true
 | .mk k ns ty ls es b e cs => by
  rw [eqSt, eqT_self ty, eqEs_self ls, eqEs_self es, eqSts_self b, eqSts_self e, eqCas_self cs]
  simp
theorem eqSts_self : ∀ l : List StT, eqSts l l = true
 | [] => by rw [eqSts]
 | t :: l => by
  rw [eqSts, eqSt_self t, eqSts_self l]
  rfl
theorem eqCa_self : ∀ c : CaT, eqCa c c = true
 | .mk i b => by
  rw [eqCa, eqSts_self b]
  simp
theorem eqCas_self : ∀ l : List CaT, eqCas l l = true
 | [] => by rw [eqCas]
 | t :: l => by
  rw [eqCas, eqCa_self t, eqCas_self l]
  rfl
end
theorem eqF_self {α : Type} (e : α → α → Bool) (h : ∀ x, e x x = true) : ∀ l : List α, eqF e l l = true
 | [] => rfl
 | x :: l => by
  rw [eqF, h x, eqF_self e h l]
  rfl
theorem eqPr_self (p : PrT) : eqPr p p = true := by
 have hpa : ∀ x, eqPa x x = true := fun x => by simp [eqPa, eqT_self]
 have hsu : ∀ x, eqSu x x = true := fun x => by simp [eqSu, eqF_self _ hpa]
 have hfu : ∀ x, eqFu x x = true := fun x => by simp [eqFu, eqF_self _ hpa, eqF_self _ eqT_self, eqF_self _ eqSt_self]
 simp [eqPr, eqF_self _ hsu, eqF_self _ hfu]
set_option maxHeartbeats 4000000 in
theorem one_ab (bs : List UInt8) : AFn Tryz.prog TabI 4 [.d (.sl (byD bs))] ⟨[], []⟩ (fun v _ => v = .d (.bool true)) := by
 have hlen : (byD bs).length = bs.length := by simp [byD]
 have hbs : ∀ s, fromBytes (byD s) = some s := fun s => fromBytes_map s
 by_cases hl : bs.length ≤ 2500
 case neg =>
  have e := decide_eq_true (show (2500 : Int) < (bs.length : Int) by omega)
  refine b4.go 30 rfl fun hsm => ?_
  simp only [smw] at hsm
  simp only [W, seval, c4, hlen, e]
  refine callS_fn (works26_ab _) ?_
  rintro _ _ ⟨rfl, rfl⟩
  refine ARun.go 60 ?_
  simp only [W, seval, c4, hlen, e]
  refine ARun.ret Tryz.func4 rfl (Left.empty ?_)
  exact rfl
 have e := decide_eq_false (show ¬ (2500 : Int) < (bs.length : Int) by omega)
 have h1 := fun (S : Mem) => parseP_ab bs trivial (by omega) (2 * bs.length + 5) (by omega) S.boxes S.toks
 by_cases he : (finP rgP (2 * bs.length + 5) (startS bs)).2 = 0
 case neg =>
  generalize finP rgP (2 * bs.length + 5) (startS bs) = r at h1 he
  obtain ⟨p, x⟩ := r
  dsimp only at h1 he
  have ex := decide_eq_false he
  unfold prV at h1
  refine b4.go 30 rfl fun hsm => ?_
  simp only [smw] at hsm
  simp only [W, seval, c4, hlen, e]
  refine callS_fn (works26_ab _) ?_
  rintro _ _ ⟨rfl, rfl⟩
  refine ARun.go 60 ?_
  simp only [W, seval, c4, hlen, e]
  refine callS_fn (h1 ⟨[], []⟩) ?_
  rintro _ _ ⟨rfl, rfl⟩
  refine ARun.go 60 ?_
  simp only [W, seval, c4, ex]
  refine ARun.ret Tryz.func4 rfl (Left.empty ?_)
  exact rfl
 obtain ⟨p, hf, hok, hr, hback⟩ := parsed_ok (rg := rgP) (fun p h => ⟨_, h⟩) he
 have hpl := fin_len hf hok (Nat.le_refl _)
 have hp4 : (prT' p).length ≤ 400000 := by omega
 have h2 := fun (S : Mem) => gprog_ab (p := p) (fun _ => hok) (by unfold mostW; omega) S
 have h3 := fun (S : Mem) => parseP_ab (prT' p) trivial hp4 ((prT' p).length + 5) (Nat.le_refl _) S.boxes S.toks
 rw [hback _ (by omega)] at h3
 rw [hf] at h1
 have ho : outT (prT' p) = (prT' p, 0) := by unfold outT; rw [if_neg (by omega)]
 rw [ho] at h2
 simp only [hr, if_true] at h2
 have h4 := fun (S : Mem) => same_ab p p S
 rw [eqPr_self] at h4
 generalize prT' p = w at h2 h3
 dsimp only at h1 h3
 unfold prV at h1 h2 h3 h4
 refine b4.go 30 rfl fun hsm => ?_
 simp only [smw] at hsm
 simp only [W, seval, c4, hlen, e]
 refine callS_fn (works26_ab _) ?_
 rintro _ _ ⟨rfl, rfl⟩
 refine ARun.go 60 ?_
 simp only [W, seval, c4, hlen, e]
 refine callS_fn (h1 ⟨[], []⟩) ?_
 rintro _ _ ⟨rfl, rfl⟩
 refine ARun.go 60 ?_
 simp only [W, seval, c4]
 refine callS_fn (h2 _) ?_
 rintro _ _ ⟨rfl, rfl⟩
 refine ARun.go 60 ?_
 simp only [W, seval, c4]
 refine callS_fn (h3 ⟨_, _⟩) ?_
 rintro _ _ ⟨rfl, rfl⟩
 refine ARun.go 60 ?_
 simp only [W, seval, c4]
 refine callS_fn (h2 _) ?_
 rintro _ _ ⟨rfl, rfl⟩
 refine ARun.go 60 ?_
 simp only [W, seval, c4]
 refine callS_fn (h4 _) ?_
 rintro _ _ ⟨rfl, rfl⟩
 refine ARun.go 60 ?_
 simp only [W, seval, c4, hbs]
 refine ARun.ret Tryz.func4 rfl (Left.empty ?_)
 exact rfl
end Go.Proofs.YtfaoamebphckbaaGreatDoor
namespace Go.Ab
open Go.ChangeShapes Go.WideShapes Go.ChangeAt Go.RowKit Go.Av
def wfFs (T : TypeId → List D → Prop) : List Field → List D → Prop
 | [], ds => ds = []
 | f :: fs, ds => ∃ a b, ds = a ++ b ∧ T f.type a ∧ wfFs T fs b
def wfT (P : Program) : Nat → TypeId → List D → Prop
 | 0, _, _ => False
 | n + 1, t, ds => match P.underlying t with
  | some .bool => ∃ b, ds = [.bool b]
  | some (.int k) => ∃ m, ds = [.int k m] ∧ (Lit.int k m).wf = true
  | some .string => ∃ s, ds = [.str s] ∧ s.length ≤ 9223372036854775807
  | some (.slice e) => ∃ rows, ds = [.sl rows] ∧ rows.length ≤ 9223372036854775807 ∧ ∀ r ∈ rows, wfT P n e r
  | some (.struct fs) => wfFs (wfT P n) fs.toList ds
  | _ => False
def offsOf (P : Program) : List Field → Nat → Option Nat
 | [], o => some o
 | f :: fs, o => if f.offset = o then offsOf P fs (o + P.cellsOf f.type) else none
def plainT (P : Program) (L : List TypeId) (t : TypeId) : Bool :=
 match P.underlying t with
 | some .bool => true
 | some (.int _) => true
 | some .string => true
 | some (.slice e) => L.contains e && decide (0 < P.cellsOf e)
 | some (.struct fs) => fs.toList.all (fun f => L.contains f.type) && offsOf P fs.toList 0 == some (P.cellsOf t)
 | _ => false
theorem list_of2 {α : Type} (Q : Nat → α → Prop) : ∀ len : Nat, (∀ i < len, ∃ a, Q i a) → ∃ l : List α, l.length = len ∧ ∀ i (hi : i < l.length), Q i l[i]
 | 0, _ => ⟨[], rfl, fun i hi => by cases hi⟩
 | n + 1, h => by
  obtain ⟨l, hl, hq⟩ := list_of2 Q n (fun i hi => h i (by omega))
  obtain ⟨a, ha⟩ := h n (by omega)
  refine ⟨l ++ [a], by simp [hl], fun i hi => ?_⟩
  by_cases hin : i < l.length
  ·rw [List.getElem_append_left hin]
   exact hq i hin
  ·have : i = n := by simp at hi; omega
   subst this
   have hla : (l ++ [a])[i]'hi = a := by
    rw [List.getElem_append_right (by omega)]
    simp
   rw [hla]
   exact ha
theorem cell_in2 {w : World} {a : Addr} {v : Value} (h : w.cell? a = some v) : a.block < w.heap.size ∧ a.spot = none := by
 unfold World.cell? at h
 cases hb : w.heap[a.block]? with
 | none => rw [hb] at h; cases h
 | some o =>
  refine ⟨(Array.getElem?_eq_some_iff.1 hb).1, ?_⟩
  rw [hb] at h
  cases o <;> simp at h
  obtain ⟨h1, _⟩ := h
  exact h1
section
variable {P : Program} {H : Type} {enc : TypeId × Value → H} {W : World} {sp : Nat → Bool} {held : Bool}
abbrev NewM (W : World) : Nat → Nat → Prop := fun g _ => W.heap.size ≤ g
def Opened (P : Program) (W : World) (n : Nat) (t : TypeId) (cs : List Value) (ds : List D) : Prop := wfT P n t ds ∧ ds.length = cs.length ∧ ∀ j (h : j < ds.length), DR (NewM W) W ds[j] (cs.getD j undef)
theorem open_fields (n : Nat) (cs : List Value) : ∀ (l : List Field) (o : Nat), offsOf P l o = some cs.length →
 (∀ f ∈ l, ∃ ds, Opened P W n f.type ((cs.drop f.offset).take (P.cellsOf f.type)) ds) → o ≤ cs.length ∧ ∃ ds, wfFs (wfT P n) l ds ∧ ds.length = cs.length - o ∧ ∀ j (h : j < ds.length), DR (NewM W) W ds[j] (cs.getD (o + j) undef)
 | [], o, h, _ => by
  have : o = cs.length := Option.some.inj h
  exact ⟨by omega, [], rfl, by simp; omega, fun j h => by simp at h⟩
 | f :: fs, o, h, hf => by
  unfold offsOf at h
  split at h
  case isFalse => cases h
  rename_i ho
  obtain ⟨a, a1, a2, a3⟩ := hf f List.mem_cons_self
  obtain ⟨b0, b, b1, b2, b3⟩ := open_fields n cs fs _ h fun g hg => hf g (List.mem_cons_of_mem _ hg)
  rw [ho] at a2 a3
  have ha : a.length = P.cellsOf f.type := by rw [a2, List.length_take, List.length_drop]; omega
  refine ⟨by omega, a ++ b, ⟨a, b, rfl, a1, b1⟩, by rw [List.length_append, b2]; omega, fun j hj => ?_⟩
  rcases Nat.lt_or_ge j a.length with hlt | hge
  ·rw [List.getElem_append_left hlt]
   have := a3 j hlt
   rw [List.getD_eq_getElem?_getD, List.getElem?_take, if_pos (by omega), List.getElem?_drop] at this
   rw [List.getD_eq_getElem?_getD]
   exact this
  ·rw [List.getElem_append_right hge]
   have := b3 (j - a.length) (by rw [List.length_append] at hj; omega)
   rw [show o + P.cellsOf f.type + (j - a.length) = o + j by omega] at this
   exact this
theorem open_D (L : List TypeId) (hL : L.all (plainT P L) = true) : ∀ (fuel : Nat) (t : TypeId) (cs : List Value) (y : DataW H × List MemPlace), L.contains t = true → DataW.trod enc P W 0 sp held fuel t cs = some y → ∃ ds, Opened P W fuel t cs ds := by
 intro fuel
 induction fuel with
 | zero => intro t cs y _ h; simp [DataW.trod] at h
 | succ n ih =>
  intro t cs y ht h
  have hpl := List.all_eq_true.1 hL t (List.contains_iff_mem.1 ht)
  unfold plainT at hpl
  split at hpl
  ·rename_i hu
   obtain ⟨b, rfl, _⟩ := DataW.trod_bool hu h
   refine ⟨[.bool b], ?_, rfl, fun j hj => ?_⟩
   ·simp only [wfT, hu]; exact ⟨b, rfl⟩
   ·have : j = 0 := by simp at hj; exact hj
    subst this; exact .bool b
  ·rename_i k hu
   obtain ⟨m, rfl, _, hw⟩ := DataW.trod_int hu h
   refine ⟨[.int k m], ?_, rfl, fun j hj => ?_⟩
   ·simp only [wfT, hu]; exact ⟨m, rfl, hw⟩
   ·have : j = 0 := by simp at hj; exact hj
    subst this; exact .int k m
  ·rename_i hu
   obtain ⟨s, rfl, _, hs⟩ := DataW.trod_string hu h
   have hsl : s.data.toList.length ≤ 9223372036854775807 := by
    have : s.data.toList.length = s.size := by rw [Array.length_toList]; rfl
    rw [this]
    exact hs
   refine ⟨[.str s.data.toList], ?_, rfl, fun j hj => ?_⟩
   ·simp only [wfT, hu]; exact ⟨_, rfl, hsl⟩
   ·have : j = 0 := by simp at hj; exact hj
    subst this
    have := DR.str (M := NewM W) (w := W) s.data.toList hsl
    exact this
  ·rename_i e hu
   simp only [Bool.and_eq_true, decide_eq_true_eq] at hpl
   obtain ⟨he, hpos⟩ := hpl
   rcases DataW.trod_slice hu h with ⟨rfl, _⟩ | ⟨a, len, cap, elems, rest, n', hn', rfl, _, _, hlc, hcm, hel, hq, _⟩
   ·refine ⟨[.sl []], ?_, rfl, fun j hj => ?_⟩
    ·simp only [wfT, hu]; exact ⟨[], rfl, by simp, by simp⟩
    ·have : j = 0 := by simp at hj; exact hj
     subst this
     exact .sl [] 1 none 0 (fun _ _ => undef) (by omega) (by simp) (by simp) (by omega) (fun h => absurd rfl h) (fun j h => by simp at h)
   ·obtain rfl : n = n' := by omega
    obtain ⟨rows, hrl, hrq⟩ := list_of2 (fun i (ds : List D) => ∃ ci, W.cells? 0 (a.add (i * P.cellsOf e)) (P.cellsOf e) = some ci ∧ Opened P W n e ci ds) len (fun i hi => by
     have hqi := hq i hi
     rw [List.getElem?_eq_getElem (by omega), Option.bind_eq_some_iff] at hqi
     obtain ⟨ci, hci, hti⟩ := hqi
     obtain ⟨ds, hds⟩ := ih e ci _ he hti
     exact ⟨ds, ci, hci, hds⟩)
    subst hrl
    have hci : ∀ i (hi : i < rows.length), (rows[i]).length = P.cellsOf e ∧ ∀ q (h : q < (rows[i]).length), ∃ v, W.cell? (a.add (i * P.cellsOf e + q)) = some v ∧ DR (NewM W) W (rows[i])[q] v := by
     intro i hi
     obtain ⟨ci, h1, h2, h3, h4⟩ := hrq i hi
     have h5 := World.cells?_some h1
     have hlen : ci.length = P.cellsOf e := h5.2.1
     refine ⟨by omega, fun q hq => ?_⟩
     have h6 := h5.2.2 q (by omega)
     rw [Addr.add_add] at h6
     refine ⟨ci[q]'(by omega), by rw [h6]; simp, ?_⟩
     have h7 := h4 q hq
     rw [List.getD_eq_getElem?_getD, List.getElem?_eq_getElem (by omega)] at h7
     exact h7
    refine ⟨[.sl rows], ?_, rfl, fun j hj => ?_⟩
    ·simp only [wfT, hu]
     refine ⟨rows, rfl, by have : maxLen = 9223372036854775807 := rfl; omega, fun r hr => ?_⟩
     obtain ⟨i, hi, rfl⟩ := List.mem_iff_getElem.1 hr
     obtain ⟨ci, _, h2, _⟩ := hrq i hi
     exact h2
    ·have : j = 0 := by simp at hj; exact hj
     subst this
     have haddr : rows ≠ [] → a.block < W.heap.size ∧ a.spot = none := by
      intro hne
      have h0 : 0 < rows.length := by
       rcases Nat.eq_zero_or_pos rows.length with e' | e'
       ·exact absurd (List.eq_nil_of_length_eq_zero e') hne
       ·exact e'
      obtain ⟨hl0, hc0⟩ := hci 0 h0
      obtain ⟨v, hv, _⟩ := hc0 0 (by omega)
      rw [show a.add (0 * P.cellsOf e + 0) = a by rw [Nat.zero_mul]; rfl] at hv
      exact cell_in2 hv
     have := DR.sl (M := NewM W) (w := W) rows (P.cellsOf e) (some a) cap (fun i q => (W.cell? (a.add (i * P.cellsOf e + q))).getD undef) hpos (fun r hr => by
      obtain ⟨i, hi, rfl⟩ := List.mem_iff_getElem.1 hr
      exact (hci i hi).1) hlc (by have : maxLen = 9223372036854775807 := rfl; omega) (fun hne => by
      obtain ⟨h1, h2⟩ := haddr hne
      obtain ⟨g, off, spot⟩ := a
      simp only at h1 h2
      subst h2
      refine ⟨g, off, rfl, fun j hj q hq => ⟨by show ¬ W.heap.size ≤ g; omega, ?_⟩⟩
      obtain ⟨v, hv, _⟩ := (hci j hj).2 q hq
      rw [hv]
      rw [Addr.add_plain, ← Nat.add_assoc] at hv
      exact hv) (fun j hj q hq => by
      obtain ⟨v, hv, hd⟩ := (hci j hj).2 q hq
      rw [hv]
      exact hd)
     exact this
  ·rename_i fs hu
   simp only [Bool.and_eq_true] at hpl
   obtain ⟨hfs, hoff⟩ := hpl
   obtain ⟨xs, n', hn', _, hl, hxl, hf⟩ := DataW.trod_struct hu h
   obtain rfl : n = n' := by omega
   have hoff' : offsOf P fs.toList 0 = some cs.length := by rw [hl]; exact eq_of_beq hoff
   obtain ⟨_, ds, h1, h2, h3⟩ := open_fields (W := W) n cs fs.toList 0 hoff' (fun f hfm => by
    obtain ⟨i, hi, rfl⟩ := List.mem_iff_getElem.1 hfm
    have hi' : i < fs.size := by simpa using hi
    have := hf i fs[i] (by simp [hi'])
    rw [List.getElem?_eq_getElem (by omega)] at this
    exact ih _ _ _ (List.all_eq_true.1 hfs _ hfm) this)
   refine ⟨ds, ?_, by omega, fun j hj => ?_⟩
   ·simp only [wfT, hu]; exact h1
   ·have := h3 j hj
    rwa [Nat.zero_add] at this
  ·cases hpl
end
def cx0 (W : World) (I : Inv) : Cx := ⟨W.heap.size, [], [], I, fun _ _ => False, fun _ _ h => h.elim⟩
theorem DR.first {W : World} {I : Inv} {x : D} {v : Value} (h : DR (NewM W) W x v) : DR (cx0 W I).M W x v := h.mono fun g k v _ hv => ⟨by
 rintro ((hm | hm) | ⟨t, i, off, ht, _⟩)
 ·exact hm
 ·simp [cx0] at hm
 ·simp [cx0] at ht, hv⟩
theorem Rep.first {W : World} {I : Inv} (h2 : I.top ≤ W.heap.size) (hI : ∀ w', Below W.heap.size W w' → I.holds w') : Rep (cx0 W I) W ⟨[], []⟩ :=
 ⟨⟨h2, Nat.le_refl _⟩, rfl, fun i b h => by simp [cx0] at h, fun i j b h => by simp [cx0] at h, rfl, fun t i h => by simp [cx0] at h, fun t t' i i' g off off' h => by simp [cx0] at h, hI⟩
theorem first_one {P : Program} {W : World} {I : Inv} {n : Nat} {t : TypeId} {v : Value} {d : D} (h : Opened P W n t [v] [d]) : VR (cx0 W I) W (.d d) v := .d _ _ (h.2.2 0 (by simp)).first
theorem AFn.law {P : Program} {I : Inv} {f : FuncId} {args : List V} {b : Bool} (h : AFn P I f args ⟨[], []⟩ (fun v _ => v = .d (.bool b))) {W : World} {xs : Array Value} (h2 : I.top ≤ W.heap.size) (hI : ∀ w', Below W.heap.size W w' → I.holds w') (hs : xs.size = args.length) (hv : ∀ j (h : j < args.length), VR (cx0 W I) W args[j] (xs.getD j undef)) :
 Calls P f xs W fun e w' => e = .returned (.bool b) ∧ Below W.heap.size W w' := by
 refine (h.2 (cx0 W I) W xs hs hv (.first h2 hI) rfl).mono ?_
 rintro e w' ⟨v, x, S', c', rfl, rfl, _, hx, hvr⟩
 cases hvr with
 | d _ _ hd => cases hd with
  | bool _ => exact ⟨rfl, hx.below⟩
end Go.Ab
namespace Go.Proofs.YtfaoamebphckbaaGreatDoor
open Go.RowKit Go.Av Go.Ab
set_option maxRecDepth 100000
def byL : List TypeId := [28, 5]
theorem byL_ok : byL.all (plainT Tryz.prog byL) = true := by kernel_rfl
theorem wf_byte {n : Nat} {r : List D} (h : wfT Tryz.prog n 5 r) : ∃ b : UInt8, r = byteRow b := by
 cases n with
 | zero => exact h.elim
 | succ n =>
  unfold wfT at h
  rw [Tryz.underlying5] at h
  obtain ⟨m, rfl, hm⟩ := h
  have h1 : IntKind.u8.min = 0 ∧ IntKind.u8.max = 255 := by decide
  simp only [Lit.wf, h1, Bool.and_eq_true, decide_eq_true_eq] at hm
  refine ⟨UInt8.ofNat m.toNat, ?_⟩
  have : ((UInt8.ofNat m.toNat).toNat : Int) = m := by rw [UInt8.toNat_ofNat']; omega
  unfold byteRow
  rw [this]
theorem wf_bytes {n : Nat} {ds : List D} (h : wfT Tryz.prog n 28 ds) : ∃ bs : List UInt8, ds = [.sl (byD bs)] := by
 cases n with
 | zero => exact h.elim
 | succ n =>
  unfold wfT at h
  rw [Tryz.underlying28] at h
  obtain ⟨rows, rfl, hl0, hr⟩ := h
  clear hl0
  have : ∃ l : List UInt8, rows = l.map byteRow := by
   induction rows with
   | nil => exact ⟨[], rfl⟩
   | cons r rows ihr =>
    obtain ⟨x, hx⟩ := wf_byte (hr r List.mem_cons_self)
    obtain ⟨l, hl⟩ := ihr fun y hy => hr y (List.mem_cons_of_mem _ hy)
    exact ⟨x :: l, by rw [hx, hl]; rfl⟩
  obtain ⟨l, rfl⟩ := this
  exact ⟨l, rfl⟩
end Go.Proofs.YtfaoamebphckbaaGreatDoor
namespace Go.Proofs.YtfaoamebphckbaaGreatDoor
open Go.ChangeShapes Go.WideShapes Go.ChangeAt Go.RowKit Go.Av
theorem laidOut : laidOutB Tryz.prog = true := by kernel_rfl
theorem kept_arg {H : Type} {enc : TypeId × Value → H} {t : TypeId} {W W' : World} {v : Value} {d : DataW H} {ps : List MemPlace} (hr : Tryz.prog.readableRec t = true) (hrow : t < Tryz.prog.types.size)
 (h : DataW.Trod enc Tryz.prog W 0 (fun _ => true) true t v d ps) (hb : Below W.heap.size W W') (hlt : ∀ x ∈ ps, x.block < W.heap.size) : DataW.Trod enc Tryz.prog W' 0 (fun b => decide (b < W.heap.size)) true t v d ps :=
 Below.trod laidOut hr hrow h hb hlt
end Go.Proofs.YtfaoamebphckbaaGreatDoor
namespace Go.Av
def textData {H : Type} (zs : List (List UInt8)) : DataW H := .agg (zs.map fun z => .lit (.string z))
theorem cells_of_texts {H : Type} {enc : TypeId × Value → H} {P : Program} {w : World} {base : Nat} {sp : Nat → Bool} {held : Bool} {fuel : Nat} {t e : TypeId} {n : Nat} {cs : List Value} {zs : List (List UInt8)} {p : List MemPlace}
 (ht : P.underlying t = some (.array n e)) (he : P.underlying e = some .string) (hce : P.cellsOf e = 1) (hct : P.cellsOf t = n)
 (h : DataW.trod enc P w base sp held fuel t cs = some (textData zs, p)) : cs = zs.map fun z => Value.string ⟨z.toArray⟩ := by
 cases fuel with
 | zero => simp [DataW.trod] at h
 | succ fuel =>
  simp only [DataW.trod, ht, hce, hct, Nat.mul_one] at h
  split at h
  ·rename_i hl
   obtain ⟨xs, hm, hx⟩ := Option.map_eq_some_iff.1 h
   have hxs : xs.map (·.1) = zs.map fun z => (DataW.lit (.string z) : DataW H) := by
    have := congrArg Prod.fst hx
    simpa [textData] using this
   have hxl : xs.length = n := by simpa using Lib.mapM_length hm
   have hzl : zs.length = n := by
    have := congrArg List.length hxs
    simp at this
    omega
   apply List.ext_getElem?
   intro i
   by_cases hi : i < n
   ·obtain ⟨b, hb, hf⟩ := Lib.mapM_at hm i i (by simp [hi])
    obtain ⟨z, hc, rfl, _⟩ := DataW.trod_string he hf
    have h1 : cs[i]? = some (.string z) := by
     have := congrArg (·[0]?) hc
     simpa [List.getElem?_take, List.getElem?_drop] using this
    have h2 : (xs.map (·.1))[i]? = some (DataW.lit (.string z.data.toList) : DataW H) := by simp [hb]
    rw [hxs] at h2
    simp only [List.getElem?_map, Option.map_eq_some_iff, DataW.lit.injEq, Lit.string.injEq] at h2
    obtain ⟨z', hz', e⟩ := h2
    have ez : z = ⟨z'.toArray⟩ := by
     apply ByteArray.ext
     rw [e]
    simp [h1, hz', ez]
   ·rw [List.getElem?_eq_none (by omega), List.getElem?_eq_none (by simp; omega)]
  ·cases h
theorem texts_of_vars {P : Program} {W : World} {name : String} {zs : List (List UInt8)} {rest : List (String × DataW Unit)} {ps : List MemPlace} {g : Nat} {t e : TypeId} {n : Nat}
 (hg : P.globalNamed name = some g) (hty : (P.globals[g]?).map (·.type) = some t) (ht : P.underlying t = some (.array n e)) (he : P.underlying e = some .string) (hce : P.cellsOf e = 1) (hct : P.cellsOf t = n)
 (h : DataW.LaidVars P W ((name, textData zs) :: rest) ps) : (∃ u fr, W.heap[g]? = some (.cells (zs.map fun z => Value.string ⟨z.toArray⟩).toArray u fr)) ∧ ∃ q, DataW.LaidVars P W rest q := by
 obtain ⟨g', t', cs, fuel, p, q, hg', ht', hvar, hd, hr, _⟩ := h
 obtain rfl := Option.some.inj (hg.symm.trans hg')
 obtain rfl := Option.some.inj (hty.symm.trans ht')
 refine ⟨?_, q, hr⟩
 have hcs := cells_of_texts ht he hce hct hd
 have ecs : cs = (zs.map fun z => Value.string ⟨z.toArray⟩).toArray := by rw [← hcs]
 unfold World.var? at hvar
 rw [hg, Option.bind_some] at hvar
 split at hvar
 ·rename_i c u fr hh
  obtain rfl := Option.some.inj hvar
  exact ⟨u, fr, by rw [hh, ecs]⟩
 ·cases hvar
theorem rest_of_vars {P : Program} {W : World} {x : String × DataW Unit} {rest : List (String × DataW Unit)} {ps : List MemPlace} (h : DataW.LaidVars P W (x :: rest) ps) : ∃ q, DataW.LaidVars P W rest q := by
 obtain ⟨_, _, _, _, _, q, _, _, _, _, hr, _⟩ := h
 exact ⟨q, hr⟩
theorem nums_of_vars {P : Program} {W : World} {name : String} {k : IntKind} {zs : List Int} {rest : List (String × DataW Unit)} {ps : List MemPlace} {g : Nat} {t e : TypeId} {n : Nat}
 (hg : P.globalNamed name = some g) (hty : (P.globals[g]?).map (·.type) = some t) (ht : P.underlying t = some (.array n e)) (he : P.underlying e = some (.int k)) (hce : P.cellsOf e = 1) (hct : P.cellsOf t = n)
 (h : DataW.LaidVars P W ((name, Lib.tabData k zs) :: rest) ps) : (∃ u fr, W.heap[g]? = some (.cells (zs.map fun z => Value.int k z).toArray u fr)) ∧ ∃ q, DataW.LaidVars P W rest q := by
 obtain ⟨g', t', cs, fuel, p, q, hg', ht', hvar, hd, hr, _⟩ := h
 obtain rfl := Option.some.inj (hg.symm.trans hg')
 obtain rfl := Option.some.inj (hty.symm.trans ht')
 refine ⟨?_, q, hr⟩
 have hcs := Lib.cells_of_tab ht he hce hct hd
 have ecs : cs = (zs.map fun z => Value.int k z).toArray := by rw [← hcs]
 unfold World.var? at hvar
 rw [hg, Option.bind_some] at hvar
 split at hvar
 ·rename_i c u fr hh
  obtain rfl := Option.some.inj hvar
  exact ⟨u, fr, by rw [hh, ecs]⟩
 ·cases hvar
end Go.Av
namespace Go.Proofs.YtfaoamebphckbaaGreatDoor.goprintOne
open Go.ChangeShapes Go.WideShapes Go.ChangeAt Go.RowKit Go.Av Go.Ab
open Go.ChangeMaps (open_string shut_string)
set_option linter.unusedVariables false
theorem own : ownKnob Tryz.prog.godebug = none := by kernel_rfl
theorem tab {W : World} (h : laidMetH Tryz.prog Rows.goprintOneRow.laid W) : Tabs W := by
 have h' : laidMet Tryz.prog Rows.goprintOneRow.laid W := h
 obtain ⟨ps, hv, _⟩ := h'
 obtain ⟨_, hv⟩ := rest_of_vars hv
 obtain ⟨_, hv⟩ := rest_of_vars hv
 obtain ⟨⟨u0, fr0, h0⟩, _, hv⟩ := nums_of_vars (k := .u64) (zs := (List.range 20).map fun i => ((10 ^ i : Nat) : Int)) (g := 2) (t := 187) (e := 39) (n := 20) (by kernel_rfl) (by kernel_rfl) Tryz.underlying187 Tryz.underlying39 (by kernel_rfl) (by kernel_rfl) hv
 obtain ⟨⟨u, fr, h1⟩, ps2, hv2⟩ := texts_of_vars (zs := signsL) (g := 0) (t := 164) (e := 9) (n := 29) (by kernel_rfl) (by kernel_rfl) Tryz.underlying164 Tryz.underlying9 (by kernel_rfl) (by kernel_rfl) hv
 obtain ⟨⟨u2, fr2, h2⟩, _⟩ := texts_of_vars (zs := keysL) (g := 1) (t := 182) (e := 9) (n := 22) (by kernel_rfl) (by kernel_rfl) Tryz.underlying182 Tryz.underlying9 (by kernel_rfl) (by kernel_rfl) hv2
 exact ⟨⟨u, fr, h1⟩, ⟨u2, fr2, h2⟩, ⟨u0, fr0, by rw [h0, List.map_map]; rfl⟩⟩
noncomputable def laidWorld (os : Os) : World := World.laidAll Tryz.prog os Rows.goprintOneRow.laid
theorem laid_met (os : Os) : laidMet Tryz.prog Rows.goprintOneRow.laid ((laidWorld os).forCall (fun _ _ => 0) ⟨#[], #[Value.slice none 0 0], []⟩).memory :=
 laidMet_laidAll _ (by kernel_rfl) (by kernel_rfl)
theorem reads (os : Os) {H : Type} (enc : TypeId × Value → H) : ∃ places, DataW.whole enc Tryz.prog ((laidWorld os).forCall (fun _ _ => 0) ⟨#[], #[Value.slice none 0 0], []⟩).memory Tryz.f4.params.toList Rows.goprintOneSpec.vars false #[Value.slice none 0 0].toList 8 = some ([.nil], [], places) :=
 ⟨[], by kernel_rfl⟩
set_option maxRecDepth 100000 in
theorem lifted (os : Os) (started : os.Started) (H : Type) (enc : TypeId × Value → H) (F : Stop.Interp) :
 ReturnsInHanded {} Tryz.checked os 4 .any ((OpenSpec.ofChange Rows.goprintOneSpec).preRow enc Tryz.prog Tryz.f4 Rows.goprintOneRow.domain false Rows.goprintOneRow.laid) (((OpenSpec.ofChange Rows.goprintOneSpec).at F).post enc Tryz.prog Tryz.f4 false true false false) := by
 obtain ⟨places, hx⟩ := reads os enc
 refine returnsInHanded_of_row (C := Tryz.checked) (s := OpenSpec.ofChange Rows.goprintOneSpec) own started (by kernel_rfl) Tryz.func4
  (witness_row_at (enc := enc) (C := Tryz.checked) false (laidWorld os) #[Value.slice none 0 0] (World.laidAll_os _ _ _) (by kernel_rfl) (by kernel_rfl) (by kernel_rfl)
   (OpenSpec.preRow_of_cond 8 hx (by kernel_rfl) (fun k hk => by cases hk) (by kernel_rfl) (laid_met os))) ?_
 intro W base args ds gs before hval hW _ _ _ hL _ _
 have hW' := hW
 obtain ⟨p, q, hA0, hV, rfl, hfz, hnd⟩ := hW
 have hA : DataW.TrodAll enc Tryz.prog W 0 (fun _ => true) true Tryz.f4.params.toList args.toList ds p := hA0
 rw [Tryz.params4] at hA hval
 obtain ⟨v0, vs0, d0, ds0, p0, q0, hargs, rfl, rfl, h0, r0⟩ := trodAll_cons hA
 obtain ⟨rfl, rfl, rfl⟩ := trodAll_nil r0
 obtain rfl : args = #[v0] := by cases args; simp_all
 obtain ⟨rfl, rfl⟩ := trodVars_none hV
 have hlt : ∀ x ∈ (p0 ++ []), x.block < W.heap.size := fun x hx => by simpa using hW'.lt x (by simpa using hx)
 obtain ⟨a0, l0, k0, rfl⟩ := okWide_slice Tryz.underlying28 (hval 0 28 v0 rfl rfl)
 obtain ⟨u0, g0⟩ := h0
 obtain ⟨y0, o0⟩ := open_D (W := W) (enc := enc) byL byL_ok u0 28 [.slice a0 l0 k0] _ (by kernel_rfl) g0
 have h0 := (⟨u0, g0⟩ : DataW.Trod enc Tryz.prog W 0 (fun _ => true) true 28 (.slice a0 l0 k0) d0 p0)
 obtain ⟨x0, rfl⟩ := wf_bytes o0.1
 have q0 := first_one (I := TabI) o0
 clear hA0 hval
 simp only [List.append_nil] at hW'
 have hmx : maxLen = 9223372036854775807 := rfl
 have hT := tab hL
 refine ((one_ab x0).law (W := W) (xs := #[.slice a0 l0 k0]) (show 1 + 0 + 1 ≤ W.heap.size by have := hT.size; omega) (fun w hb => hT.below hb) rfl (fun j hj => ?_)).mono fun e W' ⟨he, bel⟩ => ?_
 ·match j, hj with
  | 0, _ => exact q0
 subst he
 exact ⟨_, rfl, _, _, _, [], _, [], hW', trodAll_mk1 (shut_bool Tryz.underlying4 _), (trodAll_cons_mk (kept_arg (by kernel_rfl) (of_decide_eq_true (by kernel_rfl)) h0 bel (fun x hx => hlt x (by simp [hx]))) trodAll_mk0), rfl, bel.frame _, fun h => by cases h⟩
theorem said : Rows.GoprintOneSaid :=
 OpenClaim.holds_of_cond 4 Tryz.f4 rfl rfl rfl rfl rfl rfl rfl ⟨rfl, rfl, rfl, rfl, rfl⟩ rfl rfl rfl rfl rfl (by kernel_rfl) Tryz.func4 (by kernel_rfl)
  (of_decide_eq_true (by kernel_rfl)) (by unfold Func.isWrapper; first | (rw [if_pos (by decide +kernel)]; kernel_rfl) | (rw [if_neg (by decide +kernel)]; exact ⟨rfl, rfl⟩))
  (fun os started H enc _ F => by rw [OpenClaim.pre_eq_preRow]; exact lifted os started H enc F)
theorem plain (f : FuncId) (fn : Func) (hf : Tryz.pinned.checked.prog.funcNamed "avocet/avocetlaw26.GoprintOne" = some f) (hfn : Tryz.pinned.checked.prog.funcs[f]? = some fn) :
 false = Tryz.pinned.checked.prog.looks [] ∧ ∀ (j : Nat) t, fn.params[j]? = some t → Tryz.pinned.checked.prog.wantsStandIn t = false := by
 obtain rfl : f = 4 := Option.some.inj ((show Tryz.prog.funcNamed "avocet/avocetlaw26.GoprintOne" = some 4 by kernel_rfl).symm.trans hf) |>.symm
 obtain rfl : fn = Tryz.f4 := (Option.some.inj (Tryz.func4.symm.trans hfn)).symm
 refine ⟨by kernel_rfl, fun j t ht => ?_⟩
 rw [Tryz.params4] at ht
 have hm := Array.mem_of_getElem? ht
 have : t = 28 := by simpa using hm
 subst this
 exact (show Tryz.prog.wantsStandIn 28 = false by kernel_rfl)
theorem proved : Rows.GoprintOneCardSaid :=
 Claim7.holds_tied_plain_at .later [] _ _ _ _ said (fun _ h => by cases h) (by kernel_rfl) (fun _ h => by cases h) goprintOne_row_tie rfl ⟨rfl, rfl⟩ (by kernel_rfl) rfl plain (by kernel_rfl)
#print axioms proved
end Go.Proofs.YtfaoamebphckbaaGreatDoor.goprintOne
