/- The checker: zero, many, slices of texts, different. -/
import Derived.Test.YtaelanpmgckfkaaRRRRDoorChk
namespace Go.Proofs.YtaelanpmgckfkaaRRRRDoor
open Go.RowKit Go.Av

def zeroS (t : TyT) : Bool := decide (t.kind = 0) && decide (t.name = []) && decide (t.elem.length = 0)
set_option maxRecDepth 100000 in
set_option maxHeartbeats 400000 in
theorem zero_at {B : Nat} {W0 : World} {t : TyT} {v : Value} (h : RdTy B W0 t v) (w : World) :
    Calls Tryd.prog 93 #[.agg (tyCells t v)] w fun e w' => e = .returned (.bool (zeroS t)) ∧ Below w.heap.size w w' := by
  cases h with
  | mk k n es o cap f hc hm hn hs hr =>
    clear hs hr
    by_cases hk : k = 0
    · subst hk
      by_cases hn0 : n = []
      · subst hn0
        by_cases hm0 : es.length = 0
        · have he : ((es.length : Int) == 0) = true := beq_iff_eq.2 (by omega)
          rw [show zeroS (.mk 0 [] es) = true by simp [zeroS, TyT.kind, TyT.name, TyT.elem, List.eq_nil_of_length_eq_zero hm0]]
          clear hm0
          simp only [tyCells, TyT.kind, TyT.name]
          go_enter Tryd.func93, Tryd.ntmps93
          go_wp2_with fail
          go_ret
          exact ⟨rfl, (Below.refl _ _).alloc (Nat.le_refl _) _⟩
        · have he : ((es.length : Int) == 0) = false := beq_eq_false_iff_ne.2 (by omega)
          rw [show zeroS (.mk 0 [] es) = false by unfold zeroS; rw [show (TyT.mk 0 [] es).elem.length = es.length from rfl, decide_eq_false hm0, Bool.and_false]]
          clear hm0
          simp only [tyCells, TyT.kind, TyT.name]
          go_enter Tryd.func93, Tryd.ntmps93
          go_wp2_with fail
          go_ret
          exact ⟨rfl, (Below.refl _ _).alloc (Nat.le_refl _) _⟩
      · have hn0' : (n == []) = false := by rw [nil_beq]; exact decide_eq_false hn0
        rw [show zeroS (.mk 0 n es) = false by unfold zeroS; rw [show (TyT.mk 0 n es).name = n from rfl, decide_eq_false hn0, Bool.and_false, Bool.false_and]]
        simp only [tyCells, TyT.kind, TyT.name]
        go_enter Tryd.func93, Tryd.ntmps93
        go_wp2_with fail
        go_ret
        exact ⟨rfl, (Below.refl _ _).alloc (Nat.le_refl _) _⟩
    · have hk' : (k == 0) = false := beq_eq_false_iff_ne.2 hk
      rw [show zeroS (.mk k n es) = false by unfold zeroS; rw [show (TyT.mk k n es).kind = k from rfl, decide_eq_false hk, Bool.false_and, Bool.false_and]]
      simp only [tyCells, TyT.kind, TyT.name]
      go_enter Tryd.func93, Tryd.ntmps93
      go_wp2_with fail
      go_ret
      exact ⟨rfl, (Below.refl _ _).alloc (Nat.le_refl _) _⟩

/-- How many kids an expression of a kind has. -/
def manyS (k : Int) : Int := if k = 1 ∨ k = 2 ∨ k = 3 then 0 else if k = 4 ∨ k = 5 ∨ k = 8 ∨ k = 9 ∨ k = 12 then 1 else if k = 6 ∨ k = 10 ∨ k = 13 then 2 else if k = 11 then 3 else if k = 7 ∨ k = 14 ∨ k = 15 then -1 else -2
set_option maxRecDepth 100000 in
set_option maxHeartbeats 400000 in
theorem many_at (k : Int) (w : World) : Calls Tryd.prog 78 #[.int .i64 k] w fun e w' => e = .returned (.int .i64 (manyS k)) ∧ w = w' := by
  by_cases h : 1 ≤ k ∧ k ≤ 15
  · have : k = 1 ∨ k = 2 ∨ k = 3 ∨ k = 4 ∨ k = 5 ∨ k = 6 ∨ k = 7 ∨ k = 8 ∨ k = 9 ∨ k = 10 ∨ k = 11 ∨ k = 12 ∨ k = 13 ∨ k = 14 ∨ k = 15 := by omega
    rcases this with rfl | rfl | rfl | rfl | rfl | rfl | rfl | rfl | rfl | rfl | rfl | rfl | rfl | rfl | rfl
    all_goals
      go_enter Tryd.func78, Tryd.ntmps78
      go_wp2_with fail
      go_ret
      exact ⟨rfl, rfl⟩
  · have hr : manyS k = -2 := by
      unfold manyS
      rw [if_neg (by omega), if_neg (by omega), if_neg (by omega), if_neg (by omega), if_neg (by omega)]
    have e1 : (k == 1) = false := beq_eq_false_iff_ne.2 (by omega)
    have e2 : (k == 2) = false := beq_eq_false_iff_ne.2 (by omega)
    have e3 : (k == 3) = false := beq_eq_false_iff_ne.2 (by omega)
    have e4 : (k == 4) = false := beq_eq_false_iff_ne.2 (by omega)
    have e5 : (k == 5) = false := beq_eq_false_iff_ne.2 (by omega)
    have e6 : (k == 6) = false := beq_eq_false_iff_ne.2 (by omega)
    have e7 : (k == 7) = false := beq_eq_false_iff_ne.2 (by omega)
    have e8 : (k == 8) = false := beq_eq_false_iff_ne.2 (by omega)
    have e9 : (k == 9) = false := beq_eq_false_iff_ne.2 (by omega)
    have e10 : (k == 10) = false := beq_eq_false_iff_ne.2 (by omega)
    have e11 : (k == 11) = false := beq_eq_false_iff_ne.2 (by omega)
    have e12 : (k == 12) = false := beq_eq_false_iff_ne.2 (by omega)
    have e13 : (k == 13) = false := beq_eq_false_iff_ne.2 (by omega)
    have e14 : (k == 14) = false := beq_eq_false_iff_ne.2 (by omega)
    have e15 : (k == 15) = false := beq_eq_false_iff_ne.2 (by omega)
    rw [hr]
    go_enter Tryd.func78, Tryd.ntmps78
    go_wp2_with fail
    go_ret
    exact ⟨rfl, rfl⟩

/-- Texts that lie in a row. -/
def RowS (w : World) (o : Option Addr) (l : List (List UInt8)) : Prop := l ≠ [] → ∃ g off, o = some ⟨g, off, none⟩ ∧ g < w.heap.size ∧ ∀ j (h : j < l.length), w.cell? ⟨g, off + j, none⟩ = some (.string ⟨(l[j]).toArray⟩)
theorem RowS.below {w w' : World} {o : Option Addr} {l : List (List UInt8)} (h : RowS w o l) (hb : Below w.heap.size w w') : RowS w' o l := by
  intro hl
  obtain ⟨g, off, ho, hg, hc⟩ := h hl
  exact ⟨g, off, ho, Nat.lt_of_lt_of_le hg hb.size, fun j hj => by rw [hb.cell (p := ⟨g, off + j, none⟩) hg]; exact hc j hj⟩

/-- Is a text one of some? -/
def hasS (l : List (List UInt8)) (s : List UInt8) : Bool := l.contains s
def InIff (r : Int) (l : List (List UInt8)) (s : List UInt8) : Prop := decide (0 ≤ r) = l.contains s
set_option maxRecDepth 100000 in
set_option maxHeartbeats 400000 in
theorem index_texts (o : Option Addr) (cap n : Nat) (l : List (List UInt8)) (s : List UInt8) (w : World) (hn : n ≤ l.length) (hnc : n ≤ cap) (hcap : cap ≤ 9223372036854775807) (hs : RowS w o l) :
    Calls Tryd.prog 111 #[.slice o n cap, .string ⟨s.toArray⟩] w fun e w' => ∃ r : Int, e = .returned (.int .i64 r) ∧ InIff r (l.take n) s ∧ w = w' := by
  have HS := Lib.hid hs
  clear hs
  go_enter Tryd.func111, Tryd.ntmps111
  go_wp2_with fail
  go_loop [8] (fun i => ∃ j : Nat, i = .int .i64 j ∧ j ≤ n ∧ Hid ((l.take j).contains s = false)) (fun i => (n - intOf i).toNat)
  case atStart => exact ⟨0, rfl, Nat.zero_le _, Lib.hid (by simp)⟩
  case round =>
    obtain ⟨j, rfl, hj, HJ⟩ := hrel
    by_cases hlt : j < n
    · have hjl : j < l.length := by omega
      obtain ⟨g, off, rfl, hg, hc⟩ := HS.out (by intro e; rw [e] at hjl; simp at hjl)
      have hcj := hc j hjl
      have htk : l.take (j + 1) = l.take j ++ [l[j]] := List.take_succ_eq_append_getElem hjl
      have hjc : j < cap := by omega
      cases hq : (s == l[j])
      · have HN : Hid ((l.take (j + 1)).contains s = false) := by
          unfold Hid
          rw [htk, List.contains_append, HJ.out]
          simpa using hq
        clear hc htk
        generalize l[j] = q at *
        go_wp2_with fail
        exact ⟨⟨j + 1, by go_num, by omega, HN⟩, by simp [intOf]; omega⟩
      · have HN : Hid ((l.take n).contains s = true) := by
          unfold Hid
          have hp : l.take (j + 1) <+: l.take n := List.take_prefix_take_left (by omega)
          obtain ⟨u, hu⟩ := hp
          rw [← hu, htk, List.contains_append, List.contains_append]
          simp only [List.contains_cons, List.contains_nil, Bool.or_false, hq, Bool.or_true, Bool.true_or]
        clear hc htk
        generalize l[j] = q at *
        go_wp2_with fail
        go_ret
        exact ⟨(j : Int), rfl, by unfold InIff; rw [HN.out]; exact decide_eq_true (by omega), rfl⟩
    · obtain rfl : j = n := by omega
      go_wp2_with fail
      go_ret
      exact ⟨-1, rfl, by unfold InIff; rw [HJ.out]; rfl, rfl⟩
theorem contains_texts (o : Option Addr) (cap n : Nat) (l : List (List UInt8)) (s : List UInt8) (w : World) (hn : n ≤ l.length) (hnc : n ≤ cap) (hcap : cap ≤ 9223372036854775807) (hs : RowS w o l) :
    Calls Tryd.prog 104 #[.slice o n cap, .string ⟨s.toArray⟩] w fun e w' => e = .returned (.bool (hasS (l.take n) s)) ∧ w = w' := by
  have H := Lib.hid (index_texts o cap n l s w hn hnc hcap hs)
  go_enter Tryd.func104, Tryd.ntmps104
  go_wp2_with fail
  refine H.out.mono ?_
  rintro e w1 ⟨r, rfl, hr, rfl⟩
  have hr2 : decide (0 ≤ r) = hasS (l.take n) s := hr
  clear hr
  have HR := Lib.hid hr2.symm
  clear hr2
  go_wp2_with fail
  go_ret
  exact ⟨by rw [HR.out]; rfl, rfl⟩

/-- Different identifiers, from the k-th on. -/
def diffS : Nat → List (List UInt8) → Bool
  | 0, _ => true
  | n + 1, l => diffS n l && identS (l.getD n []) && !hasS (l.take n) (l.getD n [])
theorem diffS_no (l : List (List UInt8)) (j : Nat) (h : diffS j l = false) : ∀ m, j ≤ m → diffS m l = false := by
  intro m
  induction m with
  | zero => intro hm; obtain rfl : j = 0 := by omega
            exact h
  | succ m ih =>
    intro hm
    rcases Nat.lt_or_ge j (m + 1) with h' | h'
    · show (diffS m l && identS (l.getD m []) && !hasS (l.take m) (l.getD m [])) = false
      rw [ih (by omega)]
      rfl
    · obtain rfl : j = m + 1 := by omega
      exact h
set_option maxRecDepth 100000 in
set_option maxHeartbeats 400000 in
theorem different_at (o : Option Addr) (cap : Nat) (l : List (List UInt8)) (w : World) (ht : Tabs w) (hc : l.length ≤ cap) (hcap : cap ≤ 9223372036854775807) (hl : ∀ s ∈ l, s.length ≤ 9223372036854775807) (hs : RowS w o l) :
    Calls Tryd.prog 94 #[.slice o l.length cap] w fun e w' => e = .returned (.bool (diffS l.length l)) ∧ Below w.heap.size w w' := by
  have HS := Lib.hid hs
  have HT := Lib.hid ht
  have HL := Lib.hid hl
  clear hs ht hl
  go_enter Tryd.func94, Tryd.ntmps94
  go_wp2_with fail
  go_loopw [7] (fun i wr => ∃ j : Nat, i = .int .i64 j ∧ j ≤ l.length ∧ Hid (diffS j l = true) ∧ Below w.heap.size w wr) (fun i _ => (l.length - intOf i).toNat)
  case atStart => exact ⟨0, rfl, Nat.zero_le _, Lib.hid rfl, Below.refl _ _⟩
  case round =>
    obtain ⟨j, rfl, hj, HJ, hbr⟩ := hrel
    by_cases hlt : j < l.length
    · obtain ⟨g, off, rfl, hg, hcl⟩ := HS.out (by intro e; rw [e] at hlt; simp at hlt)
      have hcj := hcl j hlt
      have hgd : l.getD j [] = l[j] := by rw [List.getD_eq_getElem?_getD, List.getElem?_eq_getElem hlt]; rfl
      have hstep : diffS (j + 1) l = (diffS j l && identS (l.getD j []) && !hasS (l.take j) (l.getD j [])) := rfl
      rw [hgd, HJ.out, Bool.true_and] at hstep
      have HRS := Lib.hid (fun W (hb : Below w.heap.size w W) => contains_texts (some ⟨g, off, none⟩) cap j l l[j] W hj (by omega) hcap (HS.out.below hb))
      have HI := Lib.hid (fun W (hb : Below w.heap.size w W) => gIdent l[j] W (HT.out.below hb) (HL.out _ (List.getElem_mem hlt)))
      rw [← hbr.cell (p := ⟨g, off + j, none⟩) hg] at hcj
      have HST := Lib.hid hstep
      have hjc : j ≤ cap := by omega
      clear hcl hgd hstep
      generalize l[j] = q at *
      cases hi : identS q
      · have HF : Hid (diffS l.length l = false) := diffS_no l (j + 1) (by rw [HST.out, hi]; rfl) _ hlt
        rw [hi] at HI
        go_wp2_with fail
        refine (HI.out _ hbr).mono ?_
        rintro e w1 ⟨rfl, hb1⟩
        go_wp2_with fail
        go_ret
        exact ⟨by rw [HF.out]; rfl, hbr.trans (hb1.mono hbr.size)⟩
      · rw [hi] at HI
        cases hh : hasS (l.take j) q
        · have HN : Hid (diffS (j + 1) l = true) := by unfold Hid; rw [HST.out, hi, hh]; rfl
          rw [hh] at HRS
          go_wp2_with fail
          refine (HI.out _ hbr).mono ?_
          rintro e w1 ⟨rfl, hb1⟩
          have hb2 := hbr.trans (hb1.mono hbr.size)
          go_wp2_with fail
          refine (HRS.out _ hb2).mono ?_
          rintro e w2 ⟨rfl, rfl⟩
          go_wp2_with fail
          go_roundw
          case rel => exact ⟨j + 1, by go_num, by omega, HN, hb2⟩
          case measure => simp [intOf]; omega
        · have HF : Hid (diffS l.length l = false) := diffS_no l (j + 1) (by rw [HST.out, hh, Bool.not_true, Bool.and_false]) _ hlt
          rw [hh] at HRS
          go_wp2_with fail
          refine (HI.out _ hbr).mono ?_
          rintro e w1 ⟨rfl, hb1⟩
          have hb2 := hbr.trans (hb1.mono hbr.size)
          go_wp2_with fail
          refine (HRS.out _ hb2).mono ?_
          rintro e w2 ⟨rfl, rfl⟩
          go_wp2_with fail
          go_ret
          exact ⟨by rw [HF.out]; rfl, hb2⟩
    · obtain rfl : j = l.length := by omega
      go_wp2_with fail
      go_ret
      exact ⟨by rw [HJ.out]; rfl, hbr⟩

/-- A sign's rank. -/
def rankT : List (List UInt8 × Int) := [([42], 5), ([47], 5), ([37], 5), ([60, 60], 5), ([62, 62], 5), ([38], 5), ([43], 4), ([45], 4), ([124], 4), ([94], 4), ([61, 61], 3), ([33, 61], 3), ([60], 3), ([60, 61], 3), ([62], 3), ([62, 61], 3), ([38, 38], 2), ([124, 124], 1)]
def rankS (s : List UInt8) : Int := ((rankT.find? fun x => x.1 == s).map (·.2)).getD 0
theorem rank_in (s : List UInt8) : (∃ x ∈ rankT, s = x.1) ∨ ∀ x ∈ rankT, (s == x.1) = false := by
  by_cases h : ∃ x ∈ rankT, s = x.1
  · exact .inl h
  · exact .inr fun x hx => beq_eq_false_iff_ne.2 fun e => h ⟨x, hx, e⟩
set_option maxRecDepth 100000 in
set_option maxHeartbeats 1000000 in
theorem rank_at (s : List UInt8) (w : World) : Calls Tryd.prog 40 #[.string ⟨s.toArray⟩] w fun e w' => e = .returned (.int .i64 (rankS s)) ∧ w = w' := by
  rcases rank_in s with ⟨x, hx, rfl⟩ | h
  · simp only [rankT, List.mem_cons, List.not_mem_nil, or_false] at hx
    rcases hx with rfl | rfl | rfl | rfl | rfl | rfl | rfl | rfl | rfl | rfl | rfl | rfl | rfl | rfl | rfl | rfl | rfl | rfl
    all_goals
      go_enter Tryd.func40, Tryd.ntmps40
      go_wp2_with fail
      go_ret
      exact ⟨rfl, rfl⟩
  · have hr : rankS s = 0 := by
      unfold rankS
      rw [List.find?_eq_none.2 (fun x hx => by rw [beq_eq_false_iff_ne.2 (fun e => beq_eq_false_iff_ne.1 (h x hx) e.symm)]; decide)]
      rfl
    rw [hr]
    simp only [rankT, List.forall_mem_cons, List.not_mem_nil, false_implies, implies_true, and_true] at h
    obtain ⟨a0, a1, a2, a3, a4, a5, a6, a7, a8, a9, a10, a11, a12, a13, a14, a15, a16, a17⟩ := h
    go_enter Tryd.func40, Tryd.ntmps40
    go_wp2_with fail
    go_ret
    exact ⟨rfl, rfl⟩
end Go.Proofs.YtaelanpmgckfkaaRRRRDoor
