/- Words again: plain. What stands behind white, or alone, is the same word. -/
import Derived.Test.YtaelanpmgckfkaaRRRRDoorAll
namespace Go.Proofs.YtaelanpmgckfkaaRRRRDoor
open Go.RowKit Go.Av

abbrev Wd := Nat × List UInt8 × Nat
def okD (l : List UInt8) : Bool :=
  decide (valD (l.takeWhile digitB) ≤ maxU) && !(decide ((l.takeWhile digitB).length < l.length) && letterB (l.getD (l.takeWhile digitB).length 0)) && !(decide (1 < (l.takeWhile digitB).length) && decide (l.getD 0 0 = 48))
/-- The word at a text's first byte. -/
def wl (l : List UInt8) : Option Wd :=
  if l = [] then some (0, [], 0)
  else if letterB (l.getD 0 0) = true then some (if reservedS (l.takeWhile wordB) = true then 4 else 1, l.takeWhile wordB, 0)
  else if digitB (l.getD 0 0) = true then (if okD l = true then some (2, l.takeWhile digitB, valD (l.takeWhile digitB)) else none)
  else match signAt l with
    | some s => some (3, s, 0)
    | none => none
def atW (p : Nat) : Option Wd → WordS × Nat
  | some x => (⟨x.1, x.2.1, x.2.2, p, p + x.2.1.length⟩, 0)
  | none => (WordS.zero, 50)
theorem getD_drop (bs : List UInt8) (p k : Nat) : (bs.drop p).getD k 0 = bs.getD (p + k) 0 := by
  rw [List.getD_eq_getElem?_getD, List.getD_eq_getElem?_getD, List.getElem?_drop]
theorem take_while (p : UInt8 → Bool) (l : List UInt8) : l.take (l.takeWhile p).length = l.takeWhile p := (List.prefix_iff_eq_take.1 (List.takeWhile_prefix p)).symm
theorem takeAt_wl (bs : List UInt8) (p : Nat) (hp : p ≤ bs.length) : takeAt bs p = atW p (wl (bs.drop p)) := by
  have hrun : ∀ q : UInt8 → Bool, runAt q bs p = p + ((bs.drop p).takeWhile q).length := fun q => rfl
  have htext : ∀ q : UInt8 → Bool, textAt bs p (runAt q bs p) = (bs.drop p).takeWhile q := fun q => by
    unfold textAt
    rw [hrun, Nat.add_sub_cancel_left, take_while]
  have hdig : digitsAt bs p = (bs.drop p).takeWhile digitB := htext digitB
  have hg0 : (bs.drop p).getD 0 0 = bs.getD p 0 := getD_drop bs p 0
  unfold takeAt wl
  by_cases he : p = bs.length
  · subst he
    rw [if_pos rfl, if_pos (List.drop_length)]
    rfl
  · have hne : bs.drop p ≠ [] := by
      intro h
      have := congrArg List.length h
      rw [List.length_drop] at this
      simp at this
      omega
    rw [if_neg he, if_neg hne, hg0]
    by_cases hl : letterB (bs.getD p 0) = true
    · rw [if_pos hl, if_pos hl, htext]
      rfl
    · rw [if_neg hl, if_neg hl]
      by_cases hd : digitB (bs.getD p 0) = true
      · rw [if_pos hd, if_pos hd]
        have hok : numberOk bs p = okD (bs.drop p) := by
          unfold numberOk okD
          rw [hdig, hrun, hg0, getD_drop, List.length_drop]
          congr 2
          · congr 2
            first | (rw [decide_eq_decide]; omega) | (apply propext; omega)
          · congr 2
            first | (rw [decide_eq_decide]; omega) | (apply propext; omega)
        rw [hok]
        cases okD (bs.drop p)
        · rfl
        · unfold numberW
          rw [hdig]
          rfl
      · rw [if_neg hd, if_neg hd]
        cases signAt (bs.drop p) <;> rfl
theorem wl_prefix {l : List UInt8} {x : Wd} (h : wl l = some x) : x.2.1 <+: l := by
  unfold wl at h
  split at h
  · obtain rfl := Option.some.inj h
    exact List.nil_prefix
  · split at h
    · obtain rfl := Option.some.inj h
      exact List.takeWhile_prefix _
    · split at h
      · split at h
        · obtain rfl := Option.some.inj h
          exact List.takeWhile_prefix _
        · cases h
      · split at h
        · rename_i s hs
          obtain rfl := Option.some.inj h
          have h3 : hasPre l s = true := List.find?_some (show signsL.find? (fun s => hasPre l s) = some s from hs)
          exact List.isPrefixOf_iff_prefix.1 h3
        · cases h

theorem skip_suffix : ∀ (b : Bool) (l : List UInt8), skipM b l <:+ l
  | b, [] => by rw [skipM_nil]; exact List.suffix_refl _
  | true, c :: r => by
    simp only [skipM]
    split
    · exact (skip_suffix false r).trans (List.suffix_cons _ _)
    · exact (skip_suffix true r).trans (List.suffix_cons _ _)
  | false, c :: r => by
    simp only [skipM]
    split
    · exact (skip_suffix false r).trans (List.suffix_cons _ _)
    · split
      · exact (skip_suffix true r).trans (List.suffix_cons _ _)
      · exact List.suffix_refl _
theorem skip_idem : ∀ (b : Bool) (l : List UInt8), skipM false (skipM b l) = skipM b l
  | b, [] => by rw [skipM_nil, skipM_nil]
  | true, c :: r => by
    simp only [skipM]
    split
    · exact skip_idem false r
    · exact skip_idem true r
  | false, c :: r => by
    simp only [skipM]
    by_cases h1 : whiteB c = true
    · rw [if_pos h1]
      exact skip_idem false r
    · rw [if_neg h1]
      by_cases h2 : c.toNat = 47 ∧ r.head? = some 47
      · rw [if_pos h2]
        exact skip_idem true r
      · rw [if_neg h2]
        exact skip_stop c r h1 h2
theorem drop_white (bs : List UInt8) (k : Nat) (hk : k ≤ bs.length) : bs.drop (whiteAt bs k) = skipM false (bs.drop k) := by
  obtain ⟨t, ht⟩ := skip_suffix false (bs.drop k)
  have hl := congrArg List.length ht
  rw [List.length_append, List.length_drop] at hl
  have hw : whiteAt bs k = k + t.length := by unfold whiteAt; omega
  rw [hw, ← List.drop_drop, ← ht, List.drop_left]
  rw [ht]

def strip (x : WordS) : Wd := (x.kind, x.text, x.int)
def lexL : Nat → List UInt8 → List Wd × Nat
  | 0, _ => ([], 0)
  | f + 1, l => match wl (skipM false l) with
    | none => ([], 50)
    | some x => if x.1 = 0 then ([], 0) else
        if (lexL f ((skipM false l).drop x.2.1.length)).2 ≠ 0 then ([], (lexL f ((skipM false l).drop x.2.1.length)).2) else (x :: (lexL f ((skipM false l).drop x.2.1.length)).1, 0)
theorem lexL_none {f : Nat} {l : List UInt8} (h : wl (skipM false l) = none) : lexL (f + 1) l = ([], 50) := by
  conv => lhs; unfold lexL
  rw [h]
theorem lexL_some {f : Nat} {l : List UInt8} {x : Wd} (h : wl (skipM false l) = some x) : lexL (f + 1) l = if x.1 = 0 then ([], 0) else
        if (lexL f ((skipM false l).drop x.2.1.length)).2 ≠ 0 then ([], (lexL f ((skipM false l).drop x.2.1.length)).2) else (x :: (lexL f ((skipM false l).drop x.2.1.length)).1, 0) := by
  conv => lhs; unfold lexL
  rw [h]
theorem takeS_wl (bs : List UInt8) (k : Nat) (hk : k ≤ bs.length) : takeS bs k = atW (whiteAt bs k) (wl (skipM false (bs.drop k))) := by
  unfold takeS
  rw [if_neg (by omega), Int.toNat_natCast, takeAt_wl bs _ (whiteAt_le bs k), drop_white bs k hk]
theorem all_lex (bs : List UInt8) : ∀ (f k : Nat), k ≤ bs.length → ((allFrom bs f k).1.map strip, (allFrom bs f k).2) = lexL f (bs.drop k)
  | 0, k, _ => rfl
  | f + 1, k, hk => by
    have hts := takeS_wl bs k hk
    unfold allFrom
    rw [hts]
    cases hw : wl (skipM false (bs.drop k)) with
    | none =>
      rw [lexL_none hw]
      rfl
    | some x =>
      rw [lexL_some hw]
      have hdw := drop_white bs k hk
      have hpre := (wl_prefix hw).length_le
      rw [← hdw, List.length_drop] at hpre
      have hwl := whiteAt_le bs k
      have ih := all_lex bs f (whiteAt bs k + x.2.1.length) (by omega)
      rw [← hdw, List.drop_drop, ← ih]
      simp only [atW]
      by_cases h0 : x.1 = 0
      · simp [h0]
      · by_cases h2 : (allFrom bs f (whiteAt bs k + x.2.1.length)).2 = 0
        · simp [h0, h2, strip]
        · simp [h0, h2]

/-- Where words stand. -/
theorem all_pos (bs : List UInt8) : ∀ (f k : Nat), k ≤ bs.length → ∀ x ∈ (allFrom bs f k).1, x.at' ≤ x.next ∧ x.next ≤ bs.length ∧ x.text = (bs.drop x.at').take (x.next - x.at')
  | 0, k, _, x, hx => by cases hx
  | f + 1, k, hk, x, hx => by
    have hts := takeS_wl bs k hk
    unfold allFrom at hx
    rw [hts] at hx
    cases hw : wl (skipM false (bs.drop k)) with
    | none => rw [hw] at hx; cases hx
    | some y =>
      rw [hw] at hx
      have hdw := drop_white bs k hk
      have hp := wl_prefix hw
      have hpre := hp.length_le
      rw [← hdw, List.length_drop] at hpre
      have hwl := whiteAt_le bs k
      simp only [atW, ne_eq, not_true_eq_false, if_false] at hx
      by_cases h0 : y.1 = 0
      · simp [h0] at hx
      · by_cases h2 : (allFrom bs f (whiteAt bs k + y.2.1.length)).2 = 0
        case neg => simp [h0, h2] at hx
        · simp only [h0, h2, if_false, not_true_eq_false, List.mem_cons] at hx
          rcases hx with rfl | hx
          · refine ⟨by simp only; omega, by simp only; omega, ?_⟩
            simp only
            rw [hdw, Nat.add_sub_cancel_left]
            exact List.prefix_iff_eq_take.1 hp
          · exact all_pos bs f _ (by omega) x hx
theorem all_count (bs : List UInt8) : ∀ (f k : Nat), k ≤ bs.length → (allFrom bs f k).1.length ≤ bs.length - k
  | 0, k, _ => Nat.zero_le _
  | f + 1, k, hk => by
    have hn := take_next bs k hk
    unfold allFrom
    by_cases h1 : (takeS bs k).2 = 0
    · rw [if_neg (by rw [h1]; decide)]
      by_cases h2 : (takeS bs k).1.kind = 0
      · rw [if_pos h2]; exact Nat.zero_le _
      · rw [if_neg h2]
        have := hn h1 h2
        have ih := all_count bs f _ this.2
        split
        · exact Nat.zero_le _
        · simp only [List.length_cons]
          omega
    · rw [if_pos h1]; exact Nat.zero_le _

/-- A word, as a text has it. -/
def IsW (x : Wd) : Prop := x.1 ≠ 0 ∧ ∃ l, skipM false l = l ∧ wl l = some x
theorem lex_isw : ∀ (f : Nat) (l : List UInt8) (x : Wd), x ∈ (lexL f l).1 → IsW x
  | 0, l, x, h => by cases h
  | f + 1, l, x, h => by
    cases hw : wl (skipM false l) with
    | none => rw [lexL_none hw] at h; cases h
    | some y =>
      rw [lexL_some hw] at h
      split at h
      · cases h
      · rename_i h0
        split at h
        · cases h
        · rcases List.mem_cons.1 h with rfl | h
          · exact ⟨h0, _, skip_idem false l, hw⟩
          · exact lex_isw f _ x h
def EndOk (r : List UInt8) : Prop := r = [] ∨ ∃ c r', r = c :: r' ∧ whiteB c = true
theorem white_not (c : UInt8) (h : whiteB c = true) : letterB c = false ∧ digitB c = false ∧ wordB c = false := by
  unfold whiteB at h
  rw [decide_eq_true_iff] at h
  have h1 : letterB c = false := by unfold letterB; rw [decide_eq_false_iff_not]; omega
  have h2 : digitB c = false := by unfold digitB; rw [decide_eq_false_iff_not]; omega
  exact ⟨h1, h2, by unfold wordB; rw [h1, h2]; rfl⟩
theorem while_end (p : UInt8 → Bool) (hp : ∀ c, whiteB c = true → p c = false) (l r : List UInt8) (hr : EndOk r) : (l.takeWhile p ++ r).takeWhile p = l.takeWhile p := by
  rw [List.takeWhile_append_of_pos (fun a ha => List.all_eq_true.1 List.all_takeWhile a ha)]
  rcases hr with rfl | ⟨c, r', rfl, hc⟩
  · simp
  · rw [List.takeWhile_cons_of_neg (by rw [hp c hc]; decide), List.append_nil]
theorem getD0_append (t r : List UInt8) (ht : t ≠ []) : (t ++ r).getD 0 0 = t.getD 0 0 := by
  cases t with
  | nil => exact absurd rfl ht
  | cons a t => rfl
theorem sign_bytes : ∀ s ∈ signsL, ∀ c ∈ s, whiteB c = false := by decide
theorem sign_slash : ∀ s ∈ signsL, s.getD 0 0 = 47 → s = [47] := by decide
theorem sign_ne : ∀ s ∈ signsL, s ≠ [] := by decide
/-- A word's text, with white behind it, is that word. -/
theorem word_again {x : Wd} (h : IsW x) (r : List UInt8) (hr : EndOk r) : x.2.1 ≠ [] ∧ wl (x.2.1 ++ r) = some x ∧ skipM false (x.2.1 ++ r) = x.2.1 ++ r := by
  obtain ⟨h0, l, hs, hw⟩ := h
  have hl : l ≠ [] := by
    intro e
    subst e
    have : wl [] = some (0, [], 0) := rfl
    rw [this] at hw
    obtain rfl := Option.some.inj hw
    exact h0 rfl
  obtain ⟨c, l', rfl⟩ : ∃ c l', l = c :: l' := by
    cases l with
    | nil => exact absurd rfl hl
    | cons c l' => exact ⟨c, l', rfl⟩
  have hnw : ¬ whiteB c = true ∧ ¬ (c.toNat = 47 ∧ l'.head? = some 47) := by
    simp only [skipM] at hs
    have h1 := skip_le false l'
    have h2 := skip_le true l'
    constructor
    · intro e
      rw [if_pos e] at hs
      have := congrArg List.length hs
      simp only [List.length_cons] at this
      omega
    · intro e
      have hn : ¬ whiteB c = true := by
        intro e'
        rw [if_pos e'] at hs
        have := congrArg List.length hs
        simp only [List.length_cons] at this
        omega
      rw [if_neg hn, if_pos e] at hs
      have := congrArg List.length hs
      simp only [List.length_cons] at this
      omega
  -- what ends the proof: t begins with c, and is read as it was
  have fin : ∀ t : List UInt8, (∃ t', t = c :: t') → (c.toNat = 47 → t = [47]) → t ≠ [] ∧ skipM false (t ++ r) = t ++ r := by
    rintro t ⟨t', rfl⟩ h47
    refine ⟨by simp, ?_⟩
    refine skip_stop c (t' ++ r) hnw.1 ?_
    rintro ⟨e1, e2⟩
    have := h47 e1
    simp only [List.cons.injEq] at this
    obtain ⟨_, rfl⟩ := this
    rcases hr with rfl | ⟨d, r', rfl, hd⟩
    · simp at e2
    · simp only [List.nil_append, List.head?_cons, Option.some.injEq] at e2
      subst e2
      revert hd
      decide
  unfold wl at hw
  rw [if_neg hl] at hw
  have hc0 : (c :: l').getD 0 0 = c := rfl
  rw [hc0] at hw
  by_cases hL : letterB c = true
  · rw [if_pos hL] at hw
    obtain rfl := Option.some.inj hw
    simp only
    have hwb : wordB c = true := by unfold wordB; rw [hL]; rfl
    have ht : ∃ t', (c :: l').takeWhile wordB = c :: t' := ⟨l'.takeWhile wordB, List.takeWhile_cons_of_pos hwb⟩
    obtain ⟨f1, f2⟩ := fin _ ht (fun e => by
      exfalso
      unfold letterB at hL
      rw [decide_eq_true_iff] at hL
      omega)
    refine ⟨f1, ?_, f2⟩
    unfold wl
    have hne : (c :: l').takeWhile wordB ++ r ≠ [] := by simp [f1]
    have hg : ((c :: l').takeWhile wordB).getD 0 0 = c := by obtain ⟨t', e⟩ := ht; rw [e]; rfl
    rw [if_neg hne, getD0_append _ _ f1, hg, if_pos hL, while_end wordB (fun d hd => (white_not d hd).2.2) _ _ hr]
  · rw [if_neg hL] at hw
    by_cases hD : digitB c = true
    · rw [if_pos hD] at hw
      by_cases hok : okD (c :: l') = true
      · rw [if_pos hok] at hw
        obtain rfl := Option.some.inj hw
        simp only
        have ht : ∃ t', (c :: l').takeWhile digitB = c :: t' := ⟨l'.takeWhile digitB, List.takeWhile_cons_of_pos hD⟩
        obtain ⟨f1, f2⟩ := fin _ ht (fun e => by
          exfalso
          unfold digitB at hD
          rw [decide_eq_true_iff] at hD
          omega)
        refine ⟨f1, ?_, f2⟩
        unfold wl
        have hne : (c :: l').takeWhile digitB ++ r ≠ [] := by simp [f1]
        have hg : ((c :: l').takeWhile digitB).getD 0 0 = c := by obtain ⟨t', e⟩ := ht; rw [e]; rfl
        have hwe := while_end digitB (fun d hd => (white_not d hd).2.1) (c :: l') r hr
        have hok2 : okD ((c :: l').takeWhile digitB ++ r) = true := by
          unfold okD at hok ⊢
          rw [hwe, getD0_append _ _ f1, hg]
          rw [Bool.and_eq_true, Bool.and_eq_true] at hok ⊢
          rw [hc0] at hok
          refine ⟨⟨hok.1.1, ?_⟩, hok.2⟩
          rcases hr with rfl | ⟨d, r', rfl, hd⟩
          · simp
          · have : ((c :: l').takeWhile digitB ++ d :: r').getD ((c :: l').takeWhile digitB).length 0 = d := by
              rw [List.getD_eq_getElem?_getD, List.getElem?_append_right (Nat.le_refl _), Nat.sub_self]
              rfl
            rw [this, (white_not d hd).1]
            simp
        rw [if_neg hne, getD0_append _ _ f1, hg, if_neg hL, if_pos hD, hwe, if_pos hok2]
      · rw [if_neg hok] at hw
        cases hw
    · rw [if_neg hD] at hw
      cases hsg : signAt (c :: l') with
      | none => rw [hsg] at hw; cases hw
      | some s =>
        rw [hsg] at hw
        obtain rfl := Option.some.inj hw
        simp only
        have hmem := List.mem_of_find?_eq_some hsg
        have hpr : hasPre (c :: l') s = true := List.find?_some (show signsL.find? (fun s => hasPre (c :: l') s) = some s from hsg)
        have hpre : s <+: c :: l' := List.isPrefixOf_iff_prefix.1 hpr
        have hsne := sign_ne s hmem
        have ht : ∃ t', s = c :: t' := by
          cases s with
          | nil => exact absurd rfl hsne
          | cons a s' =>
            obtain ⟨u, hu⟩ := hpre
            simp only [List.cons_append, List.cons.injEq] at hu
            exact ⟨s', by rw [hu.1]⟩
        obtain ⟨f1, f2⟩ := fin s ht (fun e => by
          obtain ⟨t', rfl⟩ := ht
          exact sign_slash _ hmem (by show c = 47; exact UInt8.toNat.inj e))
        refine ⟨f1, ?_, f2⟩
        unfold wl
        have hne : s ++ r ≠ [] := by simp [f1]
        have hg : s.getD 0 0 = c := by obtain ⟨t', e⟩ := ht; rw [e]; rfl
        have hagain : signAt (s ++ r) = some s := by
          obtain ⟨_, us, vs, hsl, has⟩ := List.find?_eq_some_iff_append.1 hsg
          refine List.find?_eq_some_iff_append.2 ⟨List.isPrefixOf_iff_prefix.2 (List.prefix_append _ _), us, vs, hsl, fun a ha => ?_⟩
          have h1 := has a ha
          rw [Bool.not_eq_true'] at h1 ⊢
          rw [Bool.eq_false_iff] at h1 ⊢
          intro e
          apply h1
          have hap : a <+: s ++ r := List.isPrefixOf_iff_prefix.1 e
          have ham : a ∈ signsL := by rw [hsl]; exact List.mem_append_left _ ha
          have hle : a.length ≤ s.length := by
            rcases Nat.lt_or_ge s.length a.length with h | h
            · exfalso
              have hai : a[s.length]? = (s ++ r)[s.length]? := by
                obtain ⟨u, hu⟩ := hap
                rw [← hu, List.getElem?_append_left h]
              rw [List.getElem?_append_right (Nat.le_refl _), Nat.sub_self, List.getElem?_eq_getElem h] at hai
              rcases hr with rfl | ⟨d, r', rfl, hd⟩
              · simp at hai
              · have hd2 : a[s.length] = d := by simpa using hai
                have := sign_bytes a ham _ (List.getElem_mem h)
                rw [hd2, hd] at this
                cases this
            · exact h
          have hps : a <+: s := List.prefix_of_prefix_length_le hap (List.prefix_append _ _) hle
          exact List.isPrefixOf_iff_prefix.2 (hps.trans hpre)
        rw [if_neg hne, getD0_append _ _ f1, hg, if_neg hL, if_neg hD, hagain]

theorem lex_alone {x : Wd} (h : IsW x) (f : Nat) (hf : 2 ≤ f) : lexL f x.2.1 = ([x], 0) := by
  obtain ⟨_, hw, hs⟩ := word_again h [] (.inl rfl)
  rw [List.append_nil] at hw hs
  obtain ⟨f, rfl⟩ : ∃ g, f = g + 1 + 1 := ⟨f - 2, by omega⟩
  rw [lexL_some (x := x) (by rw [hs]; exact hw), hs, List.drop_length, if_neg h.1, lexL_some (l := []) (x := (0, [], 0)) rfl]
  rfl

/-- The white texts. -/
def whitesL : List (List UInt8) := [[32], [9], [10], [13, 10], [32, 47, 47, 32, 97, 32, 119, 111, 114, 100, 10]]
def endS : List UInt8 := [32, 47, 47, 32, 101, 110, 100]
theorem skip_whites (q : List UInt8) (hq : q ∈ whitesL) (l : List UInt8) : skipM false (q ++ l) = skipM false l := by
  simp only [whitesL, List.mem_cons, List.not_mem_nil, or_false] at hq
  rcases hq with rfl | rfl | rfl | rfl | rfl
  all_goals simp [skipM, whiteB]
theorem whites_head (q : List UInt8) (hq : q ∈ whitesL) (l : List UInt8) : EndOk (q ++ l) := by
  simp only [whitesL, List.mem_cons, List.not_mem_nil, or_false] at hq
  rcases hq with rfl | rfl | rfl | rfl | rfl
  all_goals exact .inr ⟨_, _, rfl, by decide⟩
theorem whites_len (q : List UInt8) (hq : q ∈ whitesL) : q.length ≤ 11 := by
  revert q
  decide
def joinW (q : Nat → List UInt8) : Nat → List Wd → List UInt8
  | _, [] => []
  | i, x :: xs => q i ++ x.2.1 ++ joinW q (i + 1) xs
theorem lex_join (q : Nat → List UInt8) (hq : ∀ i, q i ∈ whitesL) : ∀ (ws : List Wd) (i f : Nat), (∀ x ∈ ws, IsW x) → ws.length < f → lexL f (joinW q i ws ++ endS) = (ws, 0)
  | [], i, f, _, hf => by
    obtain ⟨f, rfl⟩ : ∃ g, f = g + 1 := ⟨f - 1, by simp at hf; omega⟩
    have : skipM false (joinW q i [] ++ endS) = [] := by
      show skipM false endS = []
      decide
    rw [lexL_some (x := (0, [], 0)) (by rw [this]; rfl)]
    rfl
  | x :: xs, i, f, hx, hf => by
    obtain ⟨f, rfl⟩ : ∃ g, f = g + 1 := ⟨f - 1, by simp at hf; omega⟩
    have hend : EndOk (joinW q (i + 1) xs ++ endS) := by
      cases xs with
      | nil => exact .inr ⟨_, _, rfl, by decide⟩
      | cons y ys =>
        show EndOk ((q (i + 1) ++ y.2.1 ++ joinW q (i + 2) ys) ++ endS)
        rw [List.append_assoc, List.append_assoc]
        exact whites_head _ (hq _) _
    have hxw := hx x (List.mem_cons_self ..)
    obtain ⟨_, hw, hs⟩ := word_again hxw _ hend
    have hsk : skipM false (joinW q i (x :: xs) ++ endS) = x.2.1 ++ (joinW q (i + 1) xs ++ endS) := by
      show skipM false ((q i ++ x.2.1 ++ joinW q (i + 1) xs) ++ endS) = _
      rw [List.append_assoc, List.append_assoc, skip_whites _ (hq i)]
      exact hs
    rw [lexL_some (x := x) (by rw [hsk]; exact hw), hsk, List.drop_left, if_neg hxw.1,
      lex_join q hq xs (i + 1) f (fun y hy => hx y (List.mem_cons_of_mem _ hy)) (by simp at hf; omega)]
    rfl
theorem joinW_snoc (q : Nat → List UInt8) : ∀ (ws : List Wd) (i : Nat) (x : Wd), joinW q i (ws ++ [x]) = joinW q i ws ++ (q (i + ws.length) ++ x.2.1)
  | [], i, x => by simp [joinW]
  | y :: ws, i, x => by
    show q i ++ y.2.1 ++ joinW q (i + 1) (ws ++ [x]) = q i ++ y.2.1 ++ joinW q (i + 1) ws ++ (q (i + (ws.length + 1)) ++ x.2.1)
    rw [joinW_snoc q ws (i + 1) x, List.append_assoc, List.append_assoc, List.append_assoc, show i + 1 + ws.length = i + (ws.length + 1) by omega]
/-- All words of a text that has words. -/
theorem allS_words (bs : List UInt8) : (∀ x ∈ (allS bs).1, IsW (strip x) ∧ x.at' ≤ x.next ∧ x.next ≤ bs.length ∧ x.text = (bs.drop x.at').take (x.next - x.at')) ∧ (allS bs).1.length ≤ bs.length := by
  constructor
  · intro x hx
    have h1 := all_lex bs (bs.length + 1) 0 (Nat.zero_le _)
    refine ⟨lex_isw (bs.length + 1) (bs.drop 0) _ ?_, all_pos bs (bs.length + 1) 0 (Nat.zero_le _) x hx⟩
    rw [← h1]
    exact List.mem_map_of_mem hx
  · exact all_count bs (bs.length + 1) 0 (Nat.zero_le _)
theorem allS_alone (x : WordS) (h : IsW (strip x)) : (allS x.text).1.map strip = [strip x] ∧ (allS x.text).2 = 0 := by
  have h1 := all_lex x.text (x.text.length + 1) 0 (Nat.zero_le _)
  have hne := (word_again h [] (.inl rfl)).1
  have hl : 0 < x.text.length := List.length_pos_iff.2 hne
  rw [List.drop_zero, show x.text = (strip x).2.1 from rfl, lex_alone h _ (by show 2 ≤ x.text.length + 1; omega)] at h1
  exact ⟨congrArg Prod.fst h1, congrArg Prod.snd h1⟩
theorem allS_join (q : Nat → List UInt8) (hq : ∀ i, q i ∈ whitesL) (ws : List WordS) (h : ∀ x ∈ ws, IsW (strip x)) :
    (allS (joinW q 0 (ws.map strip) ++ endS)).1.map strip = ws.map strip ∧ (allS (joinW q 0 (ws.map strip) ++ endS)).2 = 0 := by
  have h1 := all_lex (joinW q 0 (ws.map strip) ++ endS) ((joinW q 0 (ws.map strip) ++ endS).length + 1) 0 (Nat.zero_le _)
  have hall : ∀ x ∈ ws.map strip, IsW x := by
    intro x hx
    obtain ⟨y, hy, rfl⟩ := List.mem_map.1 hx
    exact h y hy
  have hlen : ∀ (l : List Wd) (i : Nat), (∀ x ∈ l, IsW x) → l.length ≤ (joinW q i l).length := by
    intro l
    induction l with
    | nil => intro i _; exact Nat.zero_le _
    | cons y l ih =>
      intro i hl
      have := ih (i + 1) (fun z hz => hl z (List.mem_cons_of_mem _ hz))
      have hne := List.length_pos_iff.2 (word_again (hl y (List.mem_cons_self ..)) [] (.inl rfl)).1
      show l.length + 1 ≤ (q i ++ y.2.1 ++ joinW q (i + 1) l).length
      rw [List.length_append, List.length_append]
      omega
  have := hlen (ws.map strip) 0 hall
  rw [List.drop_zero, lex_join q hq _ 0 _ hall (by rw [List.length_append]; omega)] at h1
  exact ⟨congrArg Prod.fst h1, congrArg Prod.snd h1⟩
end Go.Proofs.YtaelanpmgckfkaaRRRRDoor
