/- golex.All. -/
import Derived.Test.YtaelanpmgckfkaaRRRRDoorTake4
namespace Go.Proofs.YtaelanpmgckfkaaRRRRDoor
open Go.RowKit Go.Av

theorem whiteAt_ge (bs : List UInt8) (k : Nat) (hk : k ≤ bs.length) : k ≤ whiteAt bs k := by
  unfold whiteAt
  have := skip_le false (bs.drop k)
  rw [List.length_drop] at this
  omega

/-- golex.Take, wherever. -/
theorem gTake (B : Nat) (v : Value) (bs : List UInt8) (i : Int) (w : World) (ht : Tabs w) (hv : RdB B w v bs) (hB : B ≤ w.heap.size) : Calls Tryd.prog 11 #[v, .int .i64 i] w (Took (takeS bs i) w) := by
  by_cases hi : i < 0 ∨ i > bs.length
  · have hr : takeS bs i = (WordS.zero, 2) := by unfold takeS; rw [if_pos hi]
    rw [hr]
    refine take_arg v bs.length i w ?_ (by omega)
    rcases hv with ⟨rfl, rfl⟩ | ⟨g, off, cap, rfl, _⟩
    · exact ⟨_, _, rfl⟩
    · exact ⟨_, _, rfl⟩
  · obtain ⟨k, rfl⟩ : ∃ k : Nat, i = k := ⟨i.toNat, by omega⟩
    have hr : takeS bs k = takeAt bs (whiteAt bs k) := by
      unfold takeS
      rw [if_neg hi]
      rfl
    rcases hv with ⟨rfl, rfl⟩ | ⟨g, off, cap, rfl, hg, hcap, hmax, hc⟩
    · have : k = 0 := by simp at hi; omega
      subst this
      exact take_nil w
    · rw [hr]
      have hk : k ≤ bs.length := by omega
      have hle := whiteAt_le bs k
      have hm : cap ≤ 9223372036854775807 := hmax
      by_cases hp : whiteAt bs k = bs.length
      · exact take_end g off cap bs k _ w (by omega) hcap hm hk rfl hc hp
      · cases hl : letterB (bs.getD (whiteAt bs k) 0)
        · cases hd : digitB (bs.getD (whiteAt bs k) 0)
          · exact take_sign g off cap bs k _ w ht (by omega) hcap hm hk rfl hc (by omega) hl hd
          · exact take_digit g off cap bs k _ w (by omega) hcap hm hk rfl hc (by omega) hl hd
        · exact take_letter g off cap bs k _ w ht (by omega) hcap hm hk rfl hc (by omega) hl

theorem runAt_gt (p : UInt8 → Bool) (bs : List UInt8) (k : Nat) (hk : k < bs.length) (h : p (bs.getD k 0) = true) : k < runAt p bs k := by
  have hget : bs[k]? = some (bs.getD k 0) := by rw [List.getD_eq_getElem?_getD, List.getElem?_eq_getElem hk]; rfl
  rw [runAt_next p bs k _ hget h]
  have := runAt_le p bs (k + 1) hk
  omega
/-- A word's next place lies behind it. -/
theorem take_next (bs : List UInt8) (k : Nat) (hk : k ≤ bs.length) (he : (takeS bs k).2 = 0) (hn : (takeS bs k).1.kind ≠ 0) : k < (takeS bs k).1.next ∧ (takeS bs k).1.next ≤ bs.length := by
  have hr : takeS bs k = takeAt bs (whiteAt bs k) := by
    unfold takeS
    rw [if_neg (by omega)]
    rfl
  rw [hr] at he hn ⊢
  have h1 := whiteAt_ge bs k hk
  have h2 := whiteAt_le bs k
  generalize whiteAt bs k = p at *
  unfold takeAt at he hn ⊢
  by_cases hp : p = bs.length
  · rw [if_pos hp] at hn
    exact absurd rfl hn
  · rw [if_neg hp] at he hn ⊢
    by_cases hl : letterB (bs.getD p 0) = true
    · rw [if_pos hl]
      have := runAt_gt wordB bs p (by omega) (by unfold wordB; rw [hl]; rfl)
      have := runAt_le wordB bs p h2
      simp only
      omega
    · rw [if_neg hl] at he hn ⊢
      by_cases hd : digitB (bs.getD p 0) = true
      · rw [if_pos hd] at he hn ⊢
        by_cases ho : numberOk bs p = true
        · rw [if_pos ho]
          have := runAt_gt digitB bs p (by omega) hd
          have := runAt_le digitB bs p h2
          show k < runAt digitB bs p ∧ runAt digitB bs p ≤ bs.length
          omega
        · rw [if_neg ho] at he
          cases he
      · rw [if_neg hd] at he hn ⊢
        cases hs : signAt (bs.drop p) with
        | none => rw [hs] at he; cases he
        | some s =>
          have hmem := List.mem_of_find?_eq_some hs
          have hpre := List.find?_some hs
          have hlen := (List.isPrefixOf_iff_prefix.1 hpre).length_le
          rw [List.length_drop] at hlen
          have h3 : ∀ s ∈ signsL, 1 ≤ s.length := by decide
          have := h3 s hmem
          simp only
          omega

def allFrom (bs : List UInt8) : Nat → Nat → List WordS × Nat
  | 0, _ => ([], 0)
  | f + 1, k =>
    if (takeS bs k).2 ≠ 0 then ([], (takeS bs k).2)
    else if (takeS bs k).1.kind = 0 then ([], 0)
    else if (allFrom bs f (takeS bs k).1.next).2 ≠ 0 then ([], (allFrom bs f (takeS bs k).1.next).2) else ((takeS bs k).1 :: (allFrom bs f (takeS bs k).1.next).1, 0)
def allS (bs : List UInt8) : List WordS × Nat := allFrom bs (bs.length + 1) 0
def glue (out : List WordS) (r : List WordS × Nat) : List WordS × Nat := if r.2 ≠ 0 then ([], r.2) else (out ++ r.1, 0)
theorem glue_nil (bs : List UInt8) (f k : Nat) : glue [] (allFrom bs f k) = allFrom bs f k := by
  unfold glue
  cases f with
  | zero => rfl
  | succ f =>
    unfold allFrom
    repeat' split
    all_goals simp_all
theorem all_err (bs : List UInt8) (out : List WordS) (f k : Nat) (h : (takeS bs k).2 ≠ 0) : glue out (allFrom bs (f + 1) k) = ([], (takeS bs k).2) := by
  have e : allFrom bs (f + 1) k = ([], (takeS bs k).2) := by unfold allFrom; rw [if_pos h]
  unfold glue
  rw [e]
  simp [h]
theorem all_end (bs : List UInt8) (out : List WordS) (f k : Nat) (h : (takeS bs k).2 = 0) (h2 : (takeS bs k).1.kind = 0) : glue out (allFrom bs (f + 1) k) = (out, 0) := by
  have e : allFrom bs (f + 1) k = ([], 0) := by unfold allFrom; rw [if_neg (by rw [h]; decide), if_pos h2]
  unfold glue
  rw [e]
  simp
theorem all_next (bs : List UInt8) (out : List WordS) (f k : Nat) (h : (takeS bs k).2 = 0) (h2 : ¬ (takeS bs k).1.kind = 0) : glue out (allFrom bs (f + 1) k) = glue (out ++ [(takeS bs k).1]) (allFrom bs f (takeS bs k).1.next) := by
  have e : allFrom bs (f + 1) k = if (allFrom bs f (takeS bs k).1.next).2 ≠ 0 then ([], (allFrom bs f (takeS bs k).1.next).2) else ((takeS bs k).1 :: (allFrom bs f (takeS bs k).1.next).1, 0) := by
    conv => lhs; unfold allFrom
    rw [if_neg (by rw [h]; decide), if_neg h2]
  unfold glue
  rw [e]
  by_cases h3 : (allFrom bs f (takeS bs k).1.next).2 = 0
  · simp [h3]
  · simp [h3]

theorem news2 (w : World) (o : Obj) (xs : List Value) (e : TypeId) : ∀ j u, xs[j]? = some u → ((w.alloc o).alloc (.cells xs.toArray e)).cell? ⟨w.heap.size + 1, 0 + j, none⟩ = some u := by
  intro j u hu
  have := news_lit (w.alloc o) xs e j u hu
  rw [show (w.alloc o).heap.size = w.heap.size + 1 by simp] at this
  exact this
theorem cell_kept (w1 w2 : World) (v v2 : Value) (o o2 : Obj) (k : Nat) (hv : ∀ b, v.ownBlock = some b → b < w1.heap.size) (hg : Grew ((w1.alloc o).alloc o2) v w2 v2) : w2.cell? ⟨w1.heap.size, k, none⟩ = (w1.alloc o).cell? ⟨w1.heap.size, k, none⟩ := by
  have h1 := hg.grown.block w1.heap.size (by simp; omega) (fun e => by
    have := hv w1.heap.size e.symm
    omega)
  rw [World.cell?_of_block (w := (w1.alloc o).alloc o2) (a := ⟨w1.heap.size, k, none⟩) h1, alloc_cell _ _ _ (by simp)]
theorem ones_of5 (x : WordS) : ∀ u ∈ x.cells.toList, u.oneCell' = true := by
  intro u hu
  have : u ∈ [Value.int .i64 (x.kind : Int), .string ⟨x.text.toArray⟩, .int .u64 (x.int : Int), .int .i64 (x.at' : Int), .int .i64 (x.next : Int)] := hu
  simp only [List.mem_cons, List.not_mem_nil, or_false] at this
  rcases this with rfl | rfl | rfl | rfl | rfl <;> rfl
theorem slWords : SlTy Tryd.prog 33 26 5 48 (.agg #[.int .i64 0, .string ⟨#[]⟩, .int .u64 0, .int .i64 0, .int .i64 0]) := ⟨Tryd.underlying33, by kernel_rfl, rfl⟩
def flatW (l : List WordS) : List Value := l.flatMap fun x => x.cells.toList
def OwnWs (w : World) (B : Nat) (v : Value) (l : List WordS) : Prop := Own w B 26 5 v l.length (flatW l)
theorem flatW_snoc (l : List WordS) (x : WordS) : flatW (l ++ [x]) = flatW l ++ x.cells.toList := by simp [flatW]

/-- What golex.All answers. -/
def Alls (r : List WordS × Nat) (w : World) (e : Ending) (w' : World) : Prop := ∃ v, e = .returned (.tuple #[v, .int .i64 (r.2 : Int)]) ∧ OwnWs w' w.heap.size v r.1 ∧ Below w.heap.size w w'

set_option maxRecDepth 100000 in
set_option maxHeartbeats 1000000 in
theorem gAll (B : Nat) (v : Value) (bs : List UInt8) (w : World) (ht : Tabs w) (hv : RdB B w v bs) (hB : B ≤ w.heap.size) (hlen : bs.length ≤ 1099511627) : Calls Tryd.prog 13 #[v] w (Alls (allS bs) w) := by
  have H0 : Hid (allS bs = glue [] (allFrom bs (bs.length + 1) 0)) := by unfold Hid allS; rw [glue_nil]
  have HV := Lib.hid hv
  clear hv
  go_enter Tryd.func13, Tryd.ntmps13
  go_wp2_with fail
  go_loopw [4, 5] (fun o0 i wr => ∃ (f k : Nat) (out : List WordS), i = .int .i64 k ∧ k ≤ bs.length ∧ bs.length + 1 ≤ f + k ∧ out.length ≤ k ∧ Hid (allS bs = glue out (allFrom bs f k)) ∧ Hid (OwnWs wr w.heap.size o0 out) ∧ Below w.heap.size w wr) (fun _ i _ => (bs.length - intOf i).toNat)
  case atStart => exact ⟨bs.length + 1, 0, [], rfl, by omega, by omega, by simp, H0, Lib.hid (Own.nil _ _ _ _), Below.refl _ _⟩
  case round =>
    obtain ⟨f, k, out, rfl, hk, hf, hol, HR, HO, hb⟩ := hrel
    have hbs := hb.size
    have HT := Lib.hid (gTake B v bs k wr (ht.below hb) (HV.out.below (hb.mono hB)) (by omega))
    have hnx := take_next bs k hk
    obtain ⟨f, rfl⟩ : ∃ g, f = g + 1 := ⟨f - 1, by omega⟩
    have he1 := all_err bs out f k
    have he2 := all_end bs out f k
    have he3 := all_next bs out f k
    rw [← HR.out] at he1 he2 he3
    generalize takeS bs k = r at *
    obtain ⟨⟨k1, t1, n1, a1, x1⟩, er⟩ := r
    simp only at he1 he2 he3 hnx
    have HE1 := Lib.hid he1
    have HE2 := Lib.hid he2
    have HE3 := Lib.hid he3
    have HNX := Lib.hid hnx
    clear he1 he2 he3 hnx HR H0
    by_cases her : er = 0
    · subst her
      by_cases hk1 : k1 = 0
      · subst hk1
        go_wp2_with fail
        refine HT.out.mono ?_
        rintro e w1 ⟨rfl, hb1⟩
        simp only [WordS.cells]
        go_wp2_with fail
        have hall := HE2.out trivial trivial
        refine bodyPost_ret (v := .tuple #[u4, .int .i64 0]) (by simp [results, Tryd.results13, go_sem]) rfl ?_
        rw [hall]
        exact ⟨u4, rfl, ((HO.out.below hb1).alloc _), (hb.trans (hb1.mono hbs)).alloc (by have := hb1.size; omega) _⟩
      · have hk1' : ((k1 : Int) == 0) = false := beq_eq_false_iff_ne.2 (by omega)
        go_wp2_with fail
        refine HT.out.mono ?_
        rintro e w1 ⟨rfl, hb1⟩
        simp only [WordS.cells]
        have hnx := HNX.out trivial hk1
        have hsz1 := hb1.size
        have HO1 := Lib.hid (HO.out.below hb1)
        have hkeep : ∀ (v2 : Value) (w2 : World) (o o2 : Obj), Grew ((w1.alloc o).alloc o2) u4 w2 v2 → w2.cell? ⟨w1.heap.size, 4, none⟩ = (w1.alloc o).cell? ⟨w1.heap.size, 4, none⟩ := fun v2 w2 o o2 hg => cell_kept w1 w2 u4 v2 o o2 4 (fun b hb => (HO1.out.lt b hb).2) hg
        go_wp2_with (at_builtin; refine wpList_app_slice rfl slWords (.tmp 23) (.tmp 25) rfl w.heap.size u4 _ _ rfl ((HO1.out.alloc _).alloc _) (w1.heap.size + 1) 0 1 1 rfl (WordS.mk k1 t1 n1 a1 x1).cells.toList rfl (by exact news2 _ _ _ _) (ones_of5 _) (by unfold maxLen; omega) (by omega) (by simp; omega) ?_; intro v2 w2 ho2 hg2; have hcx := hkeep _ _ _ _ hg2)
        go_roundw
        case rel =>
          refine ⟨f, x1, out ++ [⟨k1, t1, n1, a1, x1⟩], by go_num, hnx.2, by omega, by simp; omega, Lib.hid (HE3.out trivial hk1), ?_, ?_⟩
          · unfold Hid OwnWs
            rw [flatW_snoc, List.length_append]
            exact ho2
          · have h1 := hb.trans (hb1.mono hbs)
            have h2 := h1.alloc h1.size (Obj.cells (WordS.mk k1 t1 n1 a1 x1).cells 26)
            exact (h2.alloc h2.size (Obj.cells (WordS.mk k1 t1 n1 a1 x1).cells 26)).grown hg2.grown (by simp; omega) (fun b hb => (HO1.out.lt b hb).1)
        case measure => simp [intOf]; omega
    · have her' : ((er : Int) == 0) = false := beq_eq_false_iff_ne.2 (by omega)
      go_wp2_with fail
      refine HT.out.mono ?_
      rintro e w1 ⟨rfl, hb1⟩
      simp only [WordS.cells]
      go_wp2_with fail
      have hall := HE1.out her
      refine bodyPost_ret (v := .tuple #[.slice none 0 0, .int .i64 (er : Int)]) (by simp [results, Tryd.results13, go_sem]) rfl ?_
      rw [hall]
      exact ⟨_, rfl, Own.nil _ _ _ _, (hb.trans (hb1.mono hbs)).alloc (by have := hb1.size; omega) _⟩
end Go.Proofs.YtaelanpmgckfkaaRRRRDoor
