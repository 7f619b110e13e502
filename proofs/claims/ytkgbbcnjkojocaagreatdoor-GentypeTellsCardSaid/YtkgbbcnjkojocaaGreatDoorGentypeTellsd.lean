/- GentypeTells: whatever the schema and the place, the program and the document tell the same types and structs. Part 4 of 5 of the proof. -/
import Derived.Test.YtkgbbcnjkojocaaGreatDoorGentypeTellsc
import Derived.Test.YtkgbbcnjkojocaaGreatDoorRows
import Derived.Sort.OwnSorted
import Derived.Lib.SlicesCompact
namespace Go.Proofs.YtkgbbcnjkojocaaGreatDoor
open Go.RowKit Go.Av Go.Ab
set_option linter.unusedSimpArgs false
set_option linter.unusedVariables false
set_option maxRecDepth 100000
theorem row_at {b : List UInt8} {i : Nat} (h : i < b.length) : (b.map byteRow)[i]? = some [.int .u8 (uI (b.getD i 0))] := by simp [byteRow, uI, h]
theorem okU_drop {b : List UInt8} {i k : Nat} : okU (b.drop i) k = (match b[i + k]? with
 | none => false
 | some x => conU (uI x) && (!decide (k = 1) || secU (uI (b.getD i 0)) (uI x))) := by
 simp only [okU, List.getElem?_drop, List.getD, Nat.add_zero]
 cases b[i + k]? <;> rfl
theorem and192 (b : UInt8) : decide (IntKind.u8.wrap ((BitVec.ofInt IntKind.u8.bits (uI b) &&& BitVec.ofInt IntKind.u8.bits 192).toNat : Int) = 128) = conU (uI b) := by
 have key : ∀ n : Fin 256, decide (IntKind.u8.wrap ((BitVec.ofInt IntKind.u8.bits (n.val : Int) &&& BitVec.ofInt IntKind.u8.bits 192).toNat : Int) = 128) = conU (n.val : Int) := by decide +kernel
 exact key ⟨b.toNat, b.toNat_lt⟩
set_option maxHeartbeats 16000000 in
theorem utake_ab (b : List UInt8) (hb : b.length ≤ 4611686018427387904) (i : Nat) (hi : i ≤ b.length) (B : List (List V)) (T : List (Nat × Nat)) : AFn Tryz.prog TabI 124 [.d (.sl (b.map byteRow)), .d (.int .i64 (i : Int))] ⟨B, T⟩ fun v S' => (∃ c n e : Int, v = .tup [.d (.int .i32 c), .d (.int .i64 n), .d (.int .i64 e)] ∧ (if takU (b.drop i) = 0 then e ≠ 0 else e = 0 ∧ n = (i : Int) + (takU (b.drop i) : Int))) ∧ S' = ⟨B, T⟩ := by
 have hbl : (b.map byteRow).length = b.length := by simp
 have e1 : decide ((i : Int) < 0) = false := decide_eq_false (by omega)
 have e2 : decide ((b.length : Int) < (i : Int)) = false := decide_eq_false (by omega)
 by_cases hlt : i < b.length
 case neg =>
  have e3 : decide ((i : Int) = (b.length : Int)) = true := decide_eq_true (by omega)
  refine enS b124 fun hsm => ?_
  simp only [smw] at hsm
  simp only [W, seval, b124, hbl, e1, e2, e3]
  refine retN b124 (Left.none ?_)
  exact ⟨⟨_, _, _, rfl, by rw [List.drop_eq_nil_of_le (by omega)]; simp [takU]⟩, rfl⟩
 have e3 : decide ((i : Int) = (b.length : Int)) = false := decide_eq_false (by omega)
 have hge := row_at hlt
 obtain ⟨b0, hb0⟩ : ∃ b0, b.getD i 0 = b0 := ⟨_, rfl⟩
 have hdr : b.drop i = b0 :: b.drop (i + 1) := by
  rw [drop_get hlt, ← hb0]
  simp [List.getD, hlt]
 rw [hb0] at hge
 have hT := takU_ok b0 (b.drop (i + 1))
 rw [← hdr] at hT
 refine enS b124 fun hsm => ?_
 simp only [smw] at hsm
 simp only [W, seval, b124, hbl, e1, e2, e3, hge, hlt]
 refine callS_of (first_ab (uI b0) B T) ?_
 rintro _ _ ⟨⟨x, rfl⟩, rfl⟩
 have hf4 := firU_in (uI b0)
 obtain ⟨F, hF⟩ : ∃ F, firU (uI b0) = F := ⟨_, rfl⟩
 rw [hF] at hT hf4 ⊢
 by_cases hz : F = 0
 ·subst hz
  refine goN ?_
  simp only [W, seval, b124, hbl]
  refine retN b124 (Left.none ?_)
  exact ⟨⟨_, _, _, rfl, by rw [hT]; simp⟩, rfl⟩
 have e4 : decide ((F : Int) = 0) = false := decide_eq_false (by omega)
 rw [if_neg hz] at hT
 refine goN ?_
 simp only [W, seval, b124, e4]
 refine ARun.loopW (fun p : Nat × Int => (envS 80 [(0, .d (.sl (b.map byteRow))), (1, .d (.int .i64 (i : Int))), (4, .d (.int .i32 p.2)), (7, .d (.int .i64 (F : Int))), (8, .d (.int .i64 (p.1 : Int)))], ⟨B, T⟩)) (fun p => 1 ≤ p.1 ∧ p.1 ≤ F ∧ i + p.1 ≤ b.length ∧ ∀ k, 1 ≤ k → k < p.1 → okU (b.drop i) k = true) (fun p => F - p.1) (1, x) ⟨by omega, by omega, by dsimp only; omega, fun k h1 h2 => by omega⟩ envA rfl ?_
 rintro ⟨k, c⟩ ⟨h1, h2, h4, h3⟩ ih
 dsimp only at h1 h2 h3 h4 ih ⊢
 by_cases hk : k < F
 case neg =>
  have e5 : decide ((k : Int) < (F : Int)) = false := decide_eq_false (by omega)
  have hw := wrap_in ((i : Int) + (F : Int)) (by omega)
  have hall : ((List.range (F - 1)).all fun j => okU (b.drop i) (j + 1)) = true := List.all_eq_true.2 fun j hj => h3 (j + 1) (by omega) (by have := List.mem_range.1 hj; omega)
  rw [if_pos hall] at hT
  refine goN ?_
  simp only [W, seval, b124, e5, hw]
  refine retN b124 (Left.none ?_)
  exact ⟨⟨_, _, _, rfl, by rw [hT, if_neg hz]; exact ⟨rfl, rfl⟩⟩, rfl⟩
 have e5 : decide ((k : Int) < (F : Int)) = true := decide_eq_true (by omega)
 have hw := wrap_in ((i : Int) + (k : Int)) (by omega)
 have hno : okU (b.drop i) k = false → takU (b.drop i) = 0 := fun h => by
  rw [hT, if_neg]
  intro ha
  have := List.all_eq_true.1 ha (k - 1) (List.mem_range.2 (by omega))
  rw [show k - 1 + 1 = k by omega, h] at this
  cases this
 by_cases hkl : i + k < b.length
 case neg =>
  have e6 : decide (((i : Int) + (k : Int)) = (b.length : Int)) = true := decide_eq_true (by omega)
  refine goN ?_
  simp only [W, seval, b124, e5, e6, hw, hbl]
  refine retN b124 (Left.none ?_)
  exact ⟨⟨_, _, _, rfl, by rw [if_pos (hno (by rw [okU_drop, List.getElem?_eq_none (by omega)]))]; decide⟩, rfl⟩
 have e6 : decide (((i : Int) + (k : Int)) = (b.length : Int)) = false := decide_eq_false (by omega)
 have hgk := row_at hkl
 have hti : ((i : Int) + (k : Int)).toNat = i + k := by omega
 have hnn : 0 ≤ (i : Int) + (k : Int) := by omega
 obtain ⟨d, hd⟩ : ∃ d, b.getD (i + k) 0 = d := ⟨_, rfl⟩
 rw [hd] at hgk
 have hok : okU (b.drop i) k = (conU (uI d) && (!decide (k = 1) || secU (uI b0) (uI d))) := by
  rw [okU_drop, hb0, List.getElem?_eq_getElem hkl, ← hd]
  simp [List.getD, hkl]
 have ha := and192 d
 have hfin : okU (b.drop i) k = true → ∀ j, 1 ≤ j → j < k + 1 → okU (b.drop i) j = true := fun h j g1 g2 => by
  by_cases hjk : j < k
  ·exact h3 j g1 hjk
  ·rw [show j = k by omega]; exact h
 have hwk := wrap_in ((k : Int) + 1) (by omega)
 cases hc : conU (uI d)
 ·rw [hc] at ha hok
  refine goN ?_
  simp only [W, seval, b124, e5, e6, hw, hbl, hgk, hkl, hti, hnn, ha]
  refine retN b124 (Left.none ?_)
  exact ⟨⟨_, _, _, rfl, by rw [if_pos (hno hok)]; decide⟩, rfl⟩
 rw [hc] at ha hok
 by_cases hk1 : k = 1
 ·rw [decide_eq_true hk1, Bool.not_true, Bool.false_or, Bool.true_and] at hok
  have e7 : decide ((k : Int) = 1) = true := decide_eq_true (by omega)
  have hti0 : (i : Int).toNat = i := by omega
  have hnn0 : 0 ≤ (i : Int) := by omega
  refine goN ?_
  simp only [W, seval, b124, e5, e6, hw, hbl, hgk, hkl, hti, hnn, ha, e7, hge, hlt]
  refine callNo (second_ab (uI b0) (uI d) B T) ?_
  cases hs : secU (uI b0) (uI d)
  ·rw [hs] at hok
   refine goN ?_
   simp only [W, seval, b124, hbl]
   refine retN b124 (Left.none ?_)
   exact ⟨⟨_, _, _, rfl, by rw [if_pos (hno hok)]; decide⟩, rfl⟩
  ·rw [hs] at hok
   refine goN ?_
   simp only [W, seval, b124, hbl, hwk]
   exact ih (k + 1, _) ⟨by omega, by dsimp only; omega, by dsimp only; omega, hfin hok⟩ (by dsimp only; omega) _ _ envA rfl
 ·have e7 : decide ((k : Int) = 1) = false := decide_eq_false (by omega)
  rw [decide_eq_false hk1, Bool.not_false, Bool.true_or, Bool.true_and] at hok
  refine goN ?_
  simp only [W, seval, b124, e5, e6, hw, hbl, hgk, hkl, hti, hnn, ha, e7, hwk]
  exact ih (k + 1, _) ⟨by omega, by dsimp only; omega, by dsimp only; omega, hfin hok⟩ (by dsimp only; omega) _ _ envA rfl
theorem takU_le (b : List UInt8) : takU b ≤ b.length := by
 unfold takU
 repeat' split
 all_goals simp
set_option maxHeartbeats 8000000 in
theorem ucount_ab (b : List UInt8) (hb : b.length ≤ 4611686018427387904) (B : List (List V)) (T : List (Nat × Nat)) : AFn Tryz.prog TabI 117 [.d (.sl (b.map byteRow))] ⟨B, T⟩ fun v S' => (∃ n e : Int, v = .tup [.d (.int .i64 n), .d (.int .i64 e)] ∧ decide (e = 0) = allU b.length b) ∧ S' = ⟨B, T⟩ := by
 have hbl : (b.map byteRow).length = b.length := by simp
 refine enS b117 fun hsm => ?_
 simp only [smw] at hsm
 simp only [W, seval, b117, hbl]
 refine ARun.loopW (fun p : Nat × Nat × Nat => (envS 26 [(0, .d (.sl (b.map byteRow))), (4, .d (.int .i64 (p.2.1 : Int))), (5, .d (.int .i64 (p.1 : Int)))], ⟨B, T⟩)) (fun p => p.1 ≤ b.length ∧ p.2.1 ≤ p.1 ∧ b.length ≤ p.1 + p.2.2 ∧ allU b.length b = allU p.2.2 (b.drop p.1)) (fun p => b.length - p.1) (0, 0, b.length) ⟨by dsimp only; omega, by dsimp only; omega, by dsimp only; omega, rfl⟩ envA rfl ?_
 rintro ⟨i, k, n⟩ ⟨h1, h2, h3, h4⟩ ih
 dsimp only at h1 h2 h3 h4 ih ⊢
 by_cases hlt : i < b.length
 case neg =>
  have e1 : decide ((i : Int) < (b.length : Int)) = false := decide_eq_false (by omega)
  rw [List.drop_eq_nil_of_le (by omega), all_u_end] at h4
  refine goN ?_
  simp only [W, seval, b117, e1, hbl]
  refine retN b117 (Left.none ?_)
  exact ⟨⟨_, _, rfl, by rw [h4]; rfl⟩, rfl⟩
 have e1 : decide ((i : Int) < (b.length : Int)) = true := decide_eq_true (by omega)
 obtain ⟨n, rfl⟩ : ∃ m, n = m + 1 := ⟨n - 1, by omega⟩
 have hne : (b.drop i).isEmpty = false := by rw [drop_get hlt]; rfl
 rw [allU, hne, Bool.false_or, List.drop_drop] at h4
 have hle := takU_le (b.drop i)
 rw [List.length_drop] at hle
 have hwk := wrap_in ((k : Int) + 1) (by omega)
 refine goN ?_
 simp only [W, seval, b117, e1, hbl]
 refine callS_of (utake_ab b hb i h1 B T) ?_
 rintro _ _ ⟨⟨c, m, e, rfl, he⟩, rfl⟩
 by_cases ht : takU (b.drop i) = 0
 ·rw [if_pos ht] at he
  rw [ht] at h4
  have e2 : decide (e = 0) = false := decide_eq_false he
  refine goN ?_
  simp only [W, seval, b117, e2]
  refine retN b117 (Left.none ?_)
  exact ⟨⟨_, _, rfl, by rw [h4]; rfl⟩, rfl⟩
 ·rw [if_neg ht] at he
  obtain ⟨rfl, rfl⟩ := he
  rw [decide_eq_true (by omega), Bool.true_and] at h4
  refine goN ?_
  simp only [W, seval, b117, hwk]
  exact ih (i + takU (b.drop i), k + 1, n) ⟨by dsimp only; omega, by dsimp only; omega, by dsimp only; omega, h4⟩ (by dsimp only; omega) _ _ envA rfl
set_option maxHeartbeats 8000000 in
theorem uright_ab (b : List UInt8) (hb : b.length ≤ 4611686018427387904) (B : List (List V)) (T : List (Nat × Nat)) : AFn Tryz.prog TabI 108 [.d (.sl (b.map byteRow))] ⟨B, T⟩ (Same (.d (.bool (allU b.length b))) ⟨B, T⟩) := by
 refine enN b108 ?_
 simp only [W, seval, b108]
 refine callS_of (ucount_ab b hb B T) ?_
 rintro _ _ ⟨⟨n, e, rfl, he⟩, rfl⟩
 refine goN ?_
 simp only [W, seval, b108, he]
 refine retN b108 (Left.none ?_)
 exact ⟨rfl, rfl⟩
set_option linter.defProp false
def b128 := KB Tryz.func128 17
def b122 := KB Tryz.func122 54
def b129 := KB Tryz.func129 20
set_option maxHeartbeats 2000000 in
theorem chr_ab (c : Int) (B : List (List V)) (T : List (Nat × Nat)) : AFn Tryz.prog TabI 128 [.d (.int .i64 c)] ⟨B, T⟩ (Same (.d (.bool (chrR c))) ⟨B, T⟩) := by
 unfold chrR
 cases e1 : decide (0 ≤ c) <;> cases e2 : decide (c ≤ 1114111) <;> cases e3 : decide (c < 55296)
 all_goals
  refine enN b128 ?_
  simp only [W, seval, b128, e1, e2, e3]
  refine retN b128 (Left.none ?_)
  exact ⟨rfl, rfl⟩
theorem u8wrap (v : Int) : IntKind.u8.wrap v = v % 256 := by rfl
theorem byte8 (v : Int) : byteRow (byR v) = [D.int .u8 (IntKind.u8.wrap v)] := by
 unfold byteRow byR
 rw [u8wrap, UInt8.toNat_ofNat', show ((v % 256).toNat % 2 ^ 8 : Nat) = (v % 256).toNat by omega, Int.toNat_of_nonneg (by omega)]
set_option maxHeartbeats 4000000 in
theorem put_ab (c : Int) (h0 : 0 ≤ c) (h1 : c ≤ 1114111) (B : List (List V)) (T : List (Nat × Nat)) : AFn Tryz.prog TabI 122 [.d (.int .i64 c)] ⟨B, T⟩ (Same (.d (.sl ((putR c).map byteRow))) ⟨B, T⟩) := by
 have w1 := wrap_in (192 + c / 64) (by omega)
 have w2 := wrap_in (128 + c % 64) (by omega)
 have w3 := wrap_in (224 + c / 4096) (by omega)
 have w4 := wrap_in (128 + c / 64 % 64) (by omega)
 have w5 := wrap_in (240 + c / 262144) (by omega)
 have w6 := wrap_in (128 + c / 4096 % 64) (by omega)
 have d1 : c.tdiv 64 = c / 64 := Int.tdiv_eq_ediv_of_nonneg h0
 have d2 : c.tdiv 4096 = c / 4096 := Int.tdiv_eq_ediv_of_nonneg h0
 have d3 : c.tdiv 262144 = c / 262144 := Int.tdiv_eq_ediv_of_nonneg h0
 have v1 := wrap_in (c / 64) (by omega)
 have v2 := wrap_in (c / 4096) (by omega)
 have v3 := wrap_in (c / 262144) (by omega)
 have m1 : c.tmod 64 = c % 64 := Int.tmod_eq_emod_of_nonneg h0
 have m2 : (c / 64).tmod 64 = c / 64 % 64 := Int.tmod_eq_emod_of_nonneg (by omega)
 have m3 : (c / 4096).tmod 64 = c / 4096 % 64 := Int.tmod_eq_emod_of_nonneg (by omega)
 unfold putR
 by_cases g1 : c < 128
 ·have e1 := decide_eq_true g1
  rw [if_pos g1]
  simp only [List.map_cons, List.map_nil, byte8]
  refine enS b122 fun hsm => ?_
  simp only [smw] at hsm
  simp only [W, seval, b122, e1, mapX_nil, mapX_cons, mapX_sl]
  refine retN b122 (Left.none ?_)
  exact ⟨rfl, rfl⟩
 have e1 := decide_eq_false g1
 rw [if_neg g1]
 by_cases g2 : c < 2048
 ·have e2 := decide_eq_true g2
  rw [if_pos g2]
  simp only [List.map_cons, List.map_nil, byte8]
  refine enS b122 fun hsm => ?_
  simp only [smw] at hsm
  simp only [W, seval, b122, e1, e2, mapX_nil, mapX_cons, mapX_sl, w1, w2, w3, w4, w5, w6, d1, d2, d3, v1, v2, v3, m1, m2, m3]
  refine retN b122 (Left.none ?_)
  exact ⟨rfl, rfl⟩
 have e2 := decide_eq_false g2
 rw [if_neg g2]
 by_cases g3 : c < 65536
 ·have e3 := decide_eq_true g3
  rw [if_pos g3]
  simp only [List.map_cons, List.map_nil, byte8]
  refine enS b122 fun hsm => ?_
  simp only [smw] at hsm
  simp only [W, seval, b122, e1, e2, e3, mapX_nil, mapX_cons, mapX_sl, w1, w2, w3, w4, w5, w6, d1, d2, d3, v1, v2, v3, m1, m2, m3]
  refine retN b122 (Left.none ?_)
  exact ⟨rfl, rfl⟩
 have e3 := decide_eq_false g3
 rw [if_neg g3]
 simp only [List.map_cons, List.map_nil, byte8]
 refine enS b122 fun hsm => ?_
 simp only [smw] at hsm
 simp only [W, seval, b122, e1, e2, e3, mapX_nil, mapX_cons, mapX_sl, w1, w2, w3, w4, w5, w6, d1, d2, d3, v1, v2, v3, m1, m2, m3]
 refine retN b122 (Left.none ?_)
 exact ⟨rfl, rfl⟩
set_option maxHeartbeats 2000000 in
theorem starts_ab (b p : List UInt8) (B : List (List V)) (T : List (Nat × Nat)) : AFn Tryz.prog TabI 129 [.d (.sl (b.map byteRow)), .d (.sl (p.map byteRow))] ⟨B, T⟩ (Same (.d (.bool (p.isPrefixOf b))) ⟨B, T⟩) := by
 have hbl : (b.map byteRow).length = b.length := by simp
 have hpl : (p.map byteRow).length = p.length := by simp
 have htk : (b.map byteRow).take p.length = (b.take p.length).map byteRow := by rw [List.map_take]
 have hfp := fromBytes_map p
 have hfb := fromBytes_map (b.take p.length)
 have hrs : rowsSz 1 (b.map byteRow) = true := by simp [rowsSz, byteRow]
 by_cases hle : p.length ≤ b.length
 ·have e1 : decide ((p.length : Int) ≤ (b.length : Int)) = true := decide_eq_true (by omega)
  have hle2 : (p.length : Int) ≤ (b.length : Int) := by omega
  have hpf : decide (b.take p.length = p) = p.isPrefixOf b := by
   rw [Bool.eq_iff_iff, decide_eq_true_iff, List.isPrefixOf_iff_prefix, List.prefix_iff_eq_take]
   exact ⟨Eq.symm, Eq.symm⟩
  refine enS b129 fun hsm => ?_
  simp only [smw] at hsm
  simp only [W, seval, b129, hbl, hpl]
  refine drXA 1 [] [] ?_
  simp (maxSteps := 4000000) only [W, seval, b129, xw, hbl, hpl, e1, hfp, hfb, htk, hle2, hrs]
  refine retN b129 (Left.none ?_)
  rw [← hpf]
  exact ⟨rfl, rfl⟩
 ·have e1 : decide ((p.length : Int) ≤ (b.length : Int)) = false := decide_eq_false (by omega)
  refine enS b129 fun hsm => ?_
  simp only [smw] at hsm
  simp only [W, seval, b129, hbl, hpl]
  refine drXA 1 [] [] ?_
  simp (maxSteps := 4000000) only [W, seval, b129, xw, hbl, hpl, e1, hfp, hfb, htk]
  refine retN b129 (Left.none ?_)
  have hpf : p.isPrefixOf b = false := by
   cases h : p.isPrefixOf b
   ·rfl
   ·exact absurd (List.isPrefixOf_iff_prefix.1 h).length_le hle
  rw [hpf]
  exact ⟨rfl, rfl⟩
def b121 := KB Tryz.func121 84
def mulN : Nat → Int | 2 => 64 | 3 => 4096 | 4 => 262144 | _ => 0
def basN : Nat → Int | 2 => 192 | 3 => 224 | 4 => 240 | _ => 0
def sumC (b : List UInt8) (n : Nat) : Nat → Int
 | 0 => 0
 | 1 => 0
 | k + 2 => sumC b n (k + 1) + (uI (b.getD (k + 1) 0) - 128) * 64 ^ (n - 2 - k)
def firC (b : List UInt8) (n : Nat) : Int := if n = 1 then uI (b.getD 0 0) else (uI (b.getD 0 0) - basN n) * mulN n
def cOf (b : List UInt8) (n : Nat) : Int := firC b n + sumC b n n
def whoF (b : List UInt8) : Nat → Nat → Option Int
 | 0, _ => none
 | f + 1, n => if n ≤ b.length then if okR b n (cOf b n) = true then some (cOf b n) else whoF b f (n + 1) else none
theorem whoR_eq (b : List UInt8) : whoR b = whoF b 4 1 := by
 rcases b with _ | ⟨b0, _ | ⟨b1, _ | ⟨b2, _ | ⟨b3, r⟩⟩⟩⟩ <;> simp [whoR, whoF, cOf, firC, sumC, mulN, basN, Int.add_assoc]
theorem sumC_step (b : List UInt8) (n k : Nat) (h : 1 ≤ k) (hk : k < n) : sumC b n (k + 1) = sumC b n k + (uI (b.getD k 0) - 128) * 64 ^ (n - (k + 1)) := by
 obtain ⟨k, rfl⟩ : ∃ m, k = m + 1 := ⟨k - 1, by omega⟩
 rw [sumC, show n - 2 - k = n - (k + 1 + 1) by omega]
set_option maxHeartbeats 16000000 in
theorem whole_ab (b : List UInt8) (hb : b.length ≤ 4611686018427387904) (B : List (List V)) (T : List (Nat × Nat)) : AFn Tryz.prog TabI 121 [.d (.sl (b.map byteRow))] ⟨B, T⟩ (Same (.d (.int .i64 ((whoR b).getD (-1)))) ⟨B, T⟩) := by
 have hbl : (b.map byteRow).length = b.length := by simp
 refine enS b121 fun hsm => ?_
 simp only [smw] at hsm
 simp only [W, seval, b121, mapX_nil, mapX_cons]
 refine ARun.loopW (fun n : Nat => (envS 84 [(0, .d (.sl (b.map byteRow))), (3, .sl [[.int .i64 0], [.int .i64 64], [.int .i64 4096], [.int .i64 262144]] .full), (4, .sl [[.int .i64 0], [.int .i64 192], [.int .i64 224], [.int .i64 240]] .full), (5, .d (.int .i64 (n : Int)))], ⟨B, T⟩)) (fun n => 1 ≤ n ∧ n ≤ 5 ∧ whoR b = whoF b (5 - n) n) (fun n => 5 - n) 1 ⟨by omega, by omega, whoR_eq b⟩ envA rfl ?_
 rintro n ⟨h1, h2, h3⟩ ih
 dsimp only at h1 h2 h3 ih ⊢
 by_cases h4 : n ≤ 4
 case neg =>
  have e1 : decide ((n : Int) ≤ 4) = false := decide_eq_false (by omega)
  rw [show 5 - n = 0 by omega, whoF] at h3
  refine goN ?_
  simp only [W, seval, b121, e1]
  refine retN b121 (Left.none ?_)
  rw [h3]
  exact ⟨rfl, rfl⟩
 have e1 : decide ((n : Int) ≤ 4) = true := decide_eq_true (by omega)
 obtain ⟨f, hf⟩ : ∃ f, 5 - n = f + 1 := ⟨4 - n, by omega⟩
 rw [hf, whoF] at h3
 by_cases h5 : n ≤ b.length
 case neg =>
  have e2 : decide ((n : Int) ≤ (b.length : Int)) = false := decide_eq_false (by omega)
  rw [if_neg h5] at h3
  refine goN ?_
  simp only [W, seval, b121, e1, e2, hbl]
  refine retN b121 (Left.none ?_)
  rw [h3]
  exact ⟨rfl, rfl⟩
 have e2 : decide ((n : Int) ≤ (b.length : Int)) = true := decide_eq_true (by omega)
 rw [if_pos h5] at h3
 have hl0 : 0 < b.length := by omega
 have hg0 := row_at hl0
 obtain ⟨d0, hd0⟩ : ∃ d, b.getD 0 0 = d := ⟨_, rfl⟩
 rw [hd0] at hg0
 have hd0l := uI_lt d0
 have v1 := wrap_in (uI d0) (by omega)
 have hF : -100000000 ≤ firC b n ∧ firC b n ≤ 100000000 := by
  unfold firC
  rw [hd0]
  have : n = 1 ∨ n = 2 ∨ n = 3 ∨ n = 4 := by omega
  rcases this with h | h | h | h <;> subst h <;> simp [basN, mulN] <;> omega
 by_cases hn1 : n = 1
 ·have e3 : decide (1 < (n : Int)) = false := decide_eq_false (by omega)
  have hfc : firC b n = uI d0 := by unfold firC; rw [if_pos hn1, hd0]
  refine goN ?_
  simp only [W, seval, b121, e1, e2, e3, hbl, hg0, hl0, v1]
  rw [← hfc]
  refine ARun.loopW (fun p : Nat × Int => (envS 84 [(0, .d (.sl (b.map byteRow))), (3, .sl [[.int .i64 0], [.int .i64 64], [.int .i64 4096], [.int .i64 262144]] .full), (4, .sl [[.int .i64 0], [.int .i64 192], [.int .i64 224], [.int .i64 240]] .full), (5, .d (.int .i64 (n : Int))), (6, .d (.int .i64 p.2)), (7, .d (.int .i64 (p.1 : Int)))], ⟨B, T⟩)) (fun p => 1 ≤ p.1 ∧ p.1 ≤ n ∧ p.2 = firC b n + sumC b n p.1 ∧ -524288 * (p.1 : Int) ≤ sumC b n p.1 ∧ sumC b n p.1 ≤ 524288 * (p.1 : Int)) (fun p => n - p.1) (1, firC b n) ⟨by dsimp only; omega, by dsimp only; omega, by simp [sumC], by simp [sumC], by simp [sumC]⟩ envA rfl ?_
  rintro ⟨k, c⟩ ⟨g1, g2, g3, g4, g5⟩ ih2
  dsimp only at g1 g2 g3 g4 g5 ih2 ⊢
  by_cases hk : k < n
  case neg =>
   have e5 : decide ((k : Int) < (n : Int)) = false := decide_eq_false (by omega)
   have hkn : k = n := by omega
   have hc : c = cOf b n := by rw [g3, hkn]; rfl
   refine goN ?_
   simp only [W, seval, b121, e5]
   rw [← hc] at h3
   have hfn : 5 - (n + 1) = f := by omega
   have u1 := wrap_in ((n : Int) + 1) (by omega)
   have hok : okR b n c = (chrR c && (decide ((putR c).length = n) && (putR c).isPrefixOf b)) := rfl
   refine callNo (chr_ab c B T) ?_
   cases hch : chrR c
   ·rw [hok, hch, Bool.false_and, if_neg (by decide), ← hfn] at h3
    refine goN ?_
    simp only [W, seval, b121, u1]
    exact ih (n + 1) ⟨by omega, by omega, h3⟩ (by omega) _ _ envA rfl
   have hcc : 0 ≤ c ∧ c ≤ 1114111 := by
    unfold chrR at hch
    simp only [Bool.and_eq_true, decide_eq_true_eq] at hch
    exact ⟨hch.1, hch.2.1⟩
   have hpl : ((putR c).map byteRow).length = (putR c).length := by simp
   rw [hok, hch, Bool.true_and] at h3
   refine goN ?_
   simp only [W, seval, b121]
   refine callNo (put_ab c hcc.1 hcc.2 B T) ?_
   by_cases hlen : (putR c).length = n
   case neg =>
    have e8 : decide (((putR c).length : Int) = (n : Int)) = false := decide_eq_false (by omega)
    rw [decide_eq_false hlen, Bool.false_and, if_neg (by decide), ← hfn] at h3
    refine goN ?_
    simp only [W, seval, b121, e8, hpl, u1]
    exact ih (n + 1) ⟨by omega, by omega, h3⟩ (by omega) _ _ envA rfl
   have e8 : decide (((putR c).length : Int) = (n : Int)) = true := decide_eq_true (by omega)
   rw [decide_eq_true hlen, Bool.true_and] at h3
   refine goN ?_
   simp only [W, seval, b121, e8, hpl]
   refine callNo (put_ab c hcc.1 hcc.2 B T) ?_
   refine goN ?_
   simp only [W, seval, b121]
   refine callNo (starts_ab b (putR c) B T) ?_
   cases hpx : (putR c).isPrefixOf b
   ·rw [hpx, if_neg (by decide), ← hfn] at h3
    refine goN ?_
    simp only [W, seval, b121, u1]
    exact ih (n + 1) ⟨by omega, by omega, h3⟩ (by omega) _ _ envA rfl
   ·rw [hpx, if_pos rfl] at h3
    refine goN ?_
    simp only [W, seval, b121]
    refine retN b121 (Left.none ?_)
    rw [h3]
    exact ⟨rfl, rfl⟩
  have e5 : decide ((k : Int) < (n : Int)) = true := decide_eq_true (by omega)
  have w1 := wrap_in ((k : Int) + 1) (by omega)
  refine goN ?_
  simp only [W, seval, b121, e5, w1]
  refine ARun.loopW (fun p : Nat × Int => (envS 84 [(0, .d (.sl (b.map byteRow))), (3, .sl [[.int .i64 0], [.int .i64 64], [.int .i64 4096], [.int .i64 262144]] .full), (4, .sl [[.int .i64 0], [.int .i64 192], [.int .i64 224], [.int .i64 240]] .full), (5, .d (.int .i64 (n : Int))), (6, .d (.int .i64 c)), (7, .d (.int .i64 (k : Int))), (8, .d (.int .i64 p.2)), (9, .d (.int .i64 (p.1 : Int)))], ⟨B, T⟩)) (fun p => k + 1 ≤ p.1 ∧ p.1 ≤ n ∧ p.2 = 64 ^ (p.1 - (k + 1))) (fun p => n - p.1) (k + 1, 1) ⟨by dsimp only; omega, by dsimp only; omega, by simp⟩ envA rfl ?_
  rintro ⟨j, pw⟩ ⟨f1, f2, f3⟩ ih3
  dsimp only at f1 f2 f3 ih3 ⊢
  by_cases hj : j < n
  ·have e6 : decide ((j : Int) < (n : Int)) = true := decide_eq_true (by omega)
   have hpw : pw = 1 ∨ pw = 64 := by
    have : j - (k + 1) = 0 ∨ j - (k + 1) = 1 := by omega
    rcases this with h | h <;> rw [h] at f3 <;> simp at f3 <;> omega
   have w2 := wrap_in (pw * 64) (by omega)
   have w3 := wrap_in ((j : Int) + 1) (by omega)
   refine goN ?_
   simp only [W, seval, b121, e6, w2, w3]
   exact ih3 (j + 1, pw * 64) ⟨by dsimp only; omega, by dsimp only; omega, by dsimp only; rw [f3, show j + 1 - (k + 1) = (j - (k + 1)) + 1 by omega, Int.pow_succ]⟩ (by dsimp only; omega) _ _ envA rfl
  have e6 : decide ((j : Int) < (n : Int)) = false := decide_eq_false (by omega)
  have hjn : j = n := by omega
  have hpw : pw = 1 ∨ pw = 64 ∨ pw = 4096 := by
   have : j - (k + 1) = 0 ∨ j - (k + 1) = 1 ∨ j - (k + 1) = 2 := by omega
   rcases this with h | h | h <;> rw [h] at f3 <;> simp at f3 <;> omega
  have hkl : k < b.length := by omega
  have hgk := row_at hkl
  obtain ⟨d, hd⟩ : ∃ d, b.getD k 0 = d := ⟨_, rfl⟩
  have hst := sumC_step b n k g1 hk
  rw [hd] at hgk hst
  rw [← hjn, ← f3] at hst
  have hdl := uI_lt d
  have hq : -524288 ≤ (uI d - 128) * pw ∧ (uI d - 128) * pw ≤ 524288 := by rcases hpw with h | h | h <;> rw [h] <;> omega
  have w4 := wrap_in (uI d) (by omega)
  have w5 := wrap_in (uI d - 128) (by omega)
  have w6 := wrap_in ((uI d - 128) * pw) (by omega)
  have w7 := wrap_in (c + (uI d - 128) * pw) (by omega)
  have hkt : (k : Int).toNat = k := by omega
  refine goN ?_
  simp only [W, seval, b121, e6, hbl, hgk, hkl, hkt, w1, w4, w5, w6, w7]
  rw [hjn] at hst
  exact ih2 (k + 1, c + (uI d - 128) * pw) ⟨by dsimp only; omega, by dsimp only; omega, by dsimp only; rw [hst, g3]; omega, by dsimp only; rw [hst]; omega, by dsimp only; rw [hst]; omega⟩ (by dsimp only; omega) _ _ envA rfl
 have e3 : decide (1 < (n : Int)) = true := decide_eq_true (by omega)
 have hfc : firC b n = (uI d0 - basN n) * mulN n := by unfold firC; rw [if_neg hn1, hd0]
 have v2 := wrap_in ((n : Int) - 1) (by omega)
 have hnt : ((n : Int) - 1).toNat = n - 1 := by omega
 have hn0 : 0 ≤ (n : Int) - 1 := by omega
 have hmN : ([[D.int .i64 0], [.int .i64 64], [.int .i64 4096], [.int .i64 262144]] : List (List D))[n - 1]? = some [.int .i64 (mulN n)] := by
  have : n = 2 ∨ n = 3 ∨ n = 4 := by omega
  rcases this with h | h | h <;> subst h <;> rfl
 have hbN : ([[D.int .i64 0], [.int .i64 192], [.int .i64 224], [.int .i64 240]] : List (List D))[n - 1]? = some [.int .i64 (basN n)] := by
  have : n = 2 ∨ n = 3 ∨ n = 4 := by omega
  rcases this with h | h | h <;> subst h <;> rfl
 have hbb : 0 ≤ basN n ∧ basN n ≤ 240 := by
  have : n = 2 ∨ n = 3 ∨ n = 4 := by omega
  rcases this with h | h | h <;> subst h <;> simp [basN]
 have v3 := wrap_in (uI d0 - basN n) (by omega)
 have v4 := wrap_in ((uI d0 - basN n) * mulN n) (by rw [← hfc]; omega)
 refine goN ?_
 simp only [W, seval, b121, e1, e2, e3, hbl, hg0, hl0, v1]
 refine drXA 1 [] [] ?_
 simp (maxSteps := 4000000) only [W, seval, b121, xw, hbl, hg0, hl0, v1, v2, v3, v4, hnt, hn0, hmN, hbN]
 refine goN ?_
 simp only [W, seval, b121]
 rw [← hfc]
 refine ARun.loopW (fun p : Nat × Int => (envS 84 [(0, .d (.sl (b.map byteRow))), (3, .sl [[.int .i64 0], [.int .i64 64], [.int .i64 4096], [.int .i64 262144]] .full), (4, .sl [[.int .i64 0], [.int .i64 192], [.int .i64 224], [.int .i64 240]] .full), (5, .d (.int .i64 (n : Int))), (6, .d (.int .i64 p.2)), (7, .d (.int .i64 (p.1 : Int)))], ⟨B, T⟩)) (fun p => 1 ≤ p.1 ∧ p.1 ≤ n ∧ p.2 = firC b n + sumC b n p.1 ∧ -524288 * (p.1 : Int) ≤ sumC b n p.1 ∧ sumC b n p.1 ≤ 524288 * (p.1 : Int)) (fun p => n - p.1) (1, firC b n) ⟨by dsimp only; omega, by dsimp only; omega, by simp [sumC], by simp [sumC], by simp [sumC]⟩ envA rfl ?_
 rintro ⟨k, c⟩ ⟨g1, g2, g3, g4, g5⟩ ih2
 dsimp only at g1 g2 g3 g4 g5 ih2 ⊢
 by_cases hk : k < n
 case neg =>
  have e5 : decide ((k : Int) < (n : Int)) = false := decide_eq_false (by omega)
  have hkn : k = n := by omega
  have hc : c = cOf b n := by rw [g3, hkn]; rfl
  refine goN ?_
  simp only [W, seval, b121, e5]
  rw [← hc] at h3
  have hfn : 5 - (n + 1) = f := by omega
  have u1 := wrap_in ((n : Int) + 1) (by omega)
  have hok : okR b n c = (chrR c && (decide ((putR c).length = n) && (putR c).isPrefixOf b)) := rfl
  refine callNo (chr_ab c B T) ?_
  cases hch : chrR c
  ·rw [hok, hch, Bool.false_and, if_neg (by decide), ← hfn] at h3
   refine goN ?_
   simp only [W, seval, b121, u1]
   exact ih (n + 1) ⟨by omega, by omega, h3⟩ (by omega) _ _ envA rfl
  have hcc : 0 ≤ c ∧ c ≤ 1114111 := by
   unfold chrR at hch
   simp only [Bool.and_eq_true, decide_eq_true_eq] at hch
   exact ⟨hch.1, hch.2.1⟩
  have hpl : ((putR c).map byteRow).length = (putR c).length := by simp
  rw [hok, hch, Bool.true_and] at h3
  refine goN ?_
  simp only [W, seval, b121]
  refine callNo (put_ab c hcc.1 hcc.2 B T) ?_
  by_cases hlen : (putR c).length = n
  case neg =>
   have e8 : decide (((putR c).length : Int) = (n : Int)) = false := decide_eq_false (by omega)
   rw [decide_eq_false hlen, Bool.false_and, if_neg (by decide), ← hfn] at h3
   refine goN ?_
   simp only [W, seval, b121, e8, hpl, u1]
   exact ih (n + 1) ⟨by omega, by omega, h3⟩ (by omega) _ _ envA rfl
  have e8 : decide (((putR c).length : Int) = (n : Int)) = true := decide_eq_true (by omega)
  rw [decide_eq_true hlen, Bool.true_and] at h3
  refine goN ?_
  simp only [W, seval, b121, e8, hpl]
  refine callNo (put_ab c hcc.1 hcc.2 B T) ?_
  refine goN ?_
  simp only [W, seval, b121]
  refine callNo (starts_ab b (putR c) B T) ?_
  cases hpx : (putR c).isPrefixOf b
  ·rw [hpx, if_neg (by decide), ← hfn] at h3
   refine goN ?_
   simp only [W, seval, b121, u1]
   exact ih (n + 1) ⟨by omega, by omega, h3⟩ (by omega) _ _ envA rfl
  ·rw [hpx, if_pos rfl] at h3
   refine goN ?_
   simp only [W, seval, b121]
   refine retN b121 (Left.none ?_)
   rw [h3]
   exact ⟨rfl, rfl⟩
 have e5 : decide ((k : Int) < (n : Int)) = true := decide_eq_true (by omega)
 have w1 := wrap_in ((k : Int) + 1) (by omega)
 refine goN ?_
 simp only [W, seval, b121, e5, w1]
 refine ARun.loopW (fun p : Nat × Int => (envS 84 [(0, .d (.sl (b.map byteRow))), (3, .sl [[.int .i64 0], [.int .i64 64], [.int .i64 4096], [.int .i64 262144]] .full), (4, .sl [[.int .i64 0], [.int .i64 192], [.int .i64 224], [.int .i64 240]] .full), (5, .d (.int .i64 (n : Int))), (6, .d (.int .i64 c)), (7, .d (.int .i64 (k : Int))), (8, .d (.int .i64 p.2)), (9, .d (.int .i64 (p.1 : Int)))], ⟨B, T⟩)) (fun p => k + 1 ≤ p.1 ∧ p.1 ≤ n ∧ p.2 = 64 ^ (p.1 - (k + 1))) (fun p => n - p.1) (k + 1, 1) ⟨by dsimp only; omega, by dsimp only; omega, by simp⟩ envA rfl ?_
 rintro ⟨j, pw⟩ ⟨f1, f2, f3⟩ ih3
 dsimp only at f1 f2 f3 ih3 ⊢
 by_cases hj : j < n
 ·have e6 : decide ((j : Int) < (n : Int)) = true := decide_eq_true (by omega)
  have hpw : pw = 1 ∨ pw = 64 := by
   have : j - (k + 1) = 0 ∨ j - (k + 1) = 1 := by omega
   rcases this with h | h <;> rw [h] at f3 <;> simp at f3 <;> omega
  have w2 := wrap_in (pw * 64) (by omega)
  have w3 := wrap_in ((j : Int) + 1) (by omega)
  refine goN ?_
  simp only [W, seval, b121, e6, w2, w3]
  exact ih3 (j + 1, pw * 64) ⟨by dsimp only; omega, by dsimp only; omega, by dsimp only; rw [f3, show j + 1 - (k + 1) = (j - (k + 1)) + 1 by omega, Int.pow_succ]⟩ (by dsimp only; omega) _ _ envA rfl
 have e6 : decide ((j : Int) < (n : Int)) = false := decide_eq_false (by omega)
 have hjn : j = n := by omega
 have hpw : pw = 1 ∨ pw = 64 ∨ pw = 4096 := by
  have : j - (k + 1) = 0 ∨ j - (k + 1) = 1 ∨ j - (k + 1) = 2 := by omega
  rcases this with h | h | h <;> rw [h] at f3 <;> simp at f3 <;> omega
 have hkl : k < b.length := by omega
 have hgk := row_at hkl
 obtain ⟨d, hd⟩ : ∃ d, b.getD k 0 = d := ⟨_, rfl⟩
 have hst := sumC_step b n k g1 hk
 rw [hd] at hgk hst
 rw [← hjn, ← f3] at hst
 have hdl := uI_lt d
 have hq : -524288 ≤ (uI d - 128) * pw ∧ (uI d - 128) * pw ≤ 524288 := by rcases hpw with h | h | h <;> rw [h] <;> omega
 have w4 := wrap_in (uI d) (by omega)
 have w5 := wrap_in (uI d - 128) (by omega)
 have w6 := wrap_in ((uI d - 128) * pw) (by omega)
 have w7 := wrap_in (c + (uI d - 128) * pw) (by omega)
 have hkt : (k : Int).toNat = k := by omega
 refine goN ?_
 simp only [W, seval, b121, e6, hbl, hgk, hkl, hkt, w1, w4, w5, w6, w7]
 rw [hjn] at hst
 exact ih2 (k + 1, c + (uI d - 128) * pw) ⟨by dsimp only; omega, by dsimp only; omega, by dsimp only; rw [hst, g3]; omega, by dsimp only; rw [hst]; omega, by dsimp only; rw [hst]; omega⟩ (by dsimp only; omega) _ _ envA rfl
def b116 := KB Tryz.func116 42
def b123 := KB Tryz.func123 43
def b107 := KB Tryz.func107 25
theorem whoF_in {b : List UInt8} {c : Int} : ∀ {f n : Nat}, whoF b f n = some c → chrR c = true ∧ (putR c).length ≤ b.length
 | 0, _, h => by cases h
 | f + 1, n, h => by
  rw [whoF] at h
  split at h
  ·split at h
   ·cases h
    rename_i h1 h2
    simp only [okR, Bool.and_eq_true, decide_eq_true_eq] at h2
    exact ⟨h2.1, by omega⟩
   ·exact whoF_in h
  ·cases h
theorem whoR_in {b : List UInt8} {c : Int} (h : whoR b = some c) : 0 ≤ c ∧ c ≤ 1114111 ∧ (putR c).length ≤ b.length := by
 rw [whoR_eq] at h
 have h1 := whoF_in h
 have h2 := h1.1
 simp only [chrR, Bool.and_eq_true, decide_eq_true_eq] at h2
 exact ⟨h2.1, h2.2.1, h1.2⟩
set_option maxHeartbeats 4000000 in
theorem takeD_some (b : List UInt8) (hb : b.length ≤ 4611686018427387904) (i : Nat) (hi : i ≤ b.length) (c : Int) (hw : whoR (b.drop i) = some c) (B : List (List V)) (T : List (Nat × Nat)) : AFn Tryz.prog TabI 116 [.d (.sl (b.map byteRow)), .d (.int .i64 (i : Int))] ⟨B, T⟩ (Same (.tup [.d (.int .i64 c), .d (.int .i64 ((i : Int) + ((putR c).length : Int))), .d (.int .i64 0)]) ⟨B, T⟩) := by
 have hbl : (b.map byteRow).length = b.length := by simp
 have hrs : rowsSz 1 (b.map byteRow) = true := by simp [rowsSz, byteRow]
 have e1 : decide ((i : Int) < 0) = false := decide_eq_false (by omega)
 have e2 : decide ((b.length : Int) < (i : Int)) = false := decide_eq_false (by omega)
 have hd : (b.map byteRow).drop i = (b.drop i).map byteRow := by rw [List.map_drop]
 have htk : ((b.drop i).map byteRow).take (b.length - i) = (b.drop i).map byteRow := List.take_of_length_le (by simp)
 have hit : (i : Int).toNat = i := by omega
 have hi2 : (i : Int) ≤ (b.length : Int) := by omega
 have hwi := whoR_in hw
 have hle := hwi.2.2
 rw [List.length_drop] at hle
 have hwh := whole_ab (b.drop i) (by rw [List.length_drop]; omega) B T
 rw [hw, Option.getD_some] at hwh
 have e3 : decide (0 ≤ c) = true := decide_eq_true hwi.1
 have hpl : ((putR c).map byteRow).length = (putR c).length := by simp
 have w1 := wrap_in ((i : Int) + ((putR c).length : Int)) (by omega)
 refine enS b116 fun hsm => ?_
 simp only [smw] at hsm
 simp only [W, seval, b116, hbl, e1, e2, hrs, hd, hi, hi2, hit, htk]
 refine callNo hwh ?_
 refine goN ?_
 simp only [W, seval, b116, e3]
 refine callNo (put_ab c hwi.1 hwi.2.1 B T) ?_
 refine goN ?_
 simp only [W, seval, b116, hpl, w1]
 refine retN b116 (Left.none ?_)
 exact ⟨rfl, rfl⟩
set_option maxHeartbeats 4000000 in
theorem takeD_none (b : List UInt8) (hb : b.length ≤ 4611686018427387904) (i : Nat) (hi : i ≤ b.length) (hw : whoR (b.drop i) = none) (B : List (List V)) (T : List (Nat × Nat)) (hbg : b.length - i < 4 → AFn Tryz.prog TabI 123 [.d (.sl ((b.drop i).map byteRow))] ⟨B, T⟩ fun v S' => (∃ x : Bool, v = .d (.bool x)) ∧ S' = ⟨B, T⟩) : AFn Tryz.prog TabI 116 [.d (.sl (b.map byteRow)), .d (.int .i64 (i : Int))] ⟨B, T⟩ fun v S' => (∃ c n e : Int, v = .tup [.d (.int .i64 c), .d (.int .i64 n), .d (.int .i64 e)] ∧ e ≠ 0) ∧ S' = ⟨B, T⟩ := by
 have hbl : (b.map byteRow).length = b.length := by simp
 have hrs : rowsSz 1 (b.map byteRow) = true := by simp [rowsSz, byteRow]
 have e1 : decide ((i : Int) < 0) = false := decide_eq_false (by omega)
 have e2 : decide ((b.length : Int) < (i : Int)) = false := decide_eq_false (by omega)
 have hd : (b.map byteRow).drop i = (b.drop i).map byteRow := by rw [List.map_drop]
 have htk : ((b.drop i).map byteRow).take (b.length - i) = (b.drop i).map byteRow := List.take_of_length_le (by simp)
 have hit : (i : Int).toNat = i := by omega
 have hi2 : (i : Int) ≤ (b.length : Int) := by omega
 have hwh := whole_ab (b.drop i) (by rw [List.length_drop]; omega) B T
 rw [hw, Option.getD_none] at hwh
 have w1 := wrap_in ((b.length : Int) - (i : Int)) (by omega)
 refine enS b116 fun hsm => ?_
 simp only [smw] at hsm
 simp only [W, seval, b116, hbl, e1, e2, hrs, hd, hi, hi2, hit, htk]
 refine callNo hwh ?_
 by_cases h4 : b.length - i < 4
 case neg =>
  have e4 : decide ((b.length : Int) - (i : Int) < 4) = false := decide_eq_false (by omega)
  refine goN ?_
  simp only [W, seval, b116, hbl, w1, e4]
  refine retN b116 (Left.none ?_)
  exact ⟨⟨_, _, _, rfl, by decide⟩, rfl⟩
 have e4 : decide ((b.length : Int) - (i : Int) < 4) = true := decide_eq_true (by omega)
 refine goN ?_
 simp only [W, seval, b116, hbl, w1, e4, hrs, hd, hi, hi2, hit, htk]
 refine callS_of (hbg h4) ?_
 rintro _ _ ⟨⟨x, rfl⟩, rfl⟩
 cases x
 all_goals
  refine goN ?_
  simp only [W, seval, b116, hbl]
  refine retN b116 (Left.none ?_)
  exact ⟨⟨_, _, _, rfl, by decide⟩, rfl⟩
set_option maxHeartbeats 8000000 in
theorem countD_ab (b : List UInt8) (hb : b.length ≤ 4611686018427387904) (B : List (List V)) (T : List (Nat × Nat)) (hbg : ∀ r : List UInt8, r.length < 4 → AFn Tryz.prog TabI 123 [.d (.sl (r.map byteRow))] ⟨B, T⟩ fun v S' => (∃ x : Bool, v = .d (.bool x)) ∧ S' = ⟨B, T⟩) : AFn Tryz.prog TabI 107 [.d (.sl (b.map byteRow))] ⟨B, T⟩ fun v S' => (∃ n : Int, v = .d (.int .i64 n) ∧ decide (0 ≤ n) = allU b.length b) ∧ S' = ⟨B, T⟩ := by
 have hbl : (b.map byteRow).length = b.length := by simp
 refine enS b107 fun hsm => ?_
 simp only [smw] at hsm
 simp only [W, seval, b107, hbl]
 refine ARun.loopW (fun p : Nat × Nat × Nat => (envS 25 [(0, .d (.sl (b.map byteRow))), (3, .d (.int .i64 (p.2.1 : Int))), (4, .d (.int .i64 (p.1 : Int)))], ⟨B, T⟩)) (fun p => p.1 ≤ b.length ∧ p.2.1 ≤ p.1 ∧ b.length ≤ p.1 + p.2.2 ∧ allU b.length b = allU p.2.2 (b.drop p.1)) (fun p => b.length - p.1) (0, 0, b.length) ⟨by dsimp only; omega, by dsimp only; omega, by dsimp only; omega, rfl⟩ envA rfl ?_
 rintro ⟨i, k, n⟩ ⟨h1, h2, h3, h4⟩ ih
 dsimp only at h1 h2 h3 h4 ih ⊢
 by_cases hlt : i < b.length
 case neg =>
  have e1 : decide ((i : Int) < (b.length : Int)) = false := decide_eq_false (by omega)
  rw [List.drop_eq_nil_of_le (by omega), all_u_end] at h4
  refine goN ?_
  simp only [W, seval, b107, e1, hbl]
  refine retN b107 (Left.none ?_)
  exact ⟨⟨_, rfl, by rw [h4]; exact decide_eq_true (by omega)⟩, rfl⟩
 have e1 : decide ((i : Int) < (b.length : Int)) = true := decide_eq_true (by omega)
 obtain ⟨n, rfl⟩ : ∃ m, n = m + 1 := ⟨n - 1, by omega⟩
 have hne : (b.drop i).isEmpty = false := by rw [drop_get hlt]; rfl
 rw [allU, hne, Bool.false_or, List.drop_drop] at h4
 have hle := takU_le (b.drop i)
 rw [List.length_drop] at hle
 have htk := tak_eq (b.drop i)
 have hwk := wrap_in ((k : Int) + 1) (by omega)
 refine goN ?_
 simp only [W, seval, b107, e1, hbl]
 cases hw : whoR (b.drop i) with
 | none =>
  have ht : takU (b.drop i) = 0 := by rw [← htk]; unfold takR; rw [hw]
  rw [ht] at h4
  refine callS_of (takeD_none b hb i h1 hw B T fun hlt4 => hbg _ (by rw [List.length_drop]; exact hlt4)) ?_
  rintro _ _ ⟨⟨c, m, e, rfl, he⟩, rfl⟩
  have e2 : decide (e = 0) = false := decide_eq_false he
  refine goN ?_
  simp only [W, seval, b107, e2]
  refine retN b107 (Left.none ?_)
  exact ⟨⟨_, rfl, by rw [h4]; rfl⟩, rfl⟩
 | some c =>
  have ht : takU (b.drop i) = (putR c).length := by rw [← htk]; unfold takR; rw [hw]
  have hpos : 0 < (putR c).length := by
   unfold putR
   repeat' split
   all_goals simp
  rw [ht] at h4 hle
  rw [decide_eq_true hpos, Bool.true_and] at h4
  refine callNo (takeD_some b hb i h1 c hw B T) ?_
  refine goN ?_
  simp only [W, seval, b107, hwk]
  exact ih (i + (putR c).length, k + 1, n) ⟨by dsimp only; omega, by dsimp only; omega, by dsimp only; omega, h4⟩ (by dsimp only; omega) _ _ envA rfl
def b96 := KB Tryz.func96 7
set_option maxHeartbeats 4000000 in
theorem textD_ab (b : List UInt8) (hb : b.length ≤ 4611686018427387904) (B : List (List V)) (T : List (Nat × Nat)) (hbg : ∀ r : List UInt8, r.length < 4 → AFn Tryz.prog TabI 123 [.d (.sl (r.map byteRow))] ⟨B, T⟩ fun v S' => (∃ x : Bool, v = .d (.bool x)) ∧ S' = ⟨B, T⟩) : AFn Tryz.prog TabI 96 [.d (.str b)] ⟨B, T⟩ (Same (.d (.bool (allU b.length b))) ⟨B, T⟩) := by
 refine enN b96 ?_
 simp only [W, seval, b96]
 refine callS_of (countD_ab b hb B T hbg) ?_
 rintro _ _ ⟨⟨n, rfl, hn⟩, rfl⟩
 refine goN ?_
 simp only [W, seval, b96, hn]
 refine retN b96 (Left.none ?_)
 exact ⟨rfl, rfl⟩
def filB : List (List UInt8) := [[128, 128, 128], [191, 191, 191], [160, 128, 128], [144, 128, 128], [143, 191, 191], [159, 191, 191]]
def filD (l : List UInt8) : List D := [.sl (l.map byteRow)]
theorem fil_len : ∀ x ∈ filB, x.length = 3 := by decide
set_option maxHeartbeats 16000000 in
theorem begun_ab (b : List UInt8) (hb : b.length < 4) (B : List (List V)) (T : List (Nat × Nat)) : AFn Tryz.prog TabI 123 [.d (.sl (b.map byteRow))] ⟨B, T⟩ fun v S' => (∃ x : Bool, v = .d (.bool x)) ∧ S' = ⟨B, T⟩ := by
 obtain ⟨N, hn⟩ : ∃ N, B.length = N := ⟨_, rfl⟩
 obtain ⟨M, hM⟩ : ∃ M, T.length = M := ⟨_, rfl⟩
 have hbl : (b.map byteRow).length = b.length := by simp
 by_cases h0 : b = []
 ·subst h0
  have e0 : decide (((0 : Nat) : Int) = 0) = true := rfl
  refine enS b123 fun hsm => ?_
  simp only [smw] at hsm
  simp only [W, seval, b123, List.map_nil, List.length_nil, e0]
  refine retN b123 (Left.none ?_)
  exact ⟨⟨_, rfl⟩, rfl⟩
 have hpos : 0 < b.length := List.length_pos_iff.2 h0
 have e0 : decide ((b.length : Int) = 0) = false := decide_eq_false (by omega)
 refine enS b123 fun hsm => ?_
 simp only [smw] at hsm
 simp only [W, seval, b123, hn, hM, hbl, e0, mapX_nil, mapX_cons, mapX_sl]
 refine ARun.fits fun hf => ?_
 refine ARun.loopA (fun i : Nat => (envS 43 [(0, .d (.sl (b.map byteRow))), (3, .sl (filB.map filD) .full), (4, .d (.int .i64 (i : Int)))], ⟨B, T⟩)) (fun i => i ≤ 6) (fun i => 6 - i) 0 (by omega) envA rfl ?_
 rintro i h1 ih
 dsimp only at h1 ih ⊢
 have hB0 : ∀ q, (⟨B, T ++ [q]⟩ : Mem) = ⟨B ++ [], T ++ [q]⟩ := fun q => by simp
 have hfl : (filB.map filD).length = 6 := rfl
 by_cases hlt : i < 6
 case neg =>
  have e1 : decide ((i : Int) < 6) = false := decide_eq_false (by omega)
  refine goN ?_
  simp only [W, seval, b123, hfl, e1]
  refine retN b123 (Left.none ?_)
  exact ⟨⟨_, rfl⟩, rfl⟩
 have e1 : decide ((i : Int) < 6) = true := decide_eq_true (by omega)
 have hw := wrap_in ((i : Int) + 1) (by omega)
 have hli : i < filB.length := hlt
 have hg : (filB.map filD)[i]? = some (filD filB[i]) := by rw [List.getElem?_map, List.getElem?_eq_getElem hli]; rfl
 have hx3 := fil_len _ (List.getElem_mem hli)
 obtain ⟨x, hx⟩ : ∃ x, filB[i] = x := ⟨_, rfl⟩
 rw [hx] at hg hx3
 have hg : (filB.map filD)[i]? = some [D.sl (x.map byteRow)] := hg
 have hrb : rowsSz 1 (b.map byteRow) = true := by simp [rowsSz, byteRow]
 have hrx : rowsSz 1 (x.map byteRow) = true := by simp [rowsSz, byteRow]
 have hxl : (x.map byteRow).length = 3 := by simp [hx3]
 refine goN ?_
 simp only [W, seval, b123, hfl, e1]
 have hr0 : rowsSz 1 ([] : List (List D)) = true := rfl
 have hc1 : b.length * 1 ≤ 140737488355328 := by omega
 have hc2 : (b.length + 3) * 1 ≤ 140737488355328 := by omega
 refine drXA 9 [] [] ?_
 simp (maxSteps := 4000000) only [W, seval, b123, xw, hn, hM, hg, hrb, hrx, hbl, hxl, hlt, hr0, hc1]
 refine Or.inr (Or.inr ?_)
 simp (maxSteps := 4000000) only [W, seval, b123, xw, hn, hM, hg, hrb, hrx, hbl, hxl, hlt, hr0, hc1, hc2, ← List.map_append]
 have hbx : (b ++ x).length ≤ 4611686018427387904 := by simp; omega
 refine goN ?_
 simp only [W, seval, b123, hn]
 refine callN (AFn.pl (whole_ab (b ++ x) hbx _ _)) ?_
 cases hw0 : whoR (b ++ x) with
 | none =>
  have e2 : decide ((0 : Int) ≤ -1) = false := rfl
  refine goN ?_
  simp only [W, seval, b123, hn, hM, Option.getD_none, e2, hw]
  rw [hB0]
  refine ih (i + 1) (by omega) (by omega) _ _ _ _ _ rfl ⟨by omega, by omega⟩ (by simpa using hf) ?_
  refine AgreeF.env _ ?_
  simp only [agf, seval, hn]
 | some c =>
  obtain ⟨g1, g2, g3⟩ := whoR_in hw0
  have e2 : decide (0 ≤ c) = true := decide_eq_true g1
  have hpl : ((putR c).map byteRow).length = (putR c).length := by simp
  refine goN ?_
  simp only [W, seval, b123, hn, hM, Option.getD_some, e2]
  refine callN (put_ab c g1 g2 _ _) ?_
  by_cases hgt : b.length < (putR c).length
  ·have e3 : decide ((b.length : Int) < ((putR c).length : Int)) = true := decide_eq_true (by omega)
   refine goN ?_
   simp only [W, seval, b123, hn, hbl, hpl, e3]
   refine retN b123 (Left.tok ?_)
   exact ⟨⟨_, rfl⟩, rfl⟩
  ·have e3 : decide ((b.length : Int) < ((putR c).length : Int)) = false := decide_eq_false (by omega)
   refine goN ?_
   simp only [W, seval, b123, hn, hM, hbl, hpl, e3, hw]
   rw [hB0]
   refine ih (i + 1) (by omega) (by omega) _ _ _ _ _ rfl ⟨by omega, by omega⟩ (by simpa using hf) ?_
   refine AgreeF.env _ ?_
   simp only [agf, seval, hn]
def b49 := KB Tryz.func49 85
def b28 := KB Tryz.func28 36
def kidsA (l : List NdT) (a : Nat) : List Int := kidsN (ndN l a)
def nmN (l : List NdT) (k : Int) : Bool := namedB (ndN l k.toNat).kind
def metN (l : List NdT) (f a d : Nat) : Int := metW (kidsA l) (nmN l) l.length f a d
def wkB (l : List NdT) (root : Int) (a : Nat) : List V := [.d (.sl (l.map ndD)), .d (.int .i64 root), .d (.int .i64 (a : Int))]
theorem kidsN_len {n : NdT} (h : SmN n) : (kidsN n).length ≤ 2500 := by
 unfold kidsN
 have h1 := h.2.1
 have h2 := h.2.2.1
 split
 ·simpa using h1
 split
 ·simp
 split
 ·exact h2
 ·simp
def WalkOk (l : List NdT) (root : Int) (f : Nat) : Prop := ∀ (a d c : Nat) (B : List (List V)) (T : List (Nat × Nat)), a ≤ l.length → l.length < a + f → d ≤ 33 → B[c]? = some (wkB l root a) →
 AFn Tryz.prog TabI 49 [.ptr c 0, .d (.int .i64 (d : Int))] ⟨B, T⟩ fun v S => (0 ≤ metN l f a d ∧ v = .d (.bool true) ∧ S = ⟨B.set c (wkB l root (metN l f a d).toNat), T⟩) ∨ (metN l f a d < 0 ∧ v = .d (.bool false) ∧ ∃ b, S = ⟨B.set c (wkB l root b), T⟩)
set_option maxHeartbeats 8000000 in
theorem walk_step (l : List NdT) (root : Int) (hs : ∀ n ∈ l, SmN n) (hl : l.length ≤ 200) (f : Nat) (hf : WalkOk l root f) : WalkOk l root (f + 1) := by
 intro a d c B T ha hfu hd hB
 have hc : c < B.length := (List.getElem?_eq_some_iff.1 hB).1
 obtain ⟨N, hn⟩ : ∃ N, B.length = N := ⟨_, rfl⟩
 have hi : c < N := by omega
 have hbs : B.set c (wkB l root a) = B := by
  obtain ⟨_, h⟩ := List.getElem?_eq_some_iff.1 hB
  rw [← h, List.set_getElem_self]
 obtain ⟨r, hr⟩ : ∃ r, metN l (f + 1) a d = r := ⟨_, rfl⟩
 rw [hr]
 unfold metN metW at hr
 unfold wkB at hB
 by_cases hlt : a < l.length
 case neg =>
  have e1 : decide ((l.length : Int) ≤ (a : Int)) = true := decide_eq_true (by omega)
  rw [if_pos (.inl (by omega))] at hr
  refine enS b49 fun hsm => ?_
  simp only [smw] at hsm
  simp only [W, seval, b49, hn, hi, hB, e1]
  refine retN b49 (Left.none ?_)
  exact .inr ⟨by omega, rfl, a, by rw [hbs]⟩
 have e1 : decide ((l.length : Int) ≤ (a : Int)) = false := decide_eq_false (by omega)
 by_cases hd2 : 32 < d
 ·have e2 : decide ((32 : Int) < (d : Int)) = true := decide_eq_true (by omega)
  rw [if_pos (.inr hd2)] at hr
  refine enS b49 fun hsm => ?_
  simp only [smw] at hsm
  simp only [W, seval, b49, hn, hi, hB, e1, e2]
  refine retN b49 (Left.none ?_)
  exact .inr ⟨by omega, rfl, a, by rw [hbs]⟩
 have e2 : decide ((32 : Int) < (d : Int)) = false := decide_eq_false (by omega)
 rw [if_neg (by omega)] at hr
 have hw := wrap_in ((a : Int) + 1) (by omega)
 have hg := nd_row (l := l) (m := (a : Int)) (by omega) (by omega)
 rw [ndD_eq] at hg
 simp only [Int.toNat_natCast] at hg
 have hla : (a : Int) < (l.length : Int) := by omega
 have hk := fun B T => kids_abS (ndN l a) (by rw [ndN_at hlt]; exact hs _ (List.getElem_mem hlt)) B T
 unfold ndV at hk
 refine enS b49 fun hsm => ?_
 simp only [smw] at hsm
 simp only [W, seval, b49, hn, hi, hB, e1, e2, hw, hg, hlt, hla]
 refine callN (hk _ _) ?_
 clear hk
 obtain ⟨ks, hks⟩ : ∃ ks, kidsN (ndN l a) = ks := ⟨_, rfl⟩
 have hka : kidsA l a = ks := hks
 rw [hks]
 rw [hka] at hr
 have hkl := isD_len ks
 have hk25 : ks.length ≤ 2500 := by rw [← hks, ndN_at hlt]; exact kidsN_len (hs _ (List.getElem_mem hlt))
 refine goN ?_
 simp only [W, seval, b49, hn, hi, hkl]
 refine ARun.fits fun hft => ?_
 refine ARun.loopW (fun p : Nat × Nat => (envS 85 [(0, .ptr c 0), (1, .d (.int .i64 (d : Int))), (6, .func 49 [.ptr c 0] []), (42, .d (.sl (isD ks))), (43, .d (.int .i64 ks.length)), (44, .d (.int .i64 (p.1 : Int)))], ⟨B.set c (wkB l root p.2), T⟩)) (fun p => p.1 ≤ ks.length ∧ a < p.2 ∧ p.2 ≤ l.length ∧ metL (nmN l) (fun k => metW (kidsA l) (nmN l) l.length f k (d + 1)) p.2 (ks.drop p.1) = r) (fun p => ks.length - p.1) (0, a + 1) ⟨by omega, by dsimp only; omega, by dsimp only; omega, hr⟩ envA rfl ?_
 rintro ⟨i, q⟩ ⟨g1, g2, g3, g4⟩ ih
 dsimp only at g1 g2 g3 g4 ih ⊢
 have hcq : c < (B.set c (wkB l root q)).length := by simpa using hc
 have hBq : (B.set c [V.d (.sl (l.map ndD)), .d (.int .i64 root), .d (.int .i64 (q : Int))])[c]? = some [V.d (.sl (l.map ndD)), .d (.int .i64 root), .d (.int .i64 (q : Int))] := List.getElem?_set_self (by omega)
 have hnq : (B.set c [V.d (.sl (l.map ndD)), .d (.int .i64 root), .d (.int .i64 (q : Int))]).length = N := by simp [hn]
 by_cases hlt2 : i < ks.length
 case neg =>
  have e3 : decide ((i : Int) < (ks.length : Int)) = false := decide_eq_false (by omega)
  rw [List.drop_eq_nil_of_le (by omega), metL] at g4
  refine goN ?_
  simp only [W, seval, b49, hn, hi, e3]
  refine retN b49 (Left.set0 rfl ?_)
  refine .inl ⟨by omega, rfl, ?_⟩
  rw [← g4, Int.toNat_natCast]
 have e3 : decide ((i : Int) < (ks.length : Int)) = true := decide_eq_true (by omega)
 have hw2 := wrap_in ((i : Int) + 1) (by omega)
 have hge := isD_at hlt2
 rw [List.drop_eq_getElem_cons hlt2, metL] at g4
 obtain ⟨k, hkk⟩ : ∃ x, ks[i] = x := ⟨_, rfl⟩
 rw [hkk] at hge g4
 unfold wkB
 by_cases hkq : k = (q : Int)
 ·rw [if_pos hkq] at g4
  have e4 : decide (k = (q : Int)) = true := decide_eq_true hkq
  have hwd := wrap_in ((d : Int) + 1) (by omega)
  refine goN ?_
  simp only [W, seval, b49, hn, hi, hkl, e3, hge, hBq, e4, hwd]
  have hrec := hf q (d + 1) c (B.set c [V.d (.sl (l.map ndD)), .d (.int .i64 root), .d (.int .i64 (q : Int))]) T g3 (by omega) (by omega) hBq
  rw [Int.natCast_add, Int.natCast_one] at hrec
  refine callS_of (first := [.ptr c 0]) (caps := []) hrec ?_
  have hm : metW (kidsA l) (nmN l) l.length f q (d + 1) = metN l f q (d + 1) := rfl
  rw [hm] at g4
  rintro v S' (⟨p1, rfl, rfl⟩ | ⟨p1, rfl, b, rfl⟩)
  ·obtain ⟨z, hz⟩ : ∃ z, metN l f q (d + 1) = z := ⟨_, rfl⟩
   rw [hz] at p1 g4 ⊢
   obtain ⟨y, rfl⟩ : ∃ y : Nat, z = (y : Int) := ⟨z.toNat, by omega⟩
   rw [if_neg (by omega), Int.toNat_natCast] at g4
   obtain ⟨m1, m2, _⟩ := met_kids (kidsA l) (nmN l) l.length f q (d + 1) (by rw [hm, hz]; omega)
   rw [hm, hz, Int.toNat_natCast] at m1 m2
   rw [List.set_set, Int.toNat_natCast]
   refine goN ?_
   simp only [W, seval, b49, hn, hi, hw2]
   exact ih (i + 1, y) ⟨by omega, by dsimp only; omega, m2, g4⟩ (by dsimp only; omega) _ _ envA rfl
  ·rw [if_pos p1] at g4
   rw [List.set_set]
   refine goN ?_
   simp only [W, seval, b49, hn, hi]
   refine retN b49 (Left.set0 rfl ?_)
   exact .inr ⟨by omega, rfl, b, rfl⟩
 rw [if_neg hkq] at g4
 have e4 : decide (k = (q : Int)) = false := decide_eq_false hkq
 by_cases hk0 : k < 0
 ·have e5 := decide_eq_true hk0
  rw [e5, Bool.true_or, if_pos rfl] at g4
  refine goN ?_
  simp only [W, seval, b49, hn, hi, hkl, e3, hge, hBq, e4, e5]
  refine retN b49 (Left.set0 rfl ?_)
  exact .inr ⟨by omega, rfl, q, rfl⟩
 have e5 := decide_eq_false hk0
 rw [e5, Bool.false_or] at g4
 by_cases hk1 : (q : Int) < k
 ·have e6 := decide_eq_true hk1
  rw [e6, Bool.true_or, if_pos rfl] at g4
  refine goN ?_
  simp only [W, seval, b49, hn, hi, hkl, e3, hge, hBq, e4, e5, e6]
  refine retN b49 (Left.set0 rfl ?_)
  exact .inr ⟨by omega, rfl, q, rfl⟩
 have e6 := decide_eq_false hk1
 rw [e6, Bool.false_or] at g4
 obtain ⟨y, rfl⟩ : ∃ y : Nat, k = (y : Int) := ⟨k.toNat, by omega⟩
 have hgy := nd_row (l := l) (m := (y : Int)) (by omega) (by omega)
 rw [ndD_eq] at hgy
 simp only [Int.toNat_natCast] at hgy
 have hly : (y : Int) < (l.length : Int) := by omega
 have hly' : y < l.length := by omega
 have hnm : nmN l (y : Int) = namedB (ndN l y).kind := by unfold nmN; rw [Int.toNat_natCast]
 rw [hnm] at g4
 refine goN ?_
 simp only [W, seval, b49, hn, hi, hkl, e3, hge, hBq, e4, e5, e6, hgy, hly, hly']
 refine callN (named_ab _ _) ?_
 cases hb : namedB (ndN l y).kind
 ·rw [hb, Bool.not_false, if_pos rfl] at g4
  refine goN ?_
  simp only [W, seval, b49, hn, hi]
  refine retN b49 (Left.set0 rfl ?_)
  exact .inr ⟨by omega, rfl, q, rfl⟩
 ·rw [hb, Bool.not_true, if_neg (by decide)] at g4
  refine goN ?_
  simp only [W, seval, b49, hn, hi, hw2]
  exact ih (i + 1, q) ⟨by omega, by dsimp only; omega, by dsimp only; omega, g4⟩ (by dsimp only; omega) _ _ envA rfl
theorem walk_ab (l : List NdT) (root : Int) (hs : ∀ n ∈ l, SmN n) (hl : l.length ≤ 200) : ∀ f, WalkOk l root f
 | 0 => fun a d c B T h1 h2 => absurd h2 (by omega)
 | f + 1 => walk_step l root hs hl f (walk_ab l root hs hl f)
def orderedN (s : ScT) : Bool := decide (0 < s.nodes.length) && (decide (s.nodes.length ≤ 200) && (decide (s.root = 0) && decide (metN s.nodes (s.nodes.length + 1) 0 0 = (s.nodes.length : Int))))
set_option maxHeartbeats 8000000 in
theorem ordered_ab (s : ScT) (hs : SmS s) (B : List (List V)) (T : List (Nat × Nat)) : AFn Tryz.prog TabI 28 [scV s] ⟨B, T⟩ (Same (.d (.bool (orderedN s))) ⟨B, T⟩) := by
 obtain ⟨N, hn⟩ : ∃ N, B.length = N := ⟨_, rfl⟩
 unfold scV orderedN
 refine enS b28 fun hsm => ?_
 simp only [smw] at hsm
 simp only [W, seval, b28, hn]
 by_cases h0 : 0 < s.nodes.length
 case neg =>
  have e0 : decide ((0 : Int) < (s.nodes.length : Int)) = false := decide_eq_false (by omega)
  rw [decide_eq_false h0]
  refine ARun.drawY 19 [N] [N, N + 1] ?_
  simp (maxSteps := 4000000) only [W, seval, b28, xw, hn, e0]
  refine goN ?_
  simp only [W, seval, b28, hn]
  refine retN b28 (Left.box ?_)
  exact ⟨rfl, rfl⟩
 have e0 : decide ((0 : Int) < (s.nodes.length : Int)) = true := decide_eq_true (by omega)
 rw [decide_eq_true h0, Bool.true_and]
 by_cases h1 : s.nodes.length ≤ 200
 case neg =>
  have e1 : decide ((s.nodes.length : Int) ≤ 200) = false := decide_eq_false (by omega)
  rw [decide_eq_false h1]
  refine ARun.drawY 19 [N] [N, N + 1] ?_
  simp (maxSteps := 4000000) only [W, seval, b28, xw, hn, e0, e1]
  refine goN ?_
  simp only [W, seval, b28, hn]
  refine retN b28 (Left.box ?_)
  exact ⟨rfl, rfl⟩
 have e1 : decide ((s.nodes.length : Int) ≤ 200) = true := decide_eq_true (by omega)
 rw [decide_eq_true h1, Bool.true_and]
 by_cases h2 : s.root = 0
 case neg =>
  have e2 := decide_eq_false h2
  rw [e2]
  refine ARun.drawY 19 [N] [N, N + 1] ?_
  simp (maxSteps := 4000000) only [W, seval, b28, xw, hn, e0, e1, e2]
  refine goN ?_
  simp only [W, seval, b28, hn]
  refine retN b28 (Left.box ?_)
  exact ⟨rfl, rfl⟩
 have e2 := decide_eq_true h2
 rw [e2, Bool.true_and]
 refine ARun.drawY 19 [N] [N, N + 1] ?_
 simp (maxSteps := 4000000) only [W, seval, b28, xw, hn, e0, e1, e2]
 have hset : ∀ X Y Z : List V, (B ++ [X, Y]).set (N + 1) Z = B ++ [X, Z] := fun X Y Z => by
  rw [← hn, List.set_append_right _ _ (by omega)]
  simp
 have hget : ∀ X Y : List V, (B ++ [X, Y])[N + 1]? = some Y := fun X Y => by rw [← hn]; simp
 have hget0 : ∀ X Y : List V, (B ++ [X, Y])[N]? = some X := fun X Y => by rw [← hn]; simp
 have hwk := walk_ab s.nodes s.root hs.2 h1 (s.nodes.length + 1) 0 0 (N + 1) (B ++ [[V.d (.sl (s.nodes.map ndD)), .d (.int .i64 s.root)], wkB s.nodes s.root 0]) T (by omega) (by omega) (by omega) (hget _ _)
 simp only [hset] at hwk
 obtain ⟨z, hz⟩ : ∃ z, metN s.nodes (s.nodes.length + 1) 0 0 = z := ⟨_, rfl⟩
 rw [hz] at hwk ⊢
 refine callX_0 ?_ hwk ?_
 ·by_cases h : 0 ≤ z
  ·exact ⟨_, _, .inl ⟨h, rfl, rfl⟩⟩
  ·exact ⟨_, _, .inr ⟨by omega, rfl, 0, rfl⟩⟩
 rintro v S' (⟨p1, rfl, rfl⟩ | ⟨p1, rfl, b, rfl⟩)
 ·obtain ⟨y, rfl⟩ : ∃ y : Nat, z = (y : Int) := ⟨z.toNat, by omega⟩
  unfold wkB
  rw [Int.toNat_natCast]
  simp (maxSteps := 4000000) only [W, seval, b28, xw, hn, hget, hget0]
  refine goN ?_
  simp only [W, seval, b28, hn]
  refine retN b28 (Left.box ?_)
  exact ⟨rfl, rfl⟩
 ·unfold wkB
  rw [decide_eq_false (show ¬ z = (s.nodes.length : Int) by omega)]
  simp (maxSteps := 4000000) only [W, seval, b28, xw, hn, hget, hget0]
  refine goN ?_
  simp only [W, seval, b28, hn]
  refine retN b28 (Left.box ?_)
  exact ⟨rfl, rfl⟩
end Go.Proofs.YtkgbbcnjkojocaaGreatDoor
namespace Go.Proofs.YtkgbbcnjkojocaaGreatDoor
set_option linter.unusedVariables false
set_option linter.unusedSimpArgs false
def sumK (v : Nat → Int) : List Nat → Int
 | [] => 0
 | k :: l => v k + sumK v l
def gk (kn : List Int) (a : Nat) : Int := kn.getD a 0
def dfsL (g : List Int → Nat → Int × List Int) : Int → List Int → List Nat → Int × List Int
 | n, kn, [] => (n, kn)
 | n, kn, k :: l => dfsL g (min (n + (g kn k).1) 1001) (g kn k).2 l
def dfsW (F : Nat → List Nat) : Nat → List Int → Nat → Int × List Int
 | 0, kn, _ => (0, kn)
 | f + 1, kn, a =>
  if gk kn a < 0 then (1001, kn) else if 0 < gk kn a then (gk kn a, kn)
  else ((dfsL (dfsW F f) 1 (kn.set a (-1)) (F a)).1, (dfsL (dfsW F f) 1 (kn.set a (-1)) (F a)).2.set a (dfsL (dfsW F f) 1 (kn.set a (-1)) (F a)).1)
def zc : List Int → Nat
 | [] => 0
 | x :: l => (if x = 0 then 1 else 0) + zc l
theorem zc_set : ∀ (l : List Int) (a : Nat) (v : Int), a < l.length → gk l a = 0 → v ≠ 0 → zc (l.set a v) + 1 = zc l
 | [], a, _, h, _, _ => absurd h (Nat.not_lt_zero _)
 | x :: l, 0, v, _, h, hv => by
  have h' : x = 0 := h
  simp [zc, h', hv]
  omega
 | x :: l, a + 1, v, h, h0, hv => by
  have h' : a < l.length := by simpa using h
  have h0' : gk l a = 0 := by simpa [gk] using h0
  have := zc_set l a v h' h0' hv
  simp only [List.set_cons_succ, zc]
  omega
theorem gk_set (l : List Int) (a : Nat) (v : Int) (h : a < l.length) (j : Nat) : gk (l.set a v) j = if j = a then v else gk l j := by
 unfold gk
 by_cases e : j = a
 ·subst e
  simp [List.getD, h]
 ·rw [if_neg e]
  simp [List.getD, List.getElem?_set_ne (Ne.symm e)]
theorem zc_mono : ∀ (l l' : List Int), l.length = l'.length → (∀ j, gk l j ≠ 0 → gk l' j ≠ 0) → zc l' ≤ zc l
 | [], [], _, _ => Nat.le_refl _
 | x :: l, y :: l', h, hk => by
  have h1 := zc_mono l l' (by simpa using h) (fun j hj => by have := hk (j + 1); simpa [gk] using this (by simpa [gk] using hj))
  have h2 := hk 0
  have h2' : x ≠ 0 → y ≠ 0 := h2
  unfold zc
  by_cases hx : x = 0
  ·rw [if_pos hx]
   split <;> omega
  ·rw [if_neg hx, if_neg (h2' hx)]
   omega
theorem sumK_congr (v w : Nat → Int) : ∀ l : List Nat, (∀ k ∈ l, v k = w k) → sumK v l = sumK w l
 | [], _ => rfl
 | k :: l, h => by
  unfold sumK
  rw [h k List.mem_cons_self, sumK_congr v w l fun j hj => h j (List.mem_cons_of_mem _ hj)]
section
variable {F : Nat → List Nat} {n : Nat} {W : Nat → Int}
def GoodK (n : Nat) (W : Nat → Int) (B : Int) (kn : List Int) : Prop := kn.length = n ∧ ∀ j, j < n → gk kn j = 0 ∨ gk kn j = W j ∨ (gk kn j = -1 ∧ B ≤ W j)
theorem sumK_pos (h1 : ∀ a, a < n → 1 ≤ W a) : ∀ l : List Nat, (∀ k ∈ l, k < n) → 0 ≤ sumK W l ∧ ∀ k ∈ l, W k ≤ sumK W l
 | [], _ => ⟨Int.le_refl _, fun _ h => nomatch h⟩
 | k :: l, h => by
  have ih := sumK_pos h1 l fun j hj => h j (List.mem_cons_of_mem _ hj)
  have hk := h1 k (h k List.mem_cons_self)
  unfold sumK
  refine ⟨by omega, fun j hj => ?_⟩
  rcases List.mem_cons.1 hj with rfl | hj
  ·omega
  ·have := ih.2 j hj
   omega
theorem sumK_cons (v : Nat → Int) (k : Nat) (l : List Nat) : sumK v (k :: l) = v k + sumK v l := rfl
theorem dfs_good (hE : ∀ a, a < n → ∀ k ∈ F a, k < n) (hW : ∀ a, a < n → W a = 1 + sumK W (F a)) (h1 : ∀ a, a < n → 1 ≤ W a) (hm : ∀ a, a < n → W a ≤ 1000) :
 ∀ (f : Nat) (kn : List Int) (a : Nat) (B : Int), a < n → W a < B → zc kn < f → GoodK n W B kn → (dfsW F f kn a).1 = W a ∧ GoodK n W B (dfsW F f kn a).2 ∧ (∀ j, gk kn j ≠ 0 → gk (dfsW F f kn a).2 j = gk kn j) ∧ ∀ j, gk (dfsW F f kn a).2 j < 0 → gk kn j < 0
 | 0, _, _, _, _, _, h, _ => absurd h (Nat.not_lt_zero _)
 | f + 1, kn, a, B, ha, hB, hz, hg => by
  unfold dfsW
  have ha' : a < kn.length := by rw [hg.1]; exact ha
  rcases hg.2 a ha with e | e | ⟨_, e⟩
  ·rw [if_neg (by omega), if_neg (by omega)]
   have hset := gk_set kn a (-1) ha'
   have hz1 := zc_set kn a (-1) ha' e (by decide)
   have hg1 : GoodK n W (W a) (kn.set a (-1)) := by
    refine ⟨by simpa using hg.1, fun j hj => ?_⟩
    rw [hset]
    by_cases ej : j = a
    ·rw [if_pos ej]; exact .inr (.inr ⟨rfl, by rw [ej]; exact Int.le_refl _⟩)
    ·rw [if_neg ej]
     rcases hg.2 j hj with q | q | ⟨q, q2⟩
     ·exact .inl q
     ·exact .inr (.inl q)
     ·exact .inr (.inr ⟨q, by omega⟩)
   have hlist : ∀ (l : List Nat) (m : Int) (kn1 : List Int), (∀ k ∈ l, k < n ∧ W k < W a) → m + sumK W l ≤ 1000 → zc kn1 < f → GoodK n W (W a) kn1 →
    (dfsL (dfsW F f) m kn1 l).1 = m + sumK W l ∧ GoodK n W (W a) (dfsL (dfsW F f) m kn1 l).2 ∧ (∀ j, gk kn1 j ≠ 0 → gk (dfsL (dfsW F f) m kn1 l).2 j = gk kn1 j) ∧ ∀ j, gk (dfsL (dfsW F f) m kn1 l).2 j < 0 → gk kn1 j < 0 := by
    intro l
    induction l with
    | nil => intro m kn1 _ _ _ hg; exact ⟨by simp [dfsL, sumK], hg, fun _ _ => rfl, fun _ h => h⟩
    | cons k l ih =>
     intro m kn1 hk hle hz hg
     have hk0 := hk k List.mem_cons_self
     obtain ⟨q1, q2, q3, q4⟩ := dfs_good hE hW h1 hm f kn1 k (W a) hk0.1 hk0.2 hz hg
     have hp := sumK_pos h1 l fun j hj => (hk j (List.mem_cons_of_mem _ hj)).1
     rw [sumK_cons] at hle ⊢
     have hmin : min (m + W k) 1001 = m + W k := by omega
     have hz' : zc (dfsW F f kn1 k).2 < f := Nat.lt_of_le_of_lt (zc_mono kn1 _ (by rw [hg.1, q2.1]) fun j hj => by rw [q3 j hj]; exact hj) hz
     unfold dfsL
     rw [q1, hmin]
     obtain ⟨r1, r2, r3, r4⟩ := ih (m + W k) (dfsW F f kn1 k).2 (fun j hj => hk j (List.mem_cons_of_mem _ hj)) (by omega) hz' q2
     refine ⟨by rw [r1, Int.add_assoc], r2, fun j hj => ?_, fun j hj => q4 j (r4 j hj)⟩
     rw [r3 j (by rw [q3 j hj]; exact hj), q3 j hj]
   have hks : ∀ k ∈ F a, k < n ∧ W k < W a := fun k hk => by
    have := (sumK_pos h1 (F a) (hE a ha)).2 k hk
    have := hW a ha
    exact ⟨hE a ha k hk, by omega⟩
   obtain ⟨r1, r2, r3, r4⟩ := hlist (F a) 1 (kn.set a (-1)) hks (by rw [← hW a ha]; exact hm a ha) (by omega) hg1
   rw [← hW a ha] at r1
   rw [r1]
   have hlen : a < (dfsL (dfsW F f) 1 (kn.set a (-1)) (F a)).2.length := by rw [r2.1]; exact ha
   have hneg : ∀ j, j ≠ a → gk (dfsL (dfsW F f) 1 (kn.set a (-1)) (F a)).2 j < 0 → gk kn j < 0 := fun j ej hj => by
    have := r4 j hj
    rwa [hset, if_neg ej] at this
   refine ⟨rfl, ⟨by simpa using r2.1, fun j hj => ?_⟩, fun j hj => ?_, fun j hj => ?_⟩
   ·rw [gk_set _ a _ hlen]
    by_cases ej : j = a
    ·rw [if_pos ej, ej]; exact .inr (.inl rfl)
    ·rw [if_neg ej]
     rcases r2.2 j hj with q | q | ⟨q, q2⟩
     ·exact .inl q
     ·exact .inr (.inl q)
     ·have hn := hneg j ej (by omega)
      have hp := h1 j hj
      rcases hg.2 j hj with p | p | ⟨p, p2⟩
      ·omega
      ·omega
      ·exact .inr (.inr ⟨q, p2⟩)
   ·have ej : j ≠ a := fun ej => hj (by rw [ej]; exact e)
    rw [gk_set _ a _ hlen, if_neg ej, r3 j (by rw [hset, if_neg ej]; exact hj), hset, if_neg ej]
   ·rw [gk_set _ a _ hlen] at hj
    by_cases ej : j = a
    ·rw [if_pos ej] at hj
     have := h1 a ha
     omega
    ·rw [if_neg ej] at hj
     exact hneg j ej hj
  ·have hp := h1 a ha
   rw [if_neg (by omega), if_pos (by omega)]
   exact ⟨e, hg, fun _ _ => rfl, fun _ h => h⟩
  ·omega
def EqK (F : Nat → List Nat) (n : Nat) (kn : List Int) : Prop := kn.length = n ∧ ∀ j, j < n → 0 < gk kn j → gk kn j ≤ 1000 → (∀ k ∈ F j, 0 < gk kn k) ∧ gk kn j = 1 + sumK (gk kn) (F j)
theorem dfs_eq (hE : ∀ a, a < n → ∀ k ∈ F a, k < n) : ∀ (f : Nat) (kn : List Int) (a : Nat), a < n → zc kn < f → EqK F n kn → EqK F n (dfsW F f kn a).2 ∧ (∀ j, gk kn j ≠ 0 → gk (dfsW F f kn a).2 j = gk kn j) ∧ 0 < (dfsW F f kn a).1 ∧ ((dfsW F f kn a).1 ≤ 1000 → gk (dfsW F f kn a).2 a = (dfsW F f kn a).1)
 | 0, _, _, _, h, _ => absurd h (Nat.not_lt_zero _)
 | f + 1, kn, a, ha, hz, hg => by
  unfold dfsW
  have ha' : a < kn.length := by rw [hg.1]; exact ha
  by_cases c1 : gk kn a < 0
  ·rw [if_pos c1]
   exact ⟨hg, fun _ _ => rfl, show (0 : Int) < 1001 by decide, fun h => absurd h (show ¬ (1001 : Int) ≤ 1000 by decide)⟩
  rw [if_neg c1]
  by_cases c2 : 0 < gk kn a
  ·rw [if_pos c2]
   exact ⟨hg, fun _ _ => rfl, c2, fun _ => rfl⟩
  rw [if_neg c2]
  have e : gk kn a = 0 := by omega
  have hset := gk_set kn a (-1) ha'
  have hz1 := zc_set kn a (-1) ha' e (by decide)
  have hg1 : EqK F n (kn.set a (-1)) := by
   refine ⟨by simpa using hg.1, fun j hj => ?_⟩
   rw [hset]
   by_cases ej : j = a
   ·rw [if_pos ej]; intro h; exact absurd h (by decide)
   ·rw [if_neg ej]
    intro h2 h3
    obtain ⟨p1, p2⟩ := hg.2 j hj h2 h3
    have hne : ∀ k ∈ F j, k ≠ a := fun k hk ek => by have := p1 k hk; rw [ek, e] at this; omega
    refine ⟨fun k hk => by rw [hset, if_neg (hne k hk)]; exact p1 k hk, ?_⟩
    rw [p2]
    exact congrArg (1 + ·) (sumK_congr _ _ _ fun k hk => by rw [hset, if_neg (hne k hk)])
  have hlist : ∀ (l : List Nat) (m : Int) (kn1 : List Int), (∀ k ∈ l, k < n) → 0 < m → zc kn1 < f → EqK F n kn1 →
   EqK F n (dfsL (dfsW F f) m kn1 l).2 ∧ (∀ j, gk kn1 j ≠ 0 → gk (dfsL (dfsW F f) m kn1 l).2 j = gk kn1 j) ∧ 0 < (dfsL (dfsW F f) m kn1 l).1 ∧
   ((dfsL (dfsW F f) m kn1 l).1 ≤ 1000 → (∀ k ∈ l, 0 < gk (dfsL (dfsW F f) m kn1 l).2 k) ∧ (dfsL (dfsW F f) m kn1 l).1 = m + sumK (gk (dfsL (dfsW F f) m kn1 l).2) l) := by
   intro l
   induction l with
   | nil => intro m kn1 _ hm _ hg; exact ⟨hg, fun _ _ => rfl, hm, fun _ => ⟨(fun _ h => nomatch h), by simp [dfsL, sumK]⟩⟩
   | cons k l ih =>
    intro m kn1 hk hm hz hg
    obtain ⟨q1, q2, q3, q4⟩ := dfs_eq hE f kn1 k (hk k List.mem_cons_self) hz hg
    have hz' : zc (dfsW F f kn1 k).2 < f := Nat.lt_of_le_of_lt (zc_mono kn1 _ (by rw [hg.1, q1.1]) fun j hj => by rw [q2 j hj]; exact hj) hz
    unfold dfsL
    obtain ⟨r1, r2, r3, r4⟩ := ih (min (m + (dfsW F f kn1 k).1) 1001) (dfsW F f kn1 k).2 (fun j hj => hk j (List.mem_cons_of_mem _ hj)) (by omega) hz' q1
    refine ⟨r1, fun j hj => by rw [r2 j (by rw [q2 j hj]; exact hj), q2 j hj], r3, fun hle => ?_⟩
    obtain ⟨s1, s2⟩ := r4 hle
    have hmon : 0 ≤ sumK (gk (dfsL (dfsW F f) (min (m + (dfsW F f kn1 k).1) 1001) (dfsW F f kn1 k).2 l).2) l := by
     have : ∀ (v : Nat → Int) (l : List Nat), (∀ k ∈ l, 0 < v k) → 0 ≤ sumK v l := by
      intro v l
      induction l with
      | nil => intro _; exact Int.le_refl _
      | cons k l ih =>
       intro h
       have h1 := h k List.mem_cons_self
       have h2 := ih fun j hj => h j (List.mem_cons_of_mem _ hj)
       rw [sumK_cons]
       omega
     exact this _ _ s1
    have hsm : (dfsW F f kn1 k).1 ≤ 1000 := by omega
    have hgk := q4 hsm
    have hk2 : gk (dfsL (dfsW F f) (min (m + (dfsW F f kn1 k).1) 1001) (dfsW F f kn1 k).2 l).2 k = (dfsW F f kn1 k).1 := by rw [r2 k (by rw [hgk]; omega), hgk]
    refine ⟨fun j hj => ?_, ?_⟩
    ·rcases List.mem_cons.1 hj with rfl | hj
     ·rw [hk2]; exact q3
     ·exact s1 j hj
    ·rw [sumK_cons, hk2]
     omega
  obtain ⟨r1, r2, r3, r4⟩ := hlist (F a) 1 (kn.set a (-1)) (hE a ha) (by decide) (by omega) hg1
  have hlen : a < (dfsL (dfsW F f) 1 (kn.set a (-1)) (F a)).2.length := by rw [r1.1]; exact ha
  have hst := gk_set (dfsL (dfsW F f) 1 (kn.set a (-1)) (F a)).2 a (dfsL (dfsW F f) 1 (kn.set a (-1)) (F a)).1 hlen
  have hA : gk (dfsL (dfsW F f) 1 (kn.set a (-1)) (F a)).2 a = -1 := by
   have := r2 a (by rw [hset, if_pos rfl]; decide)
   rw [this, hset, if_pos rfl]
  refine ⟨⟨by simpa using r1.1, fun j hj => ?_⟩, fun j hj => ?_, r3, fun _ => by rw [hst, if_pos rfl]⟩
  ·rw [hst]
   by_cases ej : j = a
   ·subst ej
    rw [if_pos rfl]
    intro h2 h3
    obtain ⟨s1, s2⟩ := r4 h3
    have hne : ∀ k ∈ F j, k ≠ j := fun k hk ek => by have := s1 k hk; rw [ek, hA] at this; omega
    refine ⟨fun k hk => by rw [hst, if_neg (hne k hk)]; exact s1 k hk, ?_⟩
    refine s2.trans ?_
    exact congrArg (1 + ·) (sumK_congr _ _ _ fun k hk => by rw [hst, if_neg (hne k hk)])
   ·rw [if_neg ej]
    intro h2 h3
    obtain ⟨p1, p2⟩ := r1.2 j hj h2 h3
    have hne : ∀ k ∈ F j, k ≠ a := fun k hk ek => by have := p1 k hk; rw [ek, hA] at this; omega
    refine ⟨fun k hk => by rw [hst, if_neg (hne k hk)]; exact p1 k hk, ?_⟩
    refine p2.trans ?_
    exact congrArg (1 + ·) (sumK_congr _ _ _ fun k hk => by rw [hst, if_neg (hne k hk)])
  ·have ej : j ≠ a := fun ej => hj (by rw [ej]; exact e)
   rw [hst, if_neg ej, r2 j (by rw [hset, if_neg ej]; exact hj), hset, if_neg ej]
end
section
variable {F : Nat → List Nat} {n : Nat}
def stepW (F : Nat → List Nat) (n : Nat) (l : List Int) : List Int := (List.range n).map fun a => min (1 + sumK (gk l) (F a)) 1001
theorem stepW_get (l : List Int) (a : Nat) (h : a < n) : gk (stepW F n l) a = min (1 + sumK (gk l) (F a)) 1001 := by
 unfold gk stepW
 simp [List.getD, h]
 rfl
theorem sumK_mono (v w : Nat → Int) : ∀ l : List Nat, (∀ k ∈ l, v k ≤ w k) → sumK v l ≤ sumK w l
 | [], _ => Int.le_refl _
 | k :: l, h => by
  have h1 := h k List.mem_cons_self
  have h2 := sumK_mono v w l fun j hj => h j (List.mem_cons_of_mem _ hj)
  rw [sumK_cons, sumK_cons]
  omega
theorem sumK_nn (v : Nat → Int) : ∀ l : List Nat, (∀ k ∈ l, 0 ≤ v k) → 0 ≤ sumK v l
 | [], _ => Int.le_refl _
 | k :: l, h => by
  have h1 := h k List.mem_cons_self
  have h2 := sumK_nn v l fun j hj => h j (List.mem_cons_of_mem _ hj)
  rw [sumK_cons]
  omega
inductive RndW (F : Nat → List Nat) (n : Nat) : List Int → Prop
 | one : RndW F n (List.replicate n 1)
 | step (l : List Int) : RndW F n l → RndW F n (stepW F n l)
theorem rnd_len {l : List Int} (h : RndW F n l) : l.length = n := by
 cases h with
 | one => simp
 | step l h => simp [stepW]
theorem gk_rep (n a : Nat) (h : a < n) : gk (List.replicate n 1) a = 1 := by simp [gk, List.getD, h]
theorem rnd_pos (hE : ∀ a, a < n → ∀ k ∈ F a, k < n) {l : List Int} (h : RndW F n l) : ∀ a, a < n → 1 ≤ gk l a ∧ gk l a ≤ 1001 := by
 induction h with
 | one => intro a ha; rw [gk_rep n a ha]; exact ⟨by decide, by decide⟩
 | step l hl ih =>
  intro a ha
  rw [stepW_get l a ha]
  have := sumK_nn (gk l) (F a) fun k hk => by have := ih k (hE a ha k hk); omega
  omega
theorem rnd_le (hE : ∀ a, a < n → ∀ k ∈ F a, k < n) {V : Nat → Int} (h1 : ∀ a, a < n → 1 ≤ V a) (hV : ∀ a, a < n → V a = 1 + sumK V (F a)) {l : List Int} (h : RndW F n l) : ∀ a, a < n → gk l a ≤ V a := by
 induction h with
 | one => intro a ha; rw [gk_rep n a ha]; exact h1 a ha
 | step l hl ih =>
  intro a ha
  rw [stepW_get l a ha, hV a ha]
  have := sumK_mono (gk l) V (F a) fun k hk => ih k (hE a ha k hk)
  omega
theorem rnd_up (hE : ∀ a, a < n → ∀ k ∈ F a, k < n) {l : List Int} (h : RndW F n l) : ∀ a, a < n → gk l a ≤ gk (stepW F n l) a := by
 induction h with
 | one =>
  intro a ha
  rw [gk_rep n a ha, stepW_get _ a ha]
  have := sumK_nn (gk (List.replicate n 1)) (F a) fun k hk => by rw [gk_rep n k (hE a ha k hk)]; decide
  omega
 | step l hl ih =>
  intro a ha
  rw [stepW_get l a ha, stepW_get (stepW F n l) a ha]
  have := sumK_mono (gk l) (gk (stepW F n l)) (F a) fun k hk => ih k (hE a ha k hk)
  omega
def scanW (F : Nat → List Nat) (f : Nat) (A : Nat → Bool) : List Nat → List Int → Bool
 | [], _ => true
 | i :: l, kn => A i && (decide ((dfsW F f kn i).1 ≤ 1000) && scanW F f A l (dfsW F f kn i).2)
theorem zc_le : ∀ l : List Int, zc l ≤ l.length
 | [] => Nat.le_refl _
 | x :: l => by
  have := zc_le l
  unfold zc
  split <;> simp <;> omega
theorem scan_good (hE : ∀ a, a < n → ∀ k ∈ F a, k < n) {W : Nat → Int} (hW : ∀ a, a < n → W a = 1 + sumK W (F a)) (h1 : ∀ a, a < n → 1 ≤ W a) (hm : ∀ a, a < n → W a ≤ 1000) (f : Nat) (hf : n < f) (A : Nat → Bool) :
 ∀ (l : List Nat) (kn : List Int), (∀ i ∈ l, i < n) → GoodK n W 1001 kn → scanW F f A l kn = l.all A
 | [], _, _, _ => rfl
 | i :: l, kn, hl, hg => by
  have hi := hl i List.mem_cons_self
  obtain ⟨q1, q2, _, _⟩ := dfs_good hE hW h1 hm f kn i 1001 hi (by have := hm i hi; omega) (by have := zc_le kn; rw [hg.1] at this; omega) hg
  rw [scanW, q1, decide_eq_true (hm i hi), Bool.true_and, List.all_cons, scan_good hE hW h1 hm f hf A l _ (fun j hj => hl j (List.mem_cons_of_mem _ hj)) q2]
theorem scan_eq (hE : ∀ a, a < n → ∀ k ∈ F a, k < n) (f : Nat) (hf : n < f) (A : Nat → Bool) :
 ∀ (l : List Nat) (kn : List Int), (∀ i ∈ l, i < n) → EqK F n kn → scanW F f A l kn = true → ∃ kn', EqK F n kn' ∧ (∀ j, gk kn j ≠ 0 → gk kn' j = gk kn j) ∧ ∀ i ∈ l, 0 < gk kn' i ∧ gk kn' i ≤ 1000
 | [], kn, _, hg, _ => ⟨kn, hg, fun _ _ => rfl, fun _ h => nomatch h⟩
 | i :: l, kn, hl, hg, hs => by
  have hi := hl i List.mem_cons_self
  obtain ⟨q1, q2, q3, q4⟩ := dfs_eq hE f kn i hi (by have := zc_le kn; rw [hg.1] at this; omega) hg
  rw [scanW, Bool.and_eq_true, Bool.and_eq_true] at hs
  have hle := of_decide_eq_true hs.2.1
  obtain ⟨kn', r1, r2, r3⟩ := scan_eq hE f hf A l _ (fun j hj => hl j (List.mem_cons_of_mem _ hj)) q1 hs.2.2
  refine ⟨kn', r1, fun j hj => by rw [r2 j (by rw [q2 j hj]; exact hj), q2 j hj], fun j hj => ?_⟩
  rcases List.mem_cons.1 hj with rfl | hj
  ·have := q4 hle
   rw [r2 j (by rw [this]; omega), this]
   exact ⟨q3, hle⟩
  ·exact r3 j hj
theorem scan_rnd (hE : ∀ a, a < n → ∀ k ∈ F a, k < n) (f : Nat) (hf : n < f) (A : Nat → Bool) {l : List Int} (h : RndW F n l) (hfix : stepW F n l = l) :
 scanW F f A (List.range n) (List.replicate n 0) = (List.range n).all fun i => A i && decide (gk l i ≤ 1000) := by
 have hp := rnd_pos hE h
 have hr : ∀ i ∈ List.range n, i < n := fun i hi => List.mem_range.1 hi
 have hz : ∀ j, gk (List.replicate n (0 : Int)) j = 0 := fun j => by
  unfold gk
  by_cases hj : j < n
  ·simp [List.getD, hj]
  ·simp [List.getD, hj]
 by_cases hall : ∀ a, a < n → gk l a ≤ 1000
 ·have hW : ∀ a, a < n → gk l a = 1 + sumK (gk l) (F a) := fun a ha => by
   have h2 := stepW_get (F := F) l a ha
   rw [hfix] at h2
   have h3 := hall a ha
   omega
  rw [scan_good hE hW (fun a ha => (hp a ha).1) hall f hf A _ _ hr ⟨by simp, fun j _ => .inl (hz j)⟩]
  rw [Bool.eq_iff_iff, List.all_eq_true, List.all_eq_true]
  refine ⟨fun q i hi => ?_, fun q i hi => ?_⟩
  ·rw [q i hi, decide_eq_true (hall i (hr i hi))]; rfl
  ·have := q i hi
   rw [Bool.and_eq_true] at this
   exact this.1
 ·have hR : (List.range n).all (fun i => A i && decide (gk l i ≤ 1000)) = false := by
   refine Bool.eq_false_iff.2 fun q => hall fun a ha => ?_
   have := List.all_eq_true.1 q a (List.mem_range.2 ha)
   rw [Bool.and_eq_true] at this
   exact of_decide_eq_true this.2
  rw [hR]
  refine Bool.eq_false_iff.2 fun q => hall fun a ha => ?_
  obtain ⟨kn', r1, _, r3⟩ := scan_eq hE f hf A _ _ hr ⟨by simp, fun j _ h2 => by rw [hz j] at h2; exact absurd h2 (by decide)⟩ q
  have hk := fun a (ha : a < n) => r3 a (List.mem_range.2 ha)
  have := rnd_le hE (V := gk kn') (fun a ha => by have := hk a ha; omega) (fun a ha => (r1.2 a ha (hk a ha).1 (hk a ha).2).2) h a ha
  have := hk a ha
  omega
def sumI : List Int → Int
 | [] => 0
 | x :: l => x + sumI l
theorem sumI_up : ∀ (l m : List Int), l.length = m.length → (∀ a, a < l.length → gk l a ≤ gk m a) → sumI l ≤ sumI m ∧ (l ≠ m → sumI l < sumI m)
 | [], [], _, _ => ⟨Int.le_refl _, fun h => absurd rfl h⟩
 | x :: l, y :: m, hl, h => by
  have ih := sumI_up l m (by simpa using hl) fun a ha => by simpa [gk] using h (a + 1) (by simpa using ha)
  have h0 : x ≤ y := h 0 (by simp)
  unfold sumI
  refine ⟨by omega, fun hne => ?_⟩
  by_cases e : x = y
  ·have := ih.2 fun q => hne (by rw [e, q])
   omega
  ·omega
theorem sumI_le : ∀ (l : List Int), (∀ a, a < l.length → gk l a ≤ 1001) → sumI l ≤ 1001 * l.length
 | [], _ => by simp [sumI]
 | x :: l, h => by
  have ih := sumI_le l fun a ha => by simpa [gk] using h (a + 1) (by simpa using ha)
  have h0 : x ≤ 1001 := h 0 (by simp)
  unfold sumI
  simp only [List.length_cons]
  omega
theorem rnd_less (hE : ∀ a, a < n → ∀ k ∈ F a, k < n) {l : List Int} (h : RndW F n l) (hne : stepW F n l ≠ l) : (1001 * n - sumI (stepW F n l)).toNat < (1001 * n - sumI l).toNat := by
 have hl := rnd_len h
 have h1 := sumI_up l (stepW F n l) (by rw [hl]; simp [stepW]) fun a ha => rnd_up hE h a (by rw [← hl]; exact ha)
 have h2 := h1.2 (Ne.symm hne)
 have h3 := sumI_le (stepW F n l) fun a ha => (rnd_pos hE (.step l h) a (by simpa [stepW] using ha)).2
 have h4 : (stepW F n l).length = n := by simp [stepW]
 rw [h4] at h3
 omega
end
end Go.Proofs.YtkgbbcnjkojocaaGreatDoor
namespace Go.Proofs.YtkgbbcnjkojocaaGreatDoor
open Go.RowKit Go.Av Go.Ab
set_option linter.unusedSimpArgs false
set_option linter.unusedVariables false
set_option maxRecDepth 100000
set_option linter.defProp false
def b30 := KB Tryz.func30 61
def fN (l : List NdT) (a : Nat) : List Nat := if (ndN l a).kind = 9 then (ndN l a).fields.map fun f => f.type.toNat else []
def KnOk (kn : List Int) : Prop := ∀ j, -1 ≤ gk kn j ∧ gk kn j ≤ 1001
theorem KnOk.set {kn : List Int} (h : KnOk kn) {a : Nat} {v : Int} (h1 : -1 ≤ v) (h2 : v ≤ 1001) (ha : a < kn.length) : KnOk (kn.set a v) := fun j => by
 rw [gk_set kn a v ha]
 split
 ·exact ⟨h1, h2⟩
 ·exact h j
structure DfsK (kn : List Int) (r : Int × List Int) : Prop where
 len : r.2.length = kn.length
 ok : KnOk r.2
 lo : 0 ≤ r.1
 hi : r.1 ≤ 1001
 nz : ∀ j, gk kn j ≠ 0 → gk r.2 j ≠ 0
theorem dfsL_k (g : List Int → Nat → Int × List Int) (hg : ∀ kn a, KnOk kn → DfsK kn (g kn a)) : ∀ (l : List Nat) (n : Int) (kn : List Int), KnOk kn → 1 ≤ n → n ≤ 1001 → DfsK kn (dfsL g n kn l) ∧ 1 ≤ (dfsL g n kn l).1
 | [], n, kn, h, h1, h2 => ⟨⟨rfl, h, by show 0 ≤ n; omega, h2, fun _ h => h⟩, h1⟩
 | k :: l, n, kn, h, h1, h2 => by
  rw [dfsL]
  have q := hg kn k h
  have := q.lo
  have := q.hi
  obtain ⟨r, r1⟩ := dfsL_k g hg l (min (n + (g kn k).1) 1001) (g kn k).2 q.ok (by omega) (by omega)
  exact ⟨⟨r.len.trans q.len, r.ok, r.lo, r.hi, fun j hj => r.nz j (q.nz j hj)⟩, r1⟩
theorem dfsW_k (F : Nat → List Nat) : ∀ (f : Nat) (kn : List Int) (a : Nat), KnOk kn → DfsK kn (dfsW F f kn a)
 | 0, kn, a, h => ⟨rfl, h, Int.le_refl 0, show (0 : Int) ≤ 1001 by decide, fun _ h => h⟩
 | f + 1, kn, a, h => by
  unfold dfsW
  split
  ·exact ⟨rfl, h, show (0 : Int) ≤ 1001 by decide, Int.le_refl 1001, fun _ h => h⟩
  split
  ·exact ⟨rfl, h, by show 0 ≤ gk kn a; omega, (h a).2, fun _ h => h⟩
  ·by_cases ha : a < kn.length
   ·obtain ⟨q, q1⟩ := dfsL_k (dfsW F f) (fun kn a h => dfsW_k F f kn a h) (F a) 1 (kn.set a (-1)) (h.set (by decide) (by decide) ha) (by decide) (by decide)
    have hl : a < (dfsL (dfsW F f) 1 (kn.set a (-1)) (F a)).2.length := by rw [q.len, List.length_set]; exact ha
    refine ⟨by rw [List.length_set, q.len, List.length_set], q.ok.set (by have := q.lo; omega) q.hi hl, q.lo, q.hi, fun j hj => ?_⟩
    show gk ((dfsL (dfsW F f) 1 (kn.set a (-1)) (F a)).2.set a _) j ≠ 0
    rw [gk_set _ _ _ hl]
    split
    ·omega
    ·refine q.nz j ?_
     rw [gk_set _ _ _ ha, if_neg (by assumption)]
     exact hj
   ·have e : kn.set a (-1) = kn := List.set_eq_of_length_le (by omega)
    rw [e]
    obtain ⟨q, q1⟩ := dfsL_k (dfsW F f) (fun kn a h => dfsW_k F f kn a h) (F a) 1 kn h (by decide) (by decide)
    have e2 : ∀ v, (dfsL (dfsW F f) 1 kn (F a)).2.set a v = (dfsL (dfsW F f) 1 kn (F a)).2 := fun v => List.set_eq_of_length_le (by rw [q.len]; omega)
    rw [e2]
    exact q
def knB (kn : List Int) : List V := kn.map fun i => .d (.int .i64 i)
theorem knB_set (kn : List Int) (a : Nat) (v : Int) (h : a < kn.length) : (knB kn).take a ++ .d (.int .i64 v) :: (knB kn).drop (a + 1) = knB (kn.set a v) := by
 unfold knB
 rw [List.map_set, List.set_eq_take_append_cons_drop, if_pos (by simpa using h)]
theorem knB_fit (a b : Nat) (kn : List Int) : (knB kn).all (fit a b) = true := by
 unfold knB
 rw [List.all_map, List.all_eq_true]
 exact fun _ _ => rfl
theorem knB_len (kn : List Int) : (knB kn).length = kn.length := by simp [knB]
def WtOk (l : List NdT) (root : Int) (f : Nat) : Prop := ∀ (kn : List Int) (a k : Nat) (B : List (List V)) (T : List (Nat × Nat)), a < l.length → kn.length = l.length → zc kn < f → KnOk kn → B[k]? = some (knB kn) →
 AFn Tryz.prog TabI 30 [.agg [.d (.sl (l.map ndD)), .d (.int .i64 root)], .d (.int .i64 (a : Int)), .bx k l.length l.length] ⟨B, T⟩ (Same (.d (.int .i64 (dfsW (fN l) f kn a).1)) ⟨B.set k (knB (dfsW (fN l) f kn a).2), T⟩)
set_option maxHeartbeats 8000000 in
theorem weight_step (l : List NdT) (root : Int) (hs : ∀ n ∈ l, SmN n) (hl : l.length ≤ 200) (hE : ∀ a, a < l.length → (ndN l a).kind = 9 → ∀ x ∈ (ndN l a).fields, 0 ≤ x.type ∧ x.type < (l.length : Int)) (f : Nat) (hf : WtOk l root f) : WtOk l root (f + 1) := by
 intro kn a k B T ha hkl hz hok hB
 obtain ⟨N, hn⟩ : ∃ N, B.length = N := ⟨_, rfl⟩
 have hk : k < B.length := (List.getElem?_eq_some_iff.1 hB).1
 have hi : k < N := by omega
 have hbs : B.set k (knB kn) = B := by
  obtain ⟨_, h⟩ := List.getElem?_eq_some_iff.1 hB
  rw [← h, List.set_getElem_self]
 have hka : a < kn.length := by omega
 have hcell : (knB kn)[a]? = some (.d (.int .i64 (gk kn a))) := by simp [knB, gk, List.getD, hka]
 have hla : (a : Int) < (l.length : Int) := by omega
 have hnn : (0 : Int) ≤ (a : Int) := by omega
 unfold dfsW
 by_cases h0 : gk kn a < 0
 ·have e1 := decide_eq_true h0
  rw [if_pos h0]
  refine enS b30 fun hsm => ?_
  simp only [smw] at hsm
  simp only [W, seval, b30, hn, hi, hB, hcell, hla, hnn, if_true, and_self, Int.toNat_natCast, Nat.mul_one, bxS, e1]
  refine retN b30 (Left.box ?_)
  exact ⟨rfl, by rw [hbs]⟩
 have e1 := decide_eq_false h0
 rw [if_neg h0]
 by_cases h1 : 0 < gk kn a
 ·have e2 := decide_eq_true h1
  rw [if_pos h1]
  refine enS b30 fun hsm => ?_
  simp only [smw] at hsm
  simp only [W, seval, b30, hn, hi, hB, hcell, hla, hnn, if_true, and_self, Int.toNat_natCast, Nat.mul_one, bxS, e1, e2]
  refine retN b30 (Left.box ?_)
  exact ⟨rfl, by rw [hbs]⟩
 have e2 := decide_eq_false h1
 rw [if_neg h1]
 have hg := nd_row (l := l) (m := (a : Int)) (by omega) (by omega)
 rw [ndD_eq] at hg
 simp only [Int.toNat_natCast] at hg
 have hca : a + 1 ≤ kn.length := by omega
 have hks := knB_set kn a (-1) hka
 refine enS b30 fun hsm => ?_
 simp only [smw] at hsm
 simp only [W, seval, b30, hn, hi, hB, hcell, hla, ha, hnn, if_true, and_self, Int.toNat_natCast, Nat.mul_one, bxS, e1, e2, hg, knB_len, hca, hks]
 refine ARun.fits fun hft => ?_
 have hfk : ∀ q : List Int, Fits ⟨B.set k (knB q) ++ [[V.d (.sl (l.map ndD)), .d (.int .i64 root)]], T⟩ := fun q => by
  have h := hft.set (i := k) (vs := knB q) (knB_fit _ _ _)
  rwa [List.set_append_left _ _ (by rw [List.length_set]; exact hk), List.set_set] at h
 obtain ⟨x, hx⟩ : ∃ x, ndN l a = x := ⟨_, rfl⟩
 have hxs : SmN x := by rw [← hx, ndN_at ha]; exact hs _ (List.getElem_mem ha)
 have hxE := hE a ha
 rw [hx] at hxE hg ⊢
 have hok1 : KnOk (kn.set a (-1)) := hok.set (by decide) (by decide) hka
 have hga : gk kn a = 0 := by omega
 have hzc : zc (kn.set a (-1)) < f := by have := zc_set kn a (-1) hka hga (by decide); omega
 obtain ⟨R, hR⟩ : ∃ R, dfsL (dfsW (fN l) f) 1 (kn.set a (-1)) (fN l a) = R := ⟨_, rfl⟩
 rw [hR]
 have hfl : x.fields.length ≤ 2500 := hxs.2.1
 have hfa : fN l a = if x.kind = 9 then (x.fields.drop 0).map (fun f => f.type.toNat) else [] := by unfold fN; rw [hx]; rfl
 rw [hfa] at hR
 refine ARun.loopB (fun p : Nat × Int × List Int => (envS 61 [(1, .d (.int .i64 (a : Int))), (2, .bx k l.length l.length), (3, .ptr N 0), (7, .d (.int .i64 p.2.1)), (34, .d (.sl (x.fields.map fdD))), (35, .d (.int .i64 x.fields.length)), (36, .d (.int .i64 (p.1 : Int)))], ⟨B.set k (knB p.2.2) ++ [[.d (.sl (l.map ndD)), .d (.int .i64 root)]], T⟩)) (fun p => p.1 ≤ x.fields.length ∧ KnOk p.2.2 ∧ p.2.2.length = l.length ∧ zc p.2.2 < f ∧ 1 ≤ p.2.1 ∧ p.2.1 ≤ 1001 ∧ dfsL (dfsW (fN l) f) p.2.1 p.2.2 (if x.kind = 9 then (x.fields.drop p.1).map (fun f => f.type.toNat) else []) = R) (fun p => x.fields.length - p.1) (0, 1, kn.set a (-1)) ⟨by omega, hok1, by simp [hkl], hzc, Int.le_refl 1, show (1 : Int) ≤ 1001 by decide, hR⟩ envA rfl ?_
 rintro ⟨i, m, kq⟩ ⟨g1, g2, g3, g4, g5, g6, g7⟩ ih
 dsimp only at g1 g2 g3 g4 g5 g6 g7 ih ⊢
 have hlq : (B.set k (knB kq)).length = N := by rw [List.length_set]; exact hn
 have hgq : ∀ J : List (List V), (B.set k (knB kq) ++ J)[k]? = some (knB kq) := fun J => by
  rw [List.getElem?_append_left (by omega), List.getElem?_set_self hk]
 have hgs : ∀ (Y : List V) (J : List (List V)), (B.set k (knB kq) ++ Y :: J)[N]? = some Y := fun Y J => by
  rw [← hlq]; simp
 by_cases hlt : i < x.fields.length
 case neg =>
  have e3 : decide ((i : Int) < (x.fields.length : Int)) = false := decide_eq_false (by omega)
  have hrest : (if x.kind = 9 then (x.fields.drop i).map (fun f => f.type.toNat) else []) = [] := by
   split
   ·rw [List.drop_eq_nil_of_le (by omega)]; rfl
   ·rfl
  rw [hrest, dfsL] at g7
  have hcq : a + 1 ≤ kq.length := by omega
  have hkq := knB_set kq a m (by omega)
  refine goN ?_
  simp only [W, seval, b30, hlq, hi, hgq, hgs, hnn, hla, if_true, and_self, Int.toNat_natCast, Nat.mul_one, bxS, e3, knB_len, hcq, hkq]
  refine retN b30 (Left.set (knB_fit _ _ _) ?_)
  rw [← g7]
  exact ⟨rfl, rfl⟩
 have e3 : decide ((i : Int) < (x.fields.length : Int)) = true := decide_eq_true (by omega)
 have hw := wrap_in ((i : Int) + 1) (by omega)
 have hgf := List.getElem?_eq_getElem hlt
 have e5 : ∀ (Z : List (List V)) (X Y : List V), Z ++ [X, Y] = (Z ++ [X]) ++ [Y] := fun Z X Y => by simp
 by_cases k9 : x.kind = 9
 case neg =>
  have e9 := decide_eq_false k9
  rw [if_neg k9] at g7
  refine goN ?_
  simp only [W, seval, b30, hlq, hi, hgq, hgs, hnn, hla, ha, if_true, and_self, Int.toNat_natCast, Nat.mul_one, bxS, e3, hg, hgf, List.getElem?_map, fdD_eq, e9, hw]
  rw [e5]
  refine ih (i + 1, m, kq) ⟨by omega, g2, g3, g4, g5, g6, by rw [if_neg k9]; exact g7⟩ (by dsimp only; omega) _ _ _ _ rfl ⟨by simp; omega, Nat.le_refl _⟩ (hfk _) ?_
  refine AgreeF.env _ ?_
  simp only [agf, seval, hn]
  exact ⟨decide_eq_true (by simp; omega), decide_eq_true (by simp; omega)⟩
 have e9 := decide_eq_true k9
 have hyE := hxE k9 _ (List.getElem_mem hlt)
 rw [if_pos k9, List.drop_eq_getElem_cons hlt, List.map_cons, dfsL] at g7
 obtain ⟨y, hyy⟩ : ∃ y, x.fields[i] = y := ⟨_, rfl⟩
 rw [hyy] at hgf hyE g7
 obtain ⟨j, hj⟩ : ∃ j : Nat, y.type = (j : Int) := ⟨y.type.toNat, by omega⟩
 rw [hj, Int.toNat_natCast] at g7
 rw [hj] at hyE
 have hrec := hf kq j k (B.set k (knB kq) ++ [[V.d (.sl (l.map ndD)), .d (.int .i64 root)], [.d (.str y.name), .d (.sl (ssD y.aliases)), .d (.int .i64 y.type), .d (.bool y.has), .d (.int .i64 y.dflt.kind), .d (.int .i64 y.dflt.int), .d (.str y.dflt.text), .d (.sl (y.dflt.items.map jsD)), .d (.sl (ssD y.dflt.keys))]]) T (by omega) g3 g4 g2 (hgq _)
 have hq := dfsW_k (fN l) f kq j g2
 obtain ⟨r, hr⟩ : ∃ r, dfsW (fN l) f kq j = r := ⟨_, rfl⟩
 rw [hr] at hrec hq g7
 rw [← hj] at hrec
 have hwm := wrap_in (m + r.1) (by have := hq.lo; have := hq.hi; omega)
 refine goN ?_
 simp only [W, seval, b30, hlq, hi, hgq, hgs, hnn, hla, ha, if_true, and_self, Int.toNat_natCast, Nat.mul_one, bxS, e3, hg, hgf, List.getElem?_map, fdD_eq, e9, hw]
 refine callN (hrec) ?_
 refine goN ?_
 simp only [W, seval, b30, hlq, hi, hgq, hgs, hwm, hw]
 have hmin : (if 1001 < m + r.1 then 1001 else m + r.1) = min (m + r.1) 1001 := by
  split <;> omega
 rw [hmin, e5]
 have := hq.lo
 have := hq.hi
 refine ih (i + 1, min (m + r.1) 1001, r.2) ⟨by omega, hq.ok, by rw [hq.len]; exact g3, ?_, by dsimp only; omega, by dsimp only; omega, by rw [if_pos k9]; exact g7⟩ (by dsimp only; omega) _ _ _ _ rfl ⟨by simp; omega, Nat.le_refl _⟩ (hfk _) ?_
 ·exact Nat.lt_of_le_of_lt (zc_mono kq r.2 hq.len.symm hq.nz) g4
 ·skip
  refine AgreeF.env _ ?_
  simp only [agf, seval, hn]
  exact ⟨decide_eq_true (by simp; omega), decide_eq_true (by simp; omega)⟩
theorem weight_ab (l : List NdT) (root : Int) (hs : ∀ n ∈ l, SmN n) (hl : l.length ≤ 200) (hE : ∀ a, a < l.length → (ndN l a).kind = 9 → ∀ x ∈ (ndN l a).fields, 0 ≤ x.type ∧ x.type < (l.length : Int)) : ∀ f, WtOk l root f
 | 0 => fun kn a k B T h1 h2 h3 => absurd h3 (Nat.not_lt_zero _)
 | f + 1 => weight_step l root hs hl hE f (weight_ab l root hs hl hE f)
def b13 := KB Tryz.func13 44
section
variable (rj zj : JsT → Bool)
def namesN (l : List NdT) : List (List UInt8) := (l.filter fun n => namedB n.kind).map NdT.name
def nodeN (l : List NdT) (i : Nat) : Bool := nodeP SimpleS FullS kindI rj zj (kdN l) (ndN l i)
def rightP (s : ScT) : Bool := orderedN s && (scanW (fN s.nodes) (s.nodes.length + 1) (nodeN rj zj s.nodes) (List.range s.nodes.length) (List.replicate s.nodes.length 0) && diffF FullS [] (namesN s.nodes))
end
theorem ordered_kids {s : ScT} (h : orderedN s = true) : s.nodes.length ≤ 200 ∧ ∀ i, i < s.nodes.length → ∀ k ∈ kidsA s.nodes i, 0 ≤ k ∧ k < (s.nodes.length : Int) := by
 unfold orderedN at h
 simp only [Bool.and_eq_true, decide_eq_true_eq] at h
 obtain ⟨h0, h1, h2, h3⟩ := h
 obtain ⟨p1, p2, p3⟩ := met_kids (kidsA s.nodes) (nmN s.nodes) s.nodes.length (s.nodes.length + 1) 0 0 (by show 0 ≤ metN s.nodes (s.nodes.length + 1) 0 0; omega)
 refine ⟨h1, fun i hi => p3 i (Nat.zero_le _) ?_⟩
 show i < (metN s.nodes (s.nodes.length + 1) 0 0).toNat
 rw [h3]
 simpa using hi
theorem tySI : tyOf Tryz.prog 47 = some ⟨.slice 3, 1, 24, false, [.sl [] .full]⟩ := by kernel_rfl
theorem tySJ : tyOf Tryz.prog 3 = some ⟨.int .i64, 1, 8, false, [.d (.int .i64 0)]⟩ := by kernel_rfl
theorem kids_9 {l : List NdT} {i : Nat} (h : (ndN l i).kind = 9) {x : FdT} (hx : x ∈ (ndN l i).fields) : x.type ∈ kidsA l i := by
 unfold kidsA kidsN
 rw [if_pos h]
 exact List.mem_map_of_mem hx
theorem kids_13 {l : List NdT} {i : Nat} (h : (ndN l i).kind = 13) : kidsA l i = (ndN l i).branches := by
 unfold kidsA kidsN
 rw [if_neg (by omega), if_neg (by omega), if_pos h]
theorem namesN_snoc (l : List NdT) (i : Nat) (h : i < l.length) : namesN (l.take (i + 1)) = if namedB (ndN l i).kind = true then namesN (l.take i) ++ [(ndN l i).name] else namesN (l.take i) := by
 unfold namesN
 rw [List.take_succ_eq_append_getElem h, List.filter_append, List.map_append, ndN_at h]
 cases hb : namedB l[i].kind <;> simp [List.filter, hb]
theorem knOk_0 (n : Nat) : KnOk (List.replicate n 0) := fun j => by
 unfold gk
 rw [List.getD_eq_getElem?_getD, List.getElem?_replicate]
 split <;> simp
set_option maxHeartbeats 16000000 in
theorem sright_ab {rj zj : JsT → Bool} (hj : JsOk 73 74 rj zj) (s : ScT) (hs : SmS s) (hsy : ∀ n ∈ s.nodes, n.symbols.length ≤ 1000000) (B : List (List V)) (T : List (Nat × Nat)) :
 AFn Tryz.prog TabI 13 [scV s] ⟨B, T⟩ (Same (.d (.bool (rightP rj zj s))) ⟨B, T⟩) := by
 obtain ⟨N, hn⟩ : ∃ N, B.length = N := ⟨_, rfl⟩
 obtain ⟨M, hM⟩ : ∃ M, T.length = M := ⟨_, rfl⟩
 have ho := fun B T => ordered_ab s hs B T
 unfold scV at ho ⊢
 unfold rightP
 refine enS b13 fun hsm => ?_
 simp only [smw] at hsm
 simp only [W, seval, b13, hn]
 refine callN (ho _ _) ?_
 cases hor : orderedN s
 ·refine goN ?_
  simp only [W, seval, b13, hn]
  refine retN b13 (Left.box ?_)
  exact ⟨rfl, rfl⟩
 obtain ⟨hl, hk⟩ := ordered_kids hor
 rw [Bool.true_and]
 refine ARun.go 13 ?_
 simp only [W, seval, b13, hn]
 refine ARun.token 3 [] (by rfl) 1 (by omega) rfl ?_
 simp only [envS_put, hM]
 refine OpR.step (ops := opsOf (kF Tryz.f13 13)) (i := 3) (o := opAt (opsOf (kF Tryz.f13 13)) 3) (by kernel_rfl) (.inl (by kernel_rfl)) (OpR.makeI (n := s.nodes.length) (t := 47) (x := .tmp 12) (y := .tmp 12) (by kernel_rfl) tySI rfl tySJ rfl rfl rfl (by omega) (by simp only [W, seval]) (by simp only [W, seval])) ?_
 rintro _ _ ⟨rfl, rfl⟩
 rw [show (opAt (opsOf (kF Tryz.f13 13)) 3).dst = some 13 from by kernel_rfl]
 refine goN ?_
 simp only [W, seval, b13, hn]
 obtain ⟨R, hR⟩ : ∃ R, (scanW (fN s.nodes) (s.nodes.length + 1) (nodeN rj zj s.nodes) (List.range s.nodes.length) (List.replicate s.nodes.length 0) && diffF FullS [] (namesN s.nodes)) = R := ⟨_, rfl⟩
 rw [hR]
 have hrep : List.replicate s.nodes.length (V.d (.int .i64 0)) = knB (List.replicate s.nodes.length 0) := by simp [knB]
 rw [hrep]
 have hset : ∀ (X Y Z : List V) (J : List (List V)), (B ++ X :: Y :: J).set (N + 1) Z = B ++ X :: Z :: J := fun X Y Z J => by
  rw [← hn, List.set_append_right _ _ (by omega)]
  simp
 have hget : ∀ (X Y : List V) (J : List (List V)), (B ++ X :: Y :: J)[N + 1]? = some Y := fun X Y J => by rw [← hn]; simp
 refine ARun.fits fun hf => ?_
 have hfk : ∀ (q : List Int) (t : Nat × Nat), Fits ⟨B ++ [[V.d (.sl (s.nodes.map ndD)), .d (.int .i64 s.root)], knB q], T ++ [t]⟩ := fun q t => by
  have h := (hf.set (i := N + 1) (vs := knB q) (knB_fit _ _ _)).toks (T' := T ++ [t]) (by simp)
  rwa [hset] at h
 refine ARun.loopB (fun p : Nat × List Int => (envS 44 [(1, .ptr N 0), (3, .sl (ssD (namesN (s.nodes.take p.1))) (.own M)), (4, .bx (N + 1) s.nodes.length s.nodes.length), (15, .d (.sl (s.nodes.map ndD))), (16, .d (.int .i64 s.nodes.length)), (17, .d (.int .i64 (p.1 : Int)))], ⟨B ++ [[.d (.sl (s.nodes.map ndD)), .d (.int .i64 s.root)], knB p.2], T ++ [((namesN (s.nodes.take p.1)).length, 1)]⟩)) (fun p => p.1 ≤ s.nodes.length ∧ KnOk p.2 ∧ p.2.length = s.nodes.length ∧ (scanW (fN s.nodes) (s.nodes.length + 1) (nodeN rj zj s.nodes) ((List.range s.nodes.length).drop p.1) p.2 && diffF FullS [] (namesN s.nodes)) = R) (fun p => s.nodes.length - p.1) (0, List.replicate s.nodes.length 0) ⟨by omega, knOk_0 _, by simp, hR⟩ envA rfl ?_
 rintro ⟨i, kn⟩ ⟨g1, g2, g3, g4⟩ ih
 dsimp only at g1 g2 g3 g4 ih ⊢
 by_cases hlt : i < s.nodes.length
 case neg =>
  have e3 : decide ((i : Int) < (s.nodes.length : Int)) = false := decide_eq_false (by omega)
  rw [List.drop_eq_nil_of_le (by simp; omega), scanW, Bool.true_and] at g4
  rw [List.take_of_length_le (by omega)]
  have hnl : (namesN s.nodes).length ≤ 1000000 := by
   unfold namesN
   rw [List.length_map]
   exact Nat.le_trans (List.length_filter_le _ _) (by omega)
  refine goN ?_
  simp only [W, seval, b13, hn, e3]
  refine callN (AFn.pl (different_ab rule_full (namesN s.nodes) hnl _ _)) ?_
  refine goN ?_
  simp only [W, seval, b13, hn]
  refine retN b13 (Left.all ?_)
  rw [← g4]
  exact ⟨rfl, rfl⟩
 have e3 : decide ((i : Int) < (s.nodes.length : Int)) = true := decide_eq_true (by omega)
 have hw := wrap_in ((i : Int) + 1) (by omega)
 have hg := nd_row (l := s.nodes) (m := (i : Int)) (by omega) (by omega)
 rw [ndD_eq] at hg
 simp only [Int.toNat_natCast] at hg
 have hsx : SmN (ndN s.nodes i) := by rw [ndN_at hlt]; exact hs.2 _ (List.getElem_mem hlt)
 have hsyx : (ndN s.nodes i).symbols.length ≤ 1000000 := by rw [ndN_at hlt]; exact hsy _ (List.getElem_mem hlt)
 have hnode := fun B T => node_ab hj s.nodes s.root (ndN s.nodes i) hsx hsyx (fun h k hk' => hk i hlt k (by rw [kids_13 h]; exact hk')) B T
 have hwt := fun k B T hB => weight_ab s.nodes s.root hs.2 hl (fun a ha h x hx => hk a ha _ (kids_9 h hx)) (s.nodes.length + 1) kn i k B T hlt g3 (by have := zc_le kn; omega) g2 hB
 have htk := namesN_snoc s.nodes i hlt
 have hrd : (List.range s.nodes.length).drop i = i :: (List.range s.nodes.length).drop (i + 1) := by
  rw [List.drop_eq_getElem_cons (by simpa using hlt), List.getElem_range]
 rw [hrd, scanW] at g4
 have hA : nodeN rj zj s.nodes i = nodeP SimpleS FullS kindI rj zj (kdN s.nodes) (ndN s.nodes i) := rfl
 rw [hA] at g4
 obtain ⟨x, hx⟩ : ∃ x, ndN s.nodes i = x := ⟨_, rfl⟩
 rw [hx] at hg hsx hnode htk g4
 unfold ndV at hnode
 have hlti : (i : Int) < (s.nodes.length : Int) := by omega
 refine goN ?_
 simp only [W, seval, b13, hn, e3, hg, hlt, hlti]
 refine callN (hnode _ _) ?_
 cases hnp : nodeP SimpleS FullS kindI rj zj (kdN s.nodes) x
 ·rw [hnp, Bool.false_and, Bool.false_and] at g4
  refine goN ?_
  simp only [W, seval, b13, hn]
  refine retN b13 (Left.all ?_)
  rw [← g4]
  exact ⟨rfl, rfl⟩
 rw [hnp, Bool.true_and] at g4
 have hq := dfsW_k (fN s.nodes) (s.nodes.length + 1) kn i g2
 obtain ⟨r, hr⟩ : ∃ r, dfsW (fN s.nodes) (s.nodes.length + 1) kn i = r := ⟨_, rfl⟩
 have hwt := hwt (N + 1) (B ++ [[V.d (.sl (s.nodes.map ndD)), .d (.int .i64 s.root)], knB kn, [.d (.int .i64 x.kind), .d (.str x.name), .d (.sl (ssD x.aliases)), .d (.sl (x.fields.map fdD)), .d (.sl (ssD x.symbols)), .d (.bool x.has), .d (.str x.dflt), .d (.int .i64 x.size), .d (.int .i64 x.items), .d (.sl (isD x.branches))]]) (T ++ [((namesN (s.nodes.take i)).length, 1)]) (hget _ _ _)
 rw [hset] at hwt
 rw [hr] at hwt hq g4
 refine goN ?_
 simp only [W, seval, b13, hn]
 refine callN (hwt) ?_
 by_cases hr1 : r.1 ≤ 1000
 case neg =>
  have e5 : decide ((1000 : Int) < r.1) = true := decide_eq_true (by omega)
  rw [decide_eq_false hr1, Bool.false_and, Bool.false_and] at g4
  refine goN ?_
  simp only [W, seval, b13, hn, e5]
  refine retN b13 (Left.all ?_)
  rw [← g4]
  exact ⟨rfl, rfl⟩
 have e5 : decide ((1000 : Int) < r.1) = false := decide_eq_false (by omega)
 rw [decide_eq_true hr1, Bool.true_and] at g4
 have e6 : ∀ (X Y Z : List V), B ++ [X, Y, Z] = (B ++ [X, Y]) ++ [Z] := fun X Y Z => by simp
 refine goN ?_
 simp only [W, seval, b13, hn, e5]
 refine callN (named_ab _ _) ?_
 have hnl : (namesN (s.nodes.take i)).length ≤ 200 := by
  unfold namesN
  rw [List.length_map]
  exact Nat.le_trans (List.length_filter_le _ _) (by rw [List.length_take]; omega)
 cases hnb : namedB x.kind
 ·rw [hnb, if_neg (by decide)] at htk
  refine goN ?_
  simp only [W, seval, b13, hn, hw]
  rw [e6]
  refine ih (i + 1, r.2) ⟨by omega, hq.ok, by rw [hq.len]; exact g3, g4⟩ (by dsimp only; omega) _ _ _ _ (by dsimp only; rw [htk]) ⟨by simp; omega, by simp; omega⟩ (hfk _ _) ?_
  refine AgreeF.env _ ?_
  simp only [agf, seval, hn, htk]
  exact ⟨decide_eq_true (by simp; omega), decide_eq_true (by simp; omega), decide_eq_true (by simp; omega)⟩
 ·rw [hnb, if_pos rfl] at htk
  have hcap : ((namesN (s.nodes.take i)).length + 1) * 16 ≤ 140737488355328 := by omega
  have hr2 : rowsSz 1 [[D.str x.name]] = true := rfl
  refine goN ?_
  simp only [W, seval, b13, hn, hM, hcap, ssD_snoc, Nat.reduceMul, mapX_nil, mapX_cons, hr2, ← htk, hw]
  rw [e6]
  refine ih (i + 1, r.2) ⟨by omega, hq.ok, by rw [hq.len]; exact g3, g4⟩ (by dsimp only; omega) _ _ _ _ (by dsimp only; rw [htk]; simp) ⟨by simp; omega, by simp; omega⟩ (hfk _ _) ?_
  refine AgreeF.env _ ?_
  simp only [agf, seval, hn]
  exact ⟨decide_eq_true (by simp; omega), decide_eq_true (by simp; omega), decide_eq_true (by simp; omega)⟩
def b40 := KB Tryz.func40 13
def b80 := KB Tryz.func80 45
def b59 := KB Tryz.func59 71
theorem namedD_ab (k : Int) (S : Mem) : AFn Tryz.prog TabI 40 [.d (.int .i64 k)] S (Same (.d (.bool (namedB k))) S) := by
 refine AFn.same (v := .d (.bool (namedB k))) ?_ rfl rfl S
 unfold namedB
 cases h9 : decide (k = 9) <;> cases h10 : decide (k = 10)
 all_goals
  refine enN b40 ?_
  simp only [W, seval, b40, h9, h10]
  refine retN b40 (Left.none ?_)
  exact ⟨rfl, rfl⟩
set_option maxHeartbeats 8000000 in
theorem kidsD_ab (n : NdT) (hs : SmN n) (B : List (List V)) (T : List (Nat × Nat)) : AFn Tryz.prog TabI 80 [ndV n] ⟨B, T⟩ (Same (.d (.sl (isD (kidsN n)))) ⟨B, T⟩) := by
 obtain ⟨N, hn⟩ : ∃ N, B.length = N := ⟨_, rfl⟩
 obtain ⟨M, hM⟩ : ∃ M, T.length = M := ⟨_, rfl⟩
 unfold ndV kidsN
 refine b80.1.go 8 rfl fun hsm => ?_
 simp only [smw] at hsm
 simp only [W, seval, b80, hn]
 refine ARun.token 3 [] (by rfl) 1 (by omega) rfl ?_
 simp only [envS_put, hM]
 by_cases k9 : n.kind = 9
 ·have e9 := decide_eq_true k9
  have e11 : decide (n.kind = 11) = false := decide_eq_false (by omega)
  have e12 : decide (n.kind = 12) = false := decide_eq_false (by omega)
  have e13 : decide (n.kind = 13) = false := decide_eq_false (by omega)
  rw [if_pos k9]
  refine goN ?_
  simp only [W, seval, b80, hn, e9]
  have hlf : n.fields.length ≤ 2500 := hs.2.1
  refine ARun.loopW (fun i : Nat => (envS 45 [(1, .ptr N 0), (3, .sl (isD ((n.fields.take i).map FdT.type)) (.own M)), (4, .d (.int .i64 (i : Int)))], ⟨B ++ [[.d (.int .i64 n.kind), .d (.str n.name), .d (.sl (ssD n.aliases)), .d (.sl (n.fields.map fdD)), .d (.sl (ssD n.symbols)), .d (.bool n.has), .d (.str n.dflt), .d (.int .i64 n.size), .d (.int .i64 n.items), .d (.sl (isD n.branches))]], T ++ [(i, 1)]⟩)) (fun i => i ≤ n.fields.length) (fun i => n.fields.length - i) 0 (by omega) envA rfl ?_
  rintro i h1 ih
  dsimp only at h1 ih ⊢
  by_cases hlt : i < n.fields.length
  case neg =>
   have e2 : decide ((i : Int) < (n.fields.length : Int)) = false := decide_eq_false (by omega)
   rw [List.take_of_length_le (by omega)]
   refine goN ?_
   simp only [W, seval, b80, hn, e2, e11, e12, e13]
   refine retN b80 (Left.all ?_)
   refine ⟨?_, rfl⟩
   clear ih
   simp only [fnw, seval]
   simp [hM, wk]
  have e2 : decide ((i : Int) < (n.fields.length : Int)) = true := decide_eq_true (by omega)
  have hw := wrap_in ((i : Int) + 1) (by omega)
  have hge := List.getElem?_eq_getElem hlt
  have htk : (n.fields.take (i + 1)).map FdT.type = (n.fields.take i).map FdT.type ++ [n.fields[i].type] := by rw [List.take_succ_eq_append_getElem hlt, List.map_append]; rfl
  obtain ⟨y, hyy⟩ : ∃ x, n.fields[i] = x := ⟨_, rfl⟩
  rw [hyy] at hge htk
  have hcap : (i + 1) * 8 ≤ 140737488355328 := by omega
  have htl : ((n.fields.take i).map FdT.type).length = i := by simp; omega
  have hr1 : rowsSz 1 [[D.int .i64 y.type]] = true := rfl
  refine goN ?_
  simp only [W, seval, b80, hn, hM, e2, hge, List.getElem?_map, fdD_eq, hcap, htl, isD_snoc, isD_len, Nat.reduceMul, mapX_nil, mapX_cons, hr1, ← htk, hw]
  exact ih (i + 1) (by omega) (by omega) _ _ envA rfl
 have e9 := decide_eq_false k9
 rw [if_neg k9]
 by_cases k11 : n.kind = 11 ∨ n.kind = 12
 ·rw [if_pos k11]
  have hr1 : rowsSz 1 [[D.int .i64 n.items]] = true := rfl
  have hsn := isD_snoc [] n.items
  have e13 : decide (n.kind = 13) = false := decide_eq_false (by omega)
  by_cases k : n.kind = 11
  ·have e11 := decide_eq_true k
   refine goN ?_
   simp only [W, seval, b80, hn, hM, e9, e11, e13, mapX_nil, mapX_cons, hr1, Nat.reduceMul]
   refine retN b80 (Left.all ?_)
   refine ⟨?_, rfl⟩
   simp only [fnw, seval]
   simp [hM, wk, isD]
  ·have e11 := decide_eq_false k
   have e12 := decide_eq_true (k11.resolve_left k)
   refine goN ?_
   simp only [W, seval, b80, hn, hM, e9, e11, e12, e13, mapX_nil, mapX_cons, hr1, Nat.reduceMul]
   refine retN b80 (Left.all ?_)
   refine ⟨?_, rfl⟩
   simp only [fnw, seval]
   simp [hM, wk, isD]
 have e11 := decide_eq_false (fun h => k11 (.inl h))
 have e12 := decide_eq_false (fun h => k11 (.inr h))
 rw [if_neg k11]
 by_cases k13 : n.kind = 13
 ·have e13 := decide_eq_true k13
  rw [if_pos k13]
  have hlb : n.branches.length ≤ 2500 := hs.2.2.1
  have hcap : n.branches.length * 8 ≤ 140737488355328 := by omega
  refine goN ?_
  simp only [W, seval, b80, hn, hM, e9, e11, e12, e13, isD_len, rowsSz_is, true_and, if_pos hcap]
  refine retN b80 (Left.all ?_)
  refine ⟨?_, rfl⟩
  simp only [fnw, seval]
  simp [hM, wk]
 ·have e13 := decide_eq_false k13
  rw [if_neg k13]
  refine goN ?_
  simp only [W, seval, b80, hn, hM, e9, e11, e12, e13]
  refine retN b80 (Left.all ?_)
  refine ⟨?_, rfl⟩
  simp only [fnw, seval]
  simp [hM, wk, isD]
def b37 := KB Tryz.func37 26
def MetOk (l : List NdT) (root : Int) (f : Nat) : Prop := ∀ (a d : Nat) (B : List (List V)) (T : List (Nat × Nat)), a ≤ l.length → l.length < a + f → d ≤ 33 →
 AFn Tryz.prog TabI 59 [.agg [.d (.sl (l.map ndD)), .d (.int .i64 root)], .d (.int .i64 (a : Int)), .d (.int .i64 (d : Int))] ⟨B, T⟩ (Same (.d (.int .i64 (metN l f a d))) ⟨B, T⟩)
set_option maxHeartbeats 8000000 in
theorem met_step (l : List NdT) (root : Int) (hs : ∀ n ∈ l, SmN n) (hl : l.length ≤ 200) (f : Nat) (hf : MetOk l root f) : MetOk l root (f + 1) := by
 intro a d B T ha hfu hd
 obtain ⟨N, hn⟩ : ∃ N, B.length = N := ⟨_, rfl⟩
 obtain ⟨r, hr⟩ : ∃ r, metN l (f + 1) a d = r := ⟨_, rfl⟩
 rw [hr]
 unfold metN metW at hr
 by_cases hlt : a < l.length
 case neg =>
  have e1 : decide ((l.length : Int) ≤ (a : Int)) = true := decide_eq_true (by omega)
  rw [if_pos (.inl (by omega))] at hr
  refine enS b59 fun hsm => ?_
  simp only [smw] at hsm
  simp only [W, seval, b59, hn, e1]
  refine retN b59 (Left.box ?_)
  rw [← hr]
  exact ⟨rfl, rfl⟩
 have e1 : decide ((l.length : Int) ≤ (a : Int)) = false := decide_eq_false (by omega)
 by_cases hd2 : 32 < d
 ·have e2 : decide ((32 : Int) < (d : Int)) = true := decide_eq_true (by omega)
  rw [if_pos (.inr hd2)] at hr
  refine enS b59 fun hsm => ?_
  simp only [smw] at hsm
  simp only [W, seval, b59, hn, e1, e2]
  refine retN b59 (Left.box ?_)
  rw [← hr]
  exact ⟨rfl, rfl⟩
 have e2 : decide ((32 : Int) < (d : Int)) = false := decide_eq_false (by omega)
 rw [if_neg (by omega)] at hr
 have hw := wrap_in ((a : Int) + 1) (by omega)
 have hg := nd_row (l := l) (m := (a : Int)) (by omega) (by omega)
 rw [ndD_eq] at hg
 simp only [Int.toNat_natCast] at hg
 have hla : (a : Int) < (l.length : Int) := by omega
 have hk := fun B T => kidsD_ab (ndN l a) (by rw [ndN_at hlt]; exact hs _ (List.getElem_mem hlt)) B T
 unfold ndV at hk
 refine enS b59 fun hsm => ?_
 simp only [smw] at hsm
 simp only [W, seval, b59, hn, e1, e2, hw, hg, hlt, hla]
 refine callN (hk _ _) ?_
 clear hk
 obtain ⟨ks, hks⟩ : ∃ ks, kidsN (ndN l a) = ks := ⟨_, rfl⟩
 have hka : kidsA l a = ks := hks
 rw [hks]
 rw [hka] at hr
 have hkl := isD_len ks
 have hk25 : ks.length ≤ 2500 := by rw [← hks, ndN_at hlt]; exact kidsN_len (hs _ (List.getElem_mem hlt))
 refine goN ?_
 simp only [W, seval, b59, hn, hkl]
 refine ARun.loopW (fun p : Nat × Nat => (envS 71 [(2, .d (.int .i64 (d : Int))), (3, .ptr N 0), (7, .d (.int .i64 (p.2 : Int))), (8, .d (.sl (isD ks))), (9, .d (.int .i64 (p.1 : Int)))], ⟨B ++ [[.d (.sl (l.map ndD)), .d (.int .i64 root)]], T⟩)) (fun p => p.1 ≤ ks.length ∧ a < p.2 ∧ p.2 ≤ l.length ∧ metL (nmN l) (fun k => metW (kidsA l) (nmN l) l.length f k (d + 1)) p.2 (ks.drop p.1) = r) (fun p => ks.length - p.1) (0, a + 1) ⟨by omega, by dsimp only; omega, by dsimp only; omega, hr⟩ envA rfl ?_
 rintro ⟨i, q⟩ ⟨g1, g2, g3, g4⟩ ih
 dsimp only at g1 g2 g3 g4 ih ⊢
 by_cases hlt2 : i < ks.length
 case neg =>
  have e3 : decide ((i : Int) < (ks.length : Int)) = false := decide_eq_false (by omega)
  rw [List.drop_eq_nil_of_le (by omega), metL] at g4
  refine goN ?_
  simp only [W, seval, b59, hn, hkl, e3]
  refine retN b59 (Left.box ?_)
  rw [← g4]
  exact ⟨rfl, rfl⟩
 have e3 : decide ((i : Int) < (ks.length : Int)) = true := decide_eq_true (by omega)
 have hw2 := wrap_in ((i : Int) + 1) (by omega)
 have hge := isD_at hlt2
 rw [List.drop_eq_getElem_cons hlt2, metL] at g4
 obtain ⟨k, hkk⟩ : ∃ x, ks[i] = x := ⟨_, rfl⟩
 rw [hkk] at hge g4
 by_cases hkq : k = (q : Int)
 ·subst hkq
  rw [if_pos rfl] at g4
  have e4 : decide ((q : Int) < 0) = false := decide_eq_false (by omega)
  have e5 : decide ((q : Int) < (q : Int)) = false := decide_eq_false (by omega)
  have e6 : decide ((q : Int) = (q : Int)) = true := decide_eq_true rfl
  have hwd := wrap_in ((d : Int) + 1) (by omega)
  have hrec := hf q (d + 1) (B ++ [[.d (.sl (l.map ndD)), .d (.int .i64 root)]]) T g3 (by omega) (by omega)
  rw [Int.natCast_add, Int.natCast_one] at hrec
  have hm : metW (kidsA l) (nmN l) l.length f q (d + 1) = metN l f q (d + 1) := rfl
  rw [hm] at g4
  refine goN ?_
  simp only [W, seval, b59, hn, hkl, e3, hge, e4, e5, e6, hwd]
  refine callN (hrec) ?_
  obtain ⟨z, hz⟩ : ∃ z, metN l f q (d + 1) = z := ⟨_, rfl⟩
  rw [hz] at g4 ⊢
  by_cases hz0 : z < 0
  ·have e7 := decide_eq_true hz0
   rw [if_pos hz0] at g4
   refine goN ?_
   simp only [W, seval, b59, hn, e7]
   refine retN b59 (Left.box ?_)
   rw [← g4]
   exact ⟨rfl, rfl⟩
  ·have e7 := decide_eq_false hz0
   rw [if_neg hz0] at g4
   obtain ⟨y, rfl⟩ : ∃ y : Nat, z = (y : Int) := ⟨z.toNat, by omega⟩
   rw [Int.toNat_natCast] at g4
   obtain ⟨m1, m2, _⟩ := met_kids (kidsA l) (nmN l) l.length f q (d + 1) (by rw [hm, hz]; omega)
   rw [hm, hz, Int.toNat_natCast] at m1 m2
   refine goN ?_
   simp only [W, seval, b59, hn, e7, hw2]
   exact ih (i + 1, y) ⟨by omega, by dsimp only; omega, m2, g4⟩ (by dsimp only; omega) _ _ envA rfl
 rw [if_neg hkq] at g4
 have e6 : decide (k = (q : Int)) = false := decide_eq_false hkq
 by_cases hk0 : k < 0
 ·have e4 := decide_eq_true hk0
  rw [e4, Bool.true_or, if_pos rfl] at g4
  refine goN ?_
  simp only [W, seval, b59, hn, hkl, e3, hge, e4]
  refine retN b59 (Left.box ?_)
  rw [← g4]
  exact ⟨rfl, rfl⟩
 have e4 := decide_eq_false hk0
 rw [e4, Bool.false_or] at g4
 by_cases hk1 : (q : Int) < k
 ·have e5 := decide_eq_true hk1
  rw [e5, Bool.true_or, if_pos rfl] at g4
  refine goN ?_
  simp only [W, seval, b59, hn, hkl, e3, hge, e4, e5]
  refine retN b59 (Left.box ?_)
  rw [← g4]
  exact ⟨rfl, rfl⟩
 have e5 := decide_eq_false hk1
 rw [e5, Bool.false_or] at g4
 obtain ⟨y, rfl⟩ : ∃ y : Nat, k = (y : Int) := ⟨k.toNat, by omega⟩
 have hgy := nd_row (l := l) (m := (y : Int)) (by omega) (by omega)
 rw [ndD_eq] at hgy
 simp only [Int.toNat_natCast] at hgy
 have hly : (y : Int) < (l.length : Int) := by omega
 have hly' : y < l.length := by omega
 have e8 : decide ((y : Int) < (q : Int)) = true := decide_eq_true (by omega)
 have hnm : nmN l (y : Int) = namedB (ndN l y).kind := by unfold nmN; rw [Int.toNat_natCast]
 rw [hnm] at g4
 refine goN ?_
 simp only [W, seval, b59, hn, hkl, e3, hge, e4, e5, e8, hgy, hly, hly']
 refine callN (namedD_ab _ _) ?_
 cases hb : namedB (ndN l y).kind
 ·rw [hb, Bool.not_false, if_pos rfl] at g4
  refine goN ?_
  simp only [W, seval, b59, hn]
  refine retN b59 (Left.box ?_)
  rw [← g4]
  exact ⟨rfl, rfl⟩
 ·rw [hb, Bool.not_true, if_neg (by decide)] at g4
  refine goN ?_
  simp only [W, seval, b59, hn, e6, hw2]
  exact ih (i + 1, q) ⟨by omega, by dsimp only; omega, by dsimp only; omega, g4⟩ (by dsimp only; omega) _ _ envA rfl
theorem met_ab (l : List NdT) (root : Int) (hs : ∀ n ∈ l, SmN n) (hl : l.length ≤ 200) : ∀ f, MetOk l root f
 | 0 => fun a d B T h1 h2 => absurd h2 (by omega)
 | f + 1 => met_step l root hs hl f (met_ab l root hs hl f)
set_option maxHeartbeats 8000000 in
theorem orderedD_ab (s : ScT) (hs : SmS s) (B : List (List V)) (T : List (Nat × Nat)) : AFn Tryz.prog TabI 37 [scV s] ⟨B, T⟩ (Same (.d (.bool (orderedN s))) ⟨B, T⟩) := by
 obtain ⟨N, hn⟩ : ∃ N, B.length = N := ⟨_, rfl⟩
 unfold scV orderedN
 refine enS b37 fun hsm => ?_
 simp only [smw] at hsm
 simp only [W, seval, b37, hn]
 by_cases h0 : 0 < s.nodes.length
 case neg =>
  have e0 : decide ((1 : Int) ≤ (s.nodes.length : Int)) = false := decide_eq_false (by omega)
  rw [decide_eq_false h0]
  refine drXA 21 [] [N] ?_
  simp (maxSteps := 4000000) only [W, seval, b37, xw, hn, e0]
  refine goN ?_
  simp only [W, seval, b37, hn]
  refine retN b37 (Left.box ?_)
  exact ⟨rfl, rfl⟩
 have e0 : decide ((1 : Int) ≤ (s.nodes.length : Int)) = true := decide_eq_true (by omega)
 rw [decide_eq_true h0, Bool.true_and]
 by_cases h1 : s.nodes.length ≤ 200
 case neg =>
  have e1 : decide ((s.nodes.length : Int) ≤ 200) = false := decide_eq_false (by omega)
  rw [decide_eq_false h1]
  refine drXA 21 [] [N] ?_
  simp (maxSteps := 4000000) only [W, seval, b37, xw, hn, e0, e1]
  refine goN ?_
  simp only [W, seval, b37, hn]
  refine retN b37 (Left.box ?_)
  exact ⟨rfl, rfl⟩
 have e1 : decide ((s.nodes.length : Int) ≤ 200) = true := decide_eq_true (by omega)
 rw [decide_eq_true h1, Bool.true_and]
 by_cases h2 : s.root = 0
 case neg =>
  have e2 := decide_eq_false h2
  rw [e2]
  refine drXA 21 [] [N] ?_
  simp (maxSteps := 4000000) only [W, seval, b37, xw, hn, e0, e1, e2]
  refine goN ?_
  simp only [W, seval, b37, hn]
  refine retN b37 (Left.box ?_)
  exact ⟨rfl, rfl⟩
 have e2 := decide_eq_true h2
 rw [e2, Bool.true_and]
 have hm := fun B T => met_ab s.nodes s.root hs.2 h1 (s.nodes.length + 1) 0 0 B T (by omega) (by omega) (by omega)
 refine drXA 21 [] [N] ?_
 simp (maxSteps := 4000000) only [W, seval, b37, xw, hn, e0, e1, e2]
 refine callX_fn (fun Z => hm _ _) ?_
 simp (maxSteps := 4000000) only [W, seval, b37, xw, hn]
 refine goN ?_
 simp only [W, seval, b37, hn]
 refine retN b37 (Left.box ?_)
 exact ⟨rfl, rfl⟩
def b41 := KB Tryz.func41 25
def b62 := KB Tryz.func62 19
def b97 := KB Tryz.func97 26
set_option maxHeartbeats 2000000 in
theorem simpleD_ab (l : List (List UInt8)) (hl : l.length ≤ 1000000) (B : List (List V)) (T : List (Nat × Nat)) : AFn Tryz.prog TabI 62 [.d (.sl (ssD l))] ⟨B, T⟩ (Same (.d (.bool (l.all SimpleS && decide (l.length ≤ 40)))) ⟨B, T⟩) := by
 have hll := ssD_len l
 generalize hres : (l.all SimpleS && decide (l.length ≤ 40)) = res
 refine enS b62 fun hsm => ?_
 simp only [smw] at hsm
 simp only [W, seval, b62, hll]
 refine ARun.loopW (fun i : Nat => (envS 19 [(0, .d (.sl (ssD l))), (3, .d (.int .i64 (i : Int)))], ⟨B, T⟩)) (fun i => i ≤ l.length ∧ ((l.drop i).all SimpleS && decide (l.length ≤ 40)) = res) (fun i => l.length - i) 0 ⟨by omega, hres⟩ envA rfl ?_
 rintro i ⟨h1, h2⟩ ih
 dsimp only at h1 h2 ih ⊢
 by_cases hlt : i < l.length
 case neg =>
  have e2 : decide ((i : Int) < (l.length : Int)) = false := decide_eq_false (by omega)
  have e3 : decide ((l.length : Int) ≤ 40) = decide (l.length ≤ 40) := decide_eq_decide.2 (by omega)
  rw [List.drop_eq_nil_of_le (by omega), List.all_nil, Bool.true_and] at h2
  refine goN ?_
  simp only [W, seval, b62, hll, e2, e3]
  refine retN b62 (Left.none ?_)
  rw [← h2]
  exact ⟨rfl, rfl⟩
 have e2 : decide ((i : Int) < (l.length : Int)) = true := decide_eq_true (by omega)
 have hw := wrap_in ((i : Int) + 1) (by omega)
 have hge := ssD_at hlt
 rw [drop_get hlt, List.all_cons] at h2
 obtain ⟨x, hxx⟩ : ∃ x, l[i] = x := ⟨_, rfl⟩
 rw [hxx] at hge h2
 refine goN ?_
 simp only [W, seval, b62, hll, e2, hge]
 refine callN (simpleR_ab x _) ?_
 cases hb : SimpleS x
 ·rw [hb, Bool.false_and, Bool.false_and] at h2
  refine goN ?_
  simp only [W, seval, b62]
  refine retN b62 (Left.none ?_)
  rw [← h2]
  exact ⟨rfl, rfl⟩
 ·rw [hb, Bool.true_and] at h2
  refine goN ?_
  simp only [W, seval, b62, hw]
  exact ih (i + 1) ⟨by omega, h2⟩ (by omega) _ _ envA rfl
theorem texts_drop (a b : List (List UInt8)) (i : Nat) (h : i < a.length) (h' : i < b.length) : decide (a.drop i = b.drop i) = (decide (a[i] = b[i]) && decide (a.drop (i + 1) = b.drop (i + 1))) := by
 have e1 := List.drop_eq_getElem_cons h
 have e2 := List.drop_eq_getElem_cons h'
 rw [Bool.eq_iff_iff, Bool.and_eq_true, decide_eq_true_iff, decide_eq_true_iff, decide_eq_true_iff, e1, e2, List.cons.injEq]
set_option maxHeartbeats 2000000 in
theorem textsD_ab (a b : List (List UInt8)) (B : List (List V)) (T : List (Nat × Nat)) : AFn Tryz.prog TabI 97 [.d (.sl (ssD a)), .d (.sl (ssD b))] ⟨B, T⟩ (Same (.d (.bool (decide (a = b)))) ⟨B, T⟩) := by
 have hla := ssD_len a
 have hlb := ssD_len b
 by_cases hll : a.length = b.length
 case neg =>
  have e1 : decide ((a.length : Int) = (b.length : Int)) = false := decide_eq_false (by omega)
  rw [decide_eq_false (fun h => hll (by rw [h]))]
  refine enS b97 fun hsm => ?_
  simp only [smw] at hsm
  simp only [W, seval, b97, hla, hlb, e1, Bool.not_false]
  refine retN b97 (Left.none ?_)
  exact ⟨rfl, rfl⟩
 have e1 : decide ((a.length : Int) = (b.length : Int)) = true := decide_eq_true (by omega)
 generalize hres : decide (a = b) = res
 refine enS b97 fun hsm => ?_
 simp only [smw] at hsm
 simp only [W, seval, b97, hla, hlb, e1, Bool.not_true]
 refine ARun.loopW (fun i : Nat => (envS 26 [(0, .d (.sl (ssD a))), (1, .d (.sl (ssD b))), (5, .d (.int .i64 (i : Int)))], ⟨B, T⟩)) (fun i => i ≤ a.length ∧ decide (a.drop i = b.drop i) = res) (fun i => a.length - i) 0 ⟨by omega, hres⟩ envA rfl ?_
 rintro i ⟨h1, h2⟩ ih
 dsimp only at h1 h2 ih ⊢
 by_cases hlt : i < a.length
 case neg =>
  have e2 : decide ((i : Int) < (a.length : Int)) = false := decide_eq_false (by omega)
  rw [List.drop_eq_nil_of_le (by omega), List.drop_eq_nil_of_le (by omega), decide_eq_true rfl] at h2
  refine goN ?_
  simp only [W, seval, b97, hla, e2]
  refine retN b97 (Left.none ?_)
  rw [← h2]
  exact ⟨rfl, rfl⟩
 have e2 : decide ((i : Int) < (a.length : Int)) = true := decide_eq_true (by omega)
 have hltb : i < b.length := by omega
 have hlti : (i : Int) < (a.length : Int) := by omega
 have hltj : (i : Int) < (b.length : Int) := by omega
 have hw := wrap_in ((i : Int) + 1) (by omega)
 have hga := ssD_at hlt
 have hgb := ssD_at hltb
 rw [texts_drop a b i hlt hltb] at h2
 obtain ⟨x, hxx⟩ : ∃ x, a[i] = x := ⟨_, rfl⟩
 obtain ⟨y, hyy⟩ : ∃ x, b[i] = x := ⟨_, rfl⟩
 rw [hxx] at hga h2
 rw [hyy] at hgb h2
 by_cases hxy : x = y
 ·have e3 := decide_eq_true hxy
  rw [e3, Bool.true_and] at h2
  refine goN ?_
  simp only [W, seval, b97, hla, e2]
  refine drXA 8 [] [] ?_
  simp (maxSteps := 4000000) only [W, seval, b97, xw, hla, hlb, hga, hgb, hlt, hltb, hlti, hltj]
  refine goN ?_
  simp only [W, seval, b97, e3, hw, Bool.not_true]
  exact ih (i + 1) ⟨by omega, h2⟩ (by omega) _ _ envA rfl
 ·have e3 := decide_eq_false hxy
  rw [e3, Bool.false_and] at h2
  refine goN ?_
  simp only [W, seval, b97, hla, e2]
  refine drXA 8 [] [] ?_
  simp (maxSteps := 4000000) only [W, seval, b97, xw, hla, hlb, hga, hgb, hlt, hltb, hlti, hltj]
  refine goN ?_
  simp only [W, seval, b97, e3, hw, Bool.not_false]
  refine retN b97 (Left.none ?_)
  rw [← h2]
  exact ⟨rfl, rfl⟩
theorem onceF_take (l : List (List UInt8)) (i : Nat) (h : i < l.length) : onceF (l.take i) (l.drop i) = (!(l.take i).contains l[i] && onceF (l.take (i + 1)) (l.drop (i + 1))) := by
 rw [List.drop_eq_getElem_cons h, onceF, List.take_succ_eq_append_getElem h]
theorem cont_drop (x : List UInt8) (l : List (List UInt8)) (k : Nat) (h : k < l.length) : (l.drop k).contains x = (decide (l[k] = x) || (l.drop (k + 1)).contains x) := by
 rw [List.drop_eq_getElem_cons h, List.contains_cons]
 congr 1
 rw [Bool.eq_iff_iff, beq_iff_eq, decide_eq_true_iff]
 exact eq_comm
set_option maxHeartbeats 4000000 in
theorem onceD_ab (l : List (List UInt8)) (hl : l.length ≤ 1000000) (B : List (List V)) (T : List (Nat × Nat)) : AFn Tryz.prog TabI 41 [.d (.sl (ssD l))] ⟨B, T⟩ (Same (.d (.bool (onceF [] l))) ⟨B, T⟩) := by
 have hll := ssD_len l
 generalize hres : onceF [] l = res
 refine enS b41 fun hsm => ?_
 simp only [smw] at hsm
 simp only [W, seval, b41, hll]
 refine ARun.loopW (fun i : Nat => (envS 25 [(0, .d (.sl (ssD l))), (3, .d (.int .i64 (i : Int)))], ⟨B, T⟩)) (fun i => i ≤ l.length ∧ onceF (l.take i) (l.drop i) = res) (fun i => l.length - i) 0 ⟨by omega, hres⟩ envA rfl ?_
 rintro i ⟨h1, h2⟩ ih
 dsimp only at h1 h2 ih ⊢
 by_cases hlt : i < l.length
 case neg =>
  have e2 : decide ((i : Int) < (l.length : Int)) = false := decide_eq_false (by omega)
  rw [List.drop_eq_nil_of_le (by omega), onceF] at h2
  refine goN ?_
  simp only [W, seval, b41, hll, e2]
  refine retN b41 (Left.none ?_)
  rw [← h2]
  exact ⟨rfl, rfl⟩
 have e2 : decide ((i : Int) < (l.length : Int)) = true := decide_eq_true (by omega)
 have hw := wrap_in ((i : Int) + 1) (by omega)
 rw [onceF_take l i hlt] at h2
 have hgi := ssD_at hlt
 have hlti : (i : Int) < (l.length : Int) := by omega
 refine goN ?_
 simp only [W, seval, b41, hll, e2]
 refine ARun.loopW (fun k : Nat => (envS 25 [(0, .d (.sl (ssD l))), (3, .d (.int .i64 (i : Int))), (4, .d (.int .i64 (k : Int)))], ⟨B, T⟩)) (fun k => k ≤ i ∧ (!((l.take i).drop k).contains l[i] && onceF (l.take (i + 1)) (l.drop (i + 1))) = res) (fun k => i - k) 0 ⟨by omega, h2⟩ envA rfl ?_
 rintro k ⟨g1, g2⟩ ih2
 dsimp only at g1 g2 ih2 ⊢
 have hti : (l.take i).length = i := by simp; omega
 by_cases hki : k < i
 case neg =>
  have e3 : decide ((k : Int) < (i : Int)) = false := decide_eq_false (by omega)
  rw [List.drop_eq_nil_of_le (by omega)] at g2
  refine goN ?_
  simp only [W, seval, b41, hll, e3, hw]
  exact ih (i + 1) ⟨by omega, by simpa using g2⟩ (by omega) _ _ envA rfl
 have e3 : decide ((k : Int) < (i : Int)) = true := decide_eq_true (by omega)
 have hw2 := wrap_in ((k : Int) + 1) (by omega)
 have hlk : k < l.length := by omega
 have hltk : (k : Int) < (l.length : Int) := by omega
 have hgk := ssD_at hlk
 rw [cont_drop l[i] (l.take i) k (by omega), List.getElem_take] at g2
 obtain ⟨x, hxx⟩ : ∃ x, l[k] = x := ⟨_, rfl⟩
 obtain ⟨y, hyy⟩ : ∃ x, l[i] = x := ⟨_, rfl⟩
 rw [hxx] at hgk g2
 rw [hyy] at hgi g2
 by_cases hxy : x = y
 ·have e4 := decide_eq_true hxy
  rw [e4, Bool.true_or, Bool.not_true, Bool.false_and] at g2
  refine goN ?_
  simp only [W, seval, b41, hll, e3]
  refine drXA 8 [] [] ?_
  simp (maxSteps := 4000000) only [W, seval, b41, xw, hll, hgi, hgk, hlt, hlk, hlti, hltk]
  refine goN ?_
  simp only [W, seval, b41, e4]
  refine retN b41 (Left.none ?_)
  rw [← g2]
  exact ⟨rfl, rfl⟩
 ·have e4 := decide_eq_false hxy
  rw [e4, Bool.false_or] at g2
  refine goN ?_
  simp only [W, seval, b41, hll, e3]
  refine drXA 8 [] [] ?_
  simp (maxSteps := 4000000) only [W, seval, b41, xw, hll, hgi, hgk, hlt, hlk, hlti, hltk]
  refine goN ?_
  simp only [W, seval, b41, e4, hw2]
  exact ih2 (k + 1) ⟨by omega, by rw [hyy]; exact g2⟩ (by omega) _ _ envA rfl
def b84 := KB Tryz.func84 33
def b85 := KB Tryz.func85 140
def b63 := KB Tryz.func63 10
def allT (b : List UInt8) : Bool := allU b.length b
theorem textT_ab (b : List UInt8) (hb : b.length ≤ 2500) (S : Mem) : AFn Tryz.prog TabI 96 [.d (.str b)] S (Same (.d (.bool (allT b))) S) :=
 textD_ab b (by omega) S.boxes S.toks fun r hr => begun_ab r hr S.boxes S.toks
theorem deepJ_eq (j : JsT) : deepJ j = if j.kind = 5 ∨ j.kind = 6 then 1 + deepJs j.items else 0 := by
 cases j
 rw [deepJ]
 rfl
def DpJ (j : JsT) : Prop := SmJ j → ∀ (B : List (List V)) (T : List (Nat × Nat)), AFn Tryz.prog TabI 84 [jsV j] ⟨B, T⟩ (Same (.d (.int .i64 (deepJ j : Int))) ⟨B, T⟩)
theorem smJ_kid {j : JsT} (h : SmJ j) (k : j.kind = 5 ∨ j.kind = 6) {x : JsT} (hx : x ∈ j.items) : SmJ x ∧ deepJ x + 1 ≤ 61 := by
 obtain ⟨h1, h2⟩ := h
 have h3 : ∀ l : List JsT, ∀ x ∈ l, deepJ x ≤ deepJs l := by
  intro l
  induction l with
  | nil => exact fun x hx => absurd hx List.not_mem_nil
  | cons y l ih =>
   intro x hx
   rw [deepJs]
   rcases List.mem_cons.1 hx with rfl | hx
   ·omega
   ·have := ih x hx; omega
 have h4 := h3 _ _ hx
 rw [deepJ_eq, if_pos k] at h2
 exact ⟨⟨((smK_iff j).1 h1).2.2.2.2 x hx, by omega⟩, by omega⟩
set_option maxHeartbeats 4000000 in
theorem deep_step (j : JsT) (h : ∀ x ∈ j.items, DpJ x) : DpJ j := by
 intro hs B T
 obtain ⟨N, hn⟩ : ∃ N, B.length = N := ⟨_, rfl⟩
 have hil := ((smK_iff j).1 hs.1).2.2.2.1
 have hd2 := hs.2
 rw [deepJ_eq] at hd2 ⊢
 unfold jsV
 by_cases k : j.kind = 5 ∨ j.kind = 6
 case neg =>
  have e5 : decide (j.kind = 5) = false := decide_eq_false fun e => k (.inl e)
  have e6 : decide (j.kind = 6) = false := decide_eq_false fun e => k (.inr e)
  rw [if_neg k]
  refine enS b84 fun hsm => ?_
  simp only [smw] at hsm
  simp only [W, seval, b84, hn, e5, e6, Bool.not_false]
  refine retN b84 (Left.box ?_)
  exact ⟨rfl, rfl⟩
 rw [if_pos k] at hd2 ⊢
 have hkid := fun x hx => smJ_kid hs k (x := x) hx
 obtain ⟨R, hR⟩ : ∃ R, 1 + deepJs j.items = R := ⟨_, rfl⟩
 rw [hR] at hd2 ⊢
 have e56 : ∃ a b, decide (j.kind = 5) = a ∧ decide (j.kind = 6) = b ∧ (!a && !b) = false := ⟨_, _, rfl, rfl, by rcases k with k | k <;> simp [k]⟩
 obtain ⟨a, b, e5, e6, hab⟩ := e56
 cases a <;> cases b
 ·cases hab
 all_goals
  refine enS b84 fun hsm => ?_
  simp only [smw] at hsm
  simp only [W, seval, b84, hn, e5, e6, Bool.not_false, Bool.not_true]
  refine ARun.loopW (fun a : Nat × Nat => (envS 33 [(1, .ptr N 0), (3, .d (.int .i64 (a.2 : Int))), (4, .d (.int .i64 (a.1 : Int)))], ⟨B ++ [jsB j], T⟩)) (fun a => a.1 ≤ j.items.length ∧ 1 ≤ a.2 ∧ max a.2 (1 + deepJs (j.items.drop a.1)) = R) (fun a => j.items.length - a.1) (0, 1) ⟨by omega, by omega, by dsimp only; rw [List.drop_zero]; omega⟩ envA rfl ?_
  rintro ⟨i, n⟩ ⟨h1, h2, h3⟩ ih
  dsimp only at h1 h2 h3 ih ⊢
  by_cases hlt : i < j.items.length
  case neg =>
   have e1 : decide ((i : Int) < (j.items.length : Int)) = false := decide_eq_false (by omega)
   rw [List.drop_eq_nil_of_le (by omega), deepJs] at h3
   refine goN ?_
   simp only [W, seval, b84, hn, jsB, e1]
   refine retN b84 (Left.box ?_)
   rw [← h3, show max n (1 + 0) = n by omega]
   exact ⟨rfl, rfl⟩
  have e1 : decide ((i : Int) < (j.items.length : Int)) = true := decide_eq_true (by omega)
  have hw := wrap_in ((i : Int) + 1) (by omega)
  have hg := List.getElem?_eq_getElem hlt
  have hmem := List.getElem_mem hlt
  rw [drop_get hlt, deepJs] at h3
  obtain ⟨x, hxx⟩ : ∃ x, j.items[i] = x := ⟨_, rfl⟩
  rw [hxx] at hg hmem h3
  have hx := h x hmem (hkid x hmem).1
  have hdx := (hkid x hmem).2
  unfold jsV at hx
  have hw2 := wrap_in ((deepJ x : Int) + 1) (by omega)
  refine goN ?_
  simp only [W, seval, b84, hn, jsB, e1, hg, List.getElem?_map, jsD_eq]
  refine callN (hx _ _) ?_
  by_cases hgt : n < deepJ x + 1
  ·have e2 : decide ((n : Int) < (deepJ x : Int) + 1) = true := decide_eq_true (by omega)
   refine goN ?_
   simp only [W, seval, b84, hn, hw2, e2, hw]
   exact ih (i + 1, deepJ x + 1) ⟨by omega, by omega, by dsimp only; omega⟩ (by dsimp only; omega) _ _ envA rfl
  ·have e2 : decide ((n : Int) < (deepJ x : Int) + 1) = false := decide_eq_false (by omega)
   refine goN ?_
   simp only [W, seval, b84, hn, hw2, e2, hw]
   exact ih (i + 1, n) ⟨by omega, h2, by dsimp only; omega⟩ (by dsimp only; omega) _ _ envA rfl
mutual
theorem deepR_ab : ∀ j : JsT, DpJ j
 | .mk _ _ _ l _ => deep_step _ (deepR_all l)
theorem deepR_all : ∀ (l : List JsT), ∀ x ∈ l, DpJ x
 | [], _, h => absurd h List.not_mem_nil
 | y :: l, x, h => by
  rcases List.mem_cons.1 h with e | e
  ·rw [e]; exact deepR_ab y
  ·exact deepR_all l x e
end
theorem shpJ_eq (u : List UInt8 → Bool) (j : JsT) : shpJ u j = (decide (1 ≤ j.kind) && (decide (j.kind ≤ 6) && ((decide (j.kind = 2) || (decide (j.kind = 3) || decide (j.int = 0))) && ((!decide (j.kind = 2) || (decide (j.int = 0) || decide (j.int = 1))) && ((decide (j.kind = 4) || j.text.isEmpty) && (u j.text && ((decide (5 ≤ j.kind) || j.items.isEmpty) && ((decide (j.kind = 6) || j.keys.isEmpty) && ((!decide (j.kind = 6) || decide (j.keys.length = j.items.length))
 && ((j.keys.all u && onceJ j.keys) && shpJs u j.items)))))))))) := by
 cases j
 rw [shpJ]
 rfl
theorem onceF_not : ∀ (l seen : List (List UInt8)), onceF seen l = ((l.all fun x => !seen.contains x) && onceJ l)
 | [], _ => rfl
 | x :: l, seen => by
  rw [onceF, onceJ, List.all_cons, onceF_not l]
  have : (l.all fun y => !(seen ++ [x]).contains y) = ((l.all fun y => !seen.contains y) && !l.contains x) := by
   induction l with
   | nil => rfl
   | cons y l ih =>
    rw [List.all_cons, List.all_cons, ih, List.contains_cons]
    have e : (seen ++ [x]).contains y = (seen.contains y || (x == y)) := by
     rw [Bool.eq_iff_iff, List.contains_iff_mem, List.mem_append, List.mem_singleton, Bool.or_eq_true, List.contains_iff_mem, beq_iff_eq]
     exact ⟨fun h => h.imp id Eq.symm, fun h => h.imp id Eq.symm⟩
    rw [e]
    cases seen.contains y <;> cases (x == y) <;> cases (l.all fun y => !seen.contains y) <;> cases l.contains x <;> rfl
  rw [this]
  cases seen.contains x <;> cases (l.all fun y => !seen.contains y) <;> cases l.contains x <;> rfl
theorem onceF_J (l : List (List UInt8)) : onceF [] l = onceJ l := by
 rw [onceF_not]
 simp
def ShJ (j : JsT) : Prop := SmJ j → ∀ (B : List (List V)) (T : List (Nat × Nat)), AFn Tryz.prog TabI 85 [jsV j] ⟨B, T⟩ (Same (.d (.bool (shpJ allT j))) ⟨B, T⟩)
set_option maxHeartbeats 8000000 in
theorem shape_tail (k : Int) (j : JsT) (hs : SmJ j) (h : ∀ x ∈ j.items, SmJ x → ShJ x) (hk : j.items = [] ∨ j.kind = 5 ∨ j.kind = 6) (R : Bool) (hR : (j.keys.all allT && onceJ j.keys && shpJs allT j.items) = R) (N : Nat) (B : List (List V)) (hn : B.length = N) (T : List (Nat × Nat)) :
 ARun Tryz.prog TabI (N, T.length) 85 [.code (.loop (kF Tryz.f85 15)), .inBlock 0, .code (kF Tryz.f85 52)] (envS 140 [(1, .ptr N 0), (3, .d (.int .i64 0))]) ⟨B ++ [[.d (.int .i64 k), .d (.int .i64 j.int), .d (.str j.text), .d (.sl (j.items.map jsD)), .d (.sl (ssD j.keys))]], T⟩ (Ab.Left ⟨B, T⟩ (Same (.d (.bool R)) ⟨B, T⟩)) := by
 obtain ⟨htl, hks, hkl, hil, hit⟩ := (smK_iff j).1 hs.1
 have hll := ssD_len j.keys
 rw [← onceF_J] at hR
 refine ARun.loopW (fun i : Nat => (envS 140 [(1, .ptr N 0), (3, .d (.int .i64 (i : Int)))], ⟨B ++ [[.d (.int .i64 k), .d (.int .i64 j.int), .d (.str j.text), .d (.sl (j.items.map jsD)), .d (.sl (ssD j.keys))]], T⟩)) (fun i => i ≤ j.keys.length ∧ ((j.keys.drop i).all allT && onceF (j.keys.take i) (j.keys.drop i) && shpJs allT j.items) = R) (fun i => j.keys.length - i) 0 ⟨by omega, hR⟩ envA rfl ?_
 rintro i ⟨g1, g2⟩ ih
 dsimp only at g1 g2 ih ⊢
 by_cases hlt : i < j.keys.length
 case neg =>
  have e1 : decide ((i : Int) < (j.keys.length : Int)) = false := decide_eq_false (by omega)
  rw [List.drop_eq_nil_of_le (by omega), onceF, List.all_nil, Bool.true_and, Bool.true_and] at g2
  refine goN ?_
  simp only [W, seval, b85, hn, hll, e1]
  refine ARun.loopW (fun i : Nat => (envS 140 [(1, .ptr N 0), (5, .d (.int .i64 (i : Int)))], ⟨B ++ [[.d (.int .i64 k), .d (.int .i64 j.int), .d (.str j.text), .d (.sl (j.items.map jsD)), .d (.sl (ssD j.keys))]], T⟩)) (fun i => i ≤ j.items.length ∧ shpJs allT (j.items.drop i) = R) (fun i => j.items.length - i) 0 ⟨by omega, g2⟩ envA rfl ?_
  rintro q ⟨f1, f2⟩ ih2
  dsimp only at f1 f2 ih2 ⊢
  by_cases hlq : q < j.items.length
  case neg =>
   have e2 : decide ((q : Int) < (j.items.length : Int)) = false := decide_eq_false (by omega)
   rw [List.drop_eq_nil_of_le (by omega), shpJs] at f2
   refine goN ?_
   simp only [W, seval, b85, hn, e2]
   refine retN b85 (Left.box ?_)
   rw [← f2]
   exact ⟨rfl, rfl⟩
  have e2 : decide ((q : Int) < (j.items.length : Int)) = true := decide_eq_true (by omega)
  have hw := wrap_in ((q : Int) + 1) (by omega)
  have hg := List.getElem?_eq_getElem hlq
  have hmem := List.getElem_mem hlq
  rw [drop_get hlq, shpJs] at f2
  obtain ⟨x, hxx⟩ : ∃ x, j.items[q] = x := ⟨_, rfl⟩
  rw [hxx] at hg hmem f2
  have hk5 : j.kind = 5 ∨ j.kind = 6 := hk.resolve_left fun e => by rw [e] at hmem; exact absurd hmem List.not_mem_nil
  have hx := h x hmem (smJ_kid hs hk5 hmem).1 (smJ_kid hs hk5 hmem).1
  unfold jsV at hx
  refine goN ?_
  simp only [W, seval, b85, hn, e2, hg, List.getElem?_map, jsD_eq]
  refine callN (hx _ _) ?_
  cases hb : shpJ allT x
  ·rw [hb, Bool.false_and] at f2
   refine goN ?_
   simp only [W, seval, b85, hn]
   refine retN b85 (Left.box ?_)
   rw [← f2]
   exact ⟨rfl, rfl⟩
  ·rw [hb, Bool.true_and] at f2
   refine goN ?_
   simp only [W, seval, b85, hn, hw]
   exact ih2 (q + 1) ⟨by omega, f2⟩ (by omega) _ _ envA rfl
 have e1 : decide ((i : Int) < (j.keys.length : Int)) = true := decide_eq_true (by omega)
 have hw := wrap_in ((i : Int) + 1) (by omega)
 have hlti : (i : Int) < (j.keys.length : Int) := by omega
 have hgi := ssD_at hlt
 have hkx := hks _ (List.getElem_mem hlt)
 rw [onceF_take j.keys i hlt, List.drop_eq_getElem_cons hlt, List.all_cons] at g2
 obtain ⟨x, hxx⟩ : ∃ x, j.keys[i] = x := ⟨_, rfl⟩
 rw [hxx] at hgi hkx g2
 refine goN ?_
 simp only [W, seval, b85, hn, hll, e1, hgi]
 refine callN (textT_ab x hkx _) ?_
 cases hb : allT x
 ·rw [hb, Bool.false_and, Bool.false_and, Bool.false_and] at g2
  refine goN ?_
  simp only [W, seval, b85, hn]
  refine retN b85 (Left.box ?_)
  rw [← g2]
  exact ⟨rfl, rfl⟩
 rw [hb, Bool.true_and] at g2
 refine goN ?_
 simp only [W, seval, b85, hn, hll]
 refine ARun.loopW (fun m : Nat => (envS 140 [(1, .ptr N 0), (3, .d (.int .i64 (i : Int))), (4, .d (.int .i64 (m : Int)))], ⟨B ++ [[.d (.int .i64 k), .d (.int .i64 j.int), .d (.str j.text), .d (.sl (j.items.map jsD)), .d (.sl (ssD j.keys))]], T⟩)) (fun m => m ≤ i ∧ ((j.keys.drop (i + 1)).all allT && (!((j.keys.take i).drop m).contains x && onceF (j.keys.take (i + 1)) (j.keys.drop (i + 1))) && shpJs allT j.items) = R) (fun m => i - m) 0 ⟨by omega, g2⟩ envA rfl ?_
 rintro m ⟨f1, f2⟩ ih2
 dsimp only at f1 f2 ih2 ⊢
 have hti : (j.keys.take i).length = i := by simp; omega
 by_cases hki : m < i
 case neg =>
  have e3 : decide ((m : Int) < (i : Int)) = false := decide_eq_false (by omega)
  have hnil : (j.keys.take i).drop m = [] := List.drop_eq_nil_of_le (by omega)
  rw [hnil, show ([] : List (List UInt8)).contains x = false from rfl, Bool.not_false, Bool.true_and] at f2
  refine goN ?_
  simp only [W, seval, b85, hn, hll, e3, hw]
  exact ih (i + 1) ⟨by omega, f2⟩ (by omega) _ _ envA rfl
 have e3 : decide ((m : Int) < (i : Int)) = true := decide_eq_true (by omega)
 have hw2 := wrap_in ((m : Int) + 1) (by omega)
 have hlm : m < j.keys.length := by omega
 have hltm : (m : Int) < (j.keys.length : Int) := by omega
 have hgm := ssD_at hlm
 rw [cont_drop x (j.keys.take i) m (by omega), List.getElem_take] at f2
 obtain ⟨y, hyy⟩ : ∃ x, j.keys[m] = x := ⟨_, rfl⟩
 rw [hyy] at hgm f2
 by_cases hxy : y = x
 ·have e4 := decide_eq_true hxy
  rw [e4, Bool.true_or, Bool.not_true, Bool.false_and, Bool.and_false, Bool.false_and] at f2
  refine goN ?_
  simp only [W, seval, b85, hn, hll, e3]
  refine drXA 10 [] [N] ?_
  simp (maxSteps := 4000000) only [W, seval, b85, xw, hn, hll, hgi, hgm, hlt, hlm, hlti, hltm]
  refine goN ?_
  simp only [W, seval, b85, hn, e4]
  refine retN b85 (Left.box ?_)
  rw [← f2]
  exact ⟨rfl, rfl⟩
 ·have e4 := decide_eq_false hxy
  rw [e4, Bool.false_or] at f2
  refine goN ?_
  simp only [W, seval, b85, hn, hll, e3]
  refine drXA 10 [] [N] ?_
  simp (maxSteps := 4000000) only [W, seval, b85, xw, hn, hll, hgi, hgm, hlt, hlm, hlti, hltm]
  refine goN ?_
  simp only [W, seval, b85, hn, e4, hw2]
  exact ih2 (m + 1) ⟨by omega, f2⟩ (by omega) _ _ envA rfl
set_option maxHeartbeats 8000000 in
theorem shape_step (j : JsT) (hI : ∀ x ∈ j.items, SmJ x → ShJ x) : ShJ j := by
 intro hs B T
 obtain ⟨N, hn⟩ : ∃ N, B.length = N := ⟨_, rfl⟩
 obtain ⟨htl, hks, hkl, hil, hit⟩ := (smK_iff j).1 hs.1
 have ht := fun S => textT_ab j.text htl S
 have hll := ssD_len j.keys
 have hpI : decide ((0 : Int) < (j.items.length : Int)) = !j.items.isEmpty := by cases j.items <;> simp
 have hpK : decide ((0 : Int) < (j.keys.length : Int)) = !j.keys.isEmpty := by cases j.keys <;> simp
 have hpE : decide ((j.keys.length : Int) = (j.items.length : Int)) = decide (j.keys.length = j.items.length) := decide_eq_decide.2 (by omega)
 have hpT : decide (j.text = []) = j.text.isEmpty := by cases j.text <;> simp
 rw [shpJ_eq]
 unfold jsV
 by_cases h1 : 1 ≤ j.kind
 case neg =>
  have e1 : decide (j.kind < 1) = true := decide_eq_true (by omega)
  rw [decide_eq_false h1]
  refine enS b85 fun hsm => ?_
  simp only [smw] at hsm
  simp only [W, seval, b85, hn, e1]
  refine retN b85 (Left.box ?_)
  exact ⟨rfl, rfl⟩
 by_cases h6 : j.kind ≤ 6
 case neg =>
  have e1 : decide (j.kind < 1) = false := decide_eq_false (by omega)
  have e2 : decide (6 < j.kind) = true := decide_eq_true (by omega)
  rw [decide_eq_true h1, decide_eq_false h6]
  refine enS b85 fun hsm => ?_
  simp only [smw] at hsm
  simp only [W, seval, b85, hn, e1, e2]
  refine retN b85 (Left.box ?_)
  exact ⟨rfl, rfl⟩
 have hk : j.kind = 1 ∨ j.kind = 2 ∨ j.kind = 3 ∨ j.kind = 4 ∨ j.kind = 5 ∨ j.kind = 6 := by omega
 rcases hk with hk | hk | hk | hk | hk | hk
 all_goals
  rw [hk]
  simp only [seval, decide_true, decide_false, Bool.not_true, Bool.not_false, Bool.true_or, Bool.false_or, Bool.or_true, Bool.or_false, Bool.true_and]
  refine enS b85 fun hsm => ?_
  simp only [smw] at hsm
  simp only [W, seval, b85, hn, hpT, decide_true, decide_false, Bool.not_true, Bool.not_false]
  repeat' ((first | refine guardB_of (fun h => ?_) (fun h => ?_) | refine condS_of (fun h => ?_) (fun h => ?_)) <;> simp only [W, seval, b85, h, hn, hpT, decide_true, decide_false, Bool.not_true, Bool.not_false])
 all_goals try
  (skip
   refine callN (ht _) ?_
   skip
   refine goN ?_
   simp only [W, seval, b85, hn, hll, hpI, hpK, hpE, hpT, decide_true, decide_false, Bool.not_true, Bool.not_false]
   repeat' ((first | refine guardB_of (fun h => ?_) (fun h => ?_) | refine condS_of (fun h => ?_) (fun h => ?_)) <;> simp only [W, seval, b85, h, hn, hll, hpI, hpK, hpE, hpT, decide_true, decide_false, Bool.not_true, Bool.not_false])
   skip)
 all_goals first
  | (skip
     refine retN b85 (Left.box ?_)
     exact ⟨congrArg (fun b => V.d (.bool b)) (show false = _ by clear hI ht hs hks hit hsm; simp_all), rfl⟩)
  | (refine ARun.weak ?_ (shape_tail _ j hs hI ?_ _ ?_ N B hn T)
     ·skip
      refine Agree.env _ ?_
      simp only [agw, seval, hn]
     all_goals simp_all)
mutual
theorem shapeR_ab : ∀ j : JsT, SmJ j → ShJ j
 | .mk _ _ _ l _, _ => shape_step _ (shapeR_all l)
theorem shapeR_all : ∀ (l : List JsT), ∀ x ∈ l, SmJ x → ShJ x
 | [], _, h => absurd h List.not_mem_nil
 | y :: l, x, h => fun hx => by
  rcases List.mem_cons.1 h with e | e
  ·rw [e]; exact shapeR_ab y (by rw [← e]; exact hx)
  ·exact shapeR_all l x e hx
end
def b64 := KB Tryz.func64 81
def b74 := KB Tryz.func74 38
def b90 := KB Tryz.func90 26
def b91 := KB Tryz.func91 32
theorem allT_nil : allT [] = true := rfl
def rjJ (j : JsT) : Bool := rgtJ allT 0 j
def zjJ (j : JsT) : Bool := decide (j.kind = 0) && (decide (j.int = 0) && (j.text.isEmpty && (j.keys.isEmpty && j.items.isEmpty)))
set_option maxHeartbeats 2000000 in
theorem rgtR_ab (j : JsT) (hs : SmJ j) (S : Mem) : AFn Tryz.prog TabI 63 [jsV j] S (Same (.d (.bool (rjJ j))) S) := by
 obtain ⟨B, T⟩ := S
 obtain ⟨N, hn⟩ : ∃ N, B.length = N := ⟨_, rfl⟩
 have hD := fun B T => deepR_ab j hs B T
 have hS := fun B T => shapeR_ab j hs hs B T
 unfold rjJ
 rw [rgtJ_eq allT allT_nil j 0 (by omega)]
 have e0 : decide (deepJ j + 0 ≤ 32) = decide ((deepJ j : Int) ≤ 32) := decide_eq_decide.2 (by omega)
 rw [e0]
 unfold jsV at hD hS ⊢
 refine enS b63 fun hsm => ?_
 simp only [smw] at hsm
 simp only [W, seval, b63, hn]
 refine callN (hD _ _) ?_
 cases hb : decide ((deepJ j : Int) ≤ 32)
 ·refine goN ?_
  simp only [W, seval, b63, hn, hb]
  refine retN b63 (Left.box ?_)
  exact ⟨rfl, rfl⟩
 ·refine goN ?_
  simp only [W, seval, b63, hn, hb]
  refine callN (hS _ _) ?_
  refine goN ?_
  simp only [W, seval, b63, hn]
  refine retN b63 (Left.box ?_)
  exact ⟨rfl, rfl⟩
set_option maxHeartbeats 4000000 in
theorem noneR_ab (j : JsT) (S : Mem) : AFn Tryz.prog TabI 64 [jsV j, jsZ] S (Same (.d (.bool (zjJ j))) S) := by
 obtain ⟨B, T⟩ := S
 obtain ⟨N, hn⟩ : ∃ N, B.length = N := ⟨_, rfl⟩
 have hll := ssD_len j.keys
 have hpI : decide ((j.items.length : Int) = 0) = j.items.isEmpty := by cases j.items <;> simp; omega
 have hpK : decide ((j.keys.length : Int) = 0) = j.keys.isEmpty := by cases j.keys <;> simp; omega
 have hpT : decide (j.text = []) = j.text.isEmpty := by cases j.text <;> simp
 unfold jsV jsZ zjJ
 refine enS b64 fun hsm => ?_
 simp only [smw] at hsm
 simp only [W, seval, b64, hn, hll, hpI, hpK, hpT, List.length_nil]
 repeat' ((first | refine guardB_of (fun h => ?_) (fun h => ?_) | refine condS_of (fun h => ?_) (fun h => ?_)) <;> simp only [W, seval, b64, h, hn, hll, hpI, hpK, hpT, List.length_nil])
 all_goals first
  | (skip
     refine retN b64 (Left.box ?_)
     exact ⟨congrArg (fun b => V.d (.bool b)) (show false = _ by simp_all), rfl⟩)
  | skip
 have hk0 : j.keys.length = 0 := by cases hj : j.keys <;> simp_all
 have hi0 : j.items.length = 0 := by cases hj : j.items <;> simp_all
 refine ARun.loopW (fun _ : Unit => (envS 81 [(2, .ptr N 0), (3, .ptr (N + 1) 0), (5, .d (.int .i64 0))], ⟨B ++ [jsB j, [.d (.int .i64 0), .d (.int .i64 0), .d (.str []), .sl [] .full, .sl [] .full]], T⟩)) (fun _ => True) (fun _ => 0) () trivial envA rfl ?_
 rintro _ - -
 have e1 : decide ((0 : Int) < ((0 : Nat) : Int)) = false := rfl
 refine goN ?_
 simp only [W, seval, b64, hn, hll, jsB, hk0, e1]
 refine ARun.loopW (fun _ : Unit => (envS 81 [(2, .ptr N 0), (3, .ptr (N + 1) 0), (6, .d (.int .i64 0))], ⟨B ++ [jsB j, [.d (.int .i64 0), .d (.int .i64 0), .d (.str []), .sl [] .full, .sl [] .full]], T⟩)) (fun _ => True) (fun _ => 0) () trivial envA rfl ?_
 rintro _ - -
 refine goN ?_
 simp only [W, seval, b64, hn, jsB, hi0, e1]
 refine retN b64 (Left.box ?_)
 exact ⟨congrArg (fun b => V.d (.bool b)) (show true = _ by simp_all), rfl⟩
theorem eqZ_ab (a : List (List UInt8)) (S : Mem) : AFn Tryz.prog TabI 90 [.d (.sl (ssD a)), .sl [] .full] S (Same (.d (.bool a.isEmpty)) S) := by
 obtain ⟨B, T⟩ := S
 have hll := ssD_len a
 cases a with
 | nil =>
  have e1 : decide (((0 : Nat) : Int) = 0) = true := rfl
  have e2 : decide ((0 : Int) < ((0 : Nat) : Int)) = false := rfl
  have hl0 : (ssD ([] : List (List UInt8))).length = 0 := rfl
  refine enS b90 fun hsm => ?_
  simp only [smw] at hsm
  simp only [W, seval, b90, hl0, List.length_nil, e1, Bool.not_true]
  refine ARun.loopW (fun _ : Unit => (envS 26 [(12, .d (.int .i64 0)), (13, .d (.int .i64 0))], ⟨B, T⟩)) (fun _ => True) (fun _ => 0) () trivial envA rfl ?_
  rintro _ - -
  refine goN ?_
  simp only [W, seval, b90, e2]
  refine retN b90 (Left.none ?_)
  exact ⟨rfl, rfl⟩
 | cons x l =>
  have e1 : decide ((((x :: l).length : Nat) : Int) = 0) = false := decide_eq_false (by simp; omega)
  refine enS b90 fun hsm => ?_
  simp only [smw] at hsm
  simp only [W, seval, b90, hll, List.length_nil, e1, Bool.not_false]
  refine retN b90 (Left.none ?_)
  exact ⟨rfl, rfl⟩
theorem eqfZ_ab (a : List JsT) (f : V) (S : Mem) : AFn Tryz.prog TabI 91 [.d (.sl (a.map jsD)), .sl [] .full, f] S (Same (.d (.bool a.isEmpty)) S) := by
 obtain ⟨B, T⟩ := S
 cases a with
 | nil =>
  have e1 : decide (((0 : Nat) : Int) = 0) = true := rfl
  have e2 : decide ((0 : Int) < ((0 : Nat) : Int)) = false := rfl
  refine enS b91 fun hsm => ?_
  simp only [smw] at hsm
  simp only [W, seval, b91, List.map_nil, List.length_nil, e1, Bool.not_true]
  refine ARun.loopW (fun _ : Unit => (envS 32 [(16, .d (.int .i64 0)), (17, .d (.int .i64 0))], ⟨B, T⟩)) (fun _ => True) (fun _ => 0) () trivial envA rfl ?_
  rintro _ - -
  refine goN ?_
  simp only [W, seval, b91, e2]
  refine retN b91 (Left.none ?_)
  exact ⟨rfl, rfl⟩
 | cons x l =>
  have hl1 : ((x :: l).map jsD).length = l.length + 1 := by simp
  have e1 : decide (((l.length + 1 : Nat) : Int) = 0) = false := decide_eq_false (by omega)
  refine enS b91 fun hsm => ?_
  simp only [smw] at hsm
  simp only [W, seval, b91, hl1, List.length_nil, e1, Bool.not_false]
  refine retN b91 (Left.none ?_)
  exact ⟨rfl, rfl⟩
set_option maxHeartbeats 4000000 in
theorem none_abJ (j : JsT) (S : Mem) : AFn Tryz.prog TabI 74 [jsV j, jsZ] S (Same (.d (.bool (zjJ j))) S) := by
 obtain ⟨B, T⟩ := S
 obtain ⟨N, hn⟩ : ∃ N, B.length = N := ⟨_, rfl⟩
 have hpT : decide (j.text = []) = j.text.isEmpty := by cases j.text <;> simp
 unfold jsV jsZ zjJ
 refine enN b74 ?_
 simp only [W, seval, b74, hn, hpT]
 repeat' ((first | refine guardB_of (fun h => ?_) (fun h => ?_) | refine condS_of (fun h => ?_) (fun h => ?_)) <;> simp only [W, seval, b74, h, hn, hpT])
 all_goals try
  (refine callN (eqZ_ab j.keys _) ?_
   skip
   refine goN ?_
   simp only [W, seval, b74, hn]
   repeat' ((first | refine guardB_of (fun h => ?_) (fun h => ?_) | refine condS_of (fun h => ?_) (fun h => ?_)) <;> simp only [W, seval, b74, h, hn])
   skip)
 all_goals try
  (refine callN (eqfZ_ab j.items _ _) ?_
   skip
   refine goN ?_
   simp only [W, seval, b74, hn]
   skip)
 all_goals
  refine retN b74 (Left.box ?_)
  exact ⟨congrArg (fun b => V.d (.bool b)) (by simp_all), rfl⟩
def b99 := KB Tryz.func99 79
def b111 := KB Tryz.func111 7
def b100 := KB Tryz.func100 39
def b89 := KB Tryz.func89 32
def b102 := KB Tryz.func102 9
def b73 := KB Tryz.func73 5
set_option maxHeartbeats 8000000 in
theorem bare_abJ (j : JsT) (ht : j.text.length ≤ 2500) (S : Mem) : AFn Tryz.prog TabI 99 [jsV j] S (Same (.d (.bool (bareJ allT j.kind j.int j.text j.items))) S) := by
 obtain ⟨B, T⟩ := S
 obtain ⟨N, hn⟩ : ∃ N, B.length = N := ⟨_, rfl⟩
 have hpI : decide ((0 : Int) < (j.items.length : Int)) = !j.items.isEmpty := by cases j.items <;> simp
 have hpT : decide (j.text = []) = j.text.isEmpty := by cases j.text <;> simp
 have hu := fun B T => uright_ab j.text (by omega) B T
 unfold jsV
 refine enS b99 fun hsm => ?_
 simp only [smw] at hsm
 simp only [W, seval, b99, hn]
 refine drXA 13 [] [N] ?_
 simp (maxSteps := 4000000) only [W, seval, b99, xw, hn, hpI, hpT]
 refine goN ?_
 simp only [W, seval, b99, hn, hpI, hpT]
 repeat' ((first | refine guardB_of (fun h => ?_) (fun h => ?_) | refine condS_of (fun h => ?_) (fun h => ?_)) <;> simp only [W, seval, b99, h, hn, hpI, hpT])
 all_goals try
  (refine callN (hu _ _) ?_
   skip
   refine goN ?_
   simp only [W, seval, b99, hn]
   skip)
 all_goals
  refine retN b99 (Left.box ?_)
  exact ⟨congrArg (fun b => V.d (.bool b)) (by clear hu; simp_all [bareJ, allT]), rfl⟩
end Go.Proofs.YtkgbbcnjkojocaaGreatDoor
namespace Go.Proofs.YtkgbbcnjkojocaaGreatDoor
open Go.RowKit Go.Shelf Go.Sort Go.Av Go.Ab
attribute [local go_sem] Oper.semAt_some
set_option linter.unusedSimpArgs false
set_option linter.unusedVariables false
set_option maxHeartbeats 1000000 in
theorem coll_in (F : Fence) (n : Nat) (h0 : F.fn 118) (h3 : F.fn 125) (h5 : F.fn 120) (hro : F.round = none) (hn : 4 ≤ n) (Bs : Nat) (sv : Value) (zs : List (List UInt8)) (hlen : zs.length ≤ 1000000) (w : World) (hBs : Bs < w.heap.size) (hc : w.cell? ⟨Bs, 0, none⟩ = some sv) (hI : TextsAt w.heap.size w sv zs) :
 CallsIn F n Tryz.prog 118 #[.func (.func 120) #[] #[.pointer (some ⟨Bs, 0, none⟩)]] w fun e W' => ∃ v, e = .returned v ∧ W'.ownsRow w.heap.size 9 1 v zs.length (zs.map encStr) ∧ FlatV W' v ∧ Below w.heap.size w W' := by
 have h1 : 1 ≤ n := by omega
 refine callsIn_of_wp Tryz.func118 rfl h0 ?_ hro
 simp only [Tryz.ntmps118, List.size_toArray, List.length_cons, List.length_nil, Nat.reduceAdd, Nat.reduceSub, Array.replicate_succ, Array.replicate_zero, List.push_toArray, List.append_toArray, List.nil_append, List.cons_append]
 gi_wp2_with (gi_at_call 125; refine (apSeq_in F (n - 1) h3 h5 hro (by omega) Bs sv zs hlen _ hBs hc hI).mono ?_; rintro e w' ⟨v, rfl, hown, hfl, hB⟩)
 go_ret
 exact ⟨v, rfl, hown, hfl, hB⟩
def SortedAt (n₀ : Nat) (W : World) (zs : List (List UInt8)) (v : Value) : Prop :=
 (zs = [] ∧ v = .slice none 0 0) ∨ ∃ g cap cs, v = .slice (some ⟨g, 0, none⟩) zs.length cap ∧ n₀ ≤ g ∧ W.heap[g]? = some (.cells cs 9 (0, 0)) ∧ zs.length ≤ cap ∧ cap ≤ maxLen ∧ cs.size = cap ∧ cs.toList.take zs.length = (zs.mergeSort fun x y => decide (x ≤ y)).map encStr ∧ ∀ u ∈ cs.toList, u.oneCell' = true
set_option maxHeartbeats 2000000 in
theorem sorted_calls (Bs : Nat) (sv : Value) (zs : List (List UInt8)) (hlen : zs.length ≤ 1000000) (w : World) (hBs : Bs < w.heap.size) (hc : w.cell? ⟨Bs, 0, none⟩ = some sv) (hI : TextsAt w.heap.size w sv zs) :
 Calls Tryz.prog 109 #[.func (.func 120) #[] #[.pointer (some ⟨Bs, 0, none⟩)]] w fun e W' => ∃ v, e = .returned v ∧ SortedAt w.heap.size W' zs v ∧ Below w.heap.size w W' := by
 refine (callsIn_wide (n := 6)).1 ?_
 refine callsIn_of_wp Tryz.func109 rfl trivial ?_ rfl
 simp only [Tryz.ntmps109, List.size_toArray, List.length_cons, List.length_nil, Nat.reduceAdd, Nat.reduceSub, Array.replicate_succ, Array.replicate_zero, List.push_toArray, List.append_toArray, List.nil_append, List.cons_append]
 have hff : Fence.wide.fn 118 := trivial
 have hfg : Fence.wide.fn 119 := trivial
 gi_wp2_with (gi_at_call 118; refine (coll_in Fence.wide 5 trivial trivial trivial rfl (by omega) Bs sv zs hlen _ hBs hc hI).mono ?_; rintro e W ⟨v, rfl, hown, hfl, hB⟩)
 rcases hown.2 with ⟨rfl, hz⟩ | ⟨g, cap, cur, rfl, hbase, hgb, r1, r2, r3, r4⟩
 ·obtain rfl : zs = [] := List.eq_nil_of_length_eq_zero hz
  have cS : CallsIn Fence.wide 5 Tryz.prog 119 #[.slice none 0 0] W fun e w' => e = .returned (.tuple #[]) ∧ w' = W := callsIn_wide.2 (Any.slices_Sort_string_none Tryz.lays190 none 0 W)
  gi_wp2_with (gi_at_call 119; refine cS.mono ?_; rintro e w' ⟨rfl, rfl⟩)
  go_ret
  exact ⟨_, rfl, .inl ⟨rfl, rfl⟩, hB⟩
 ·have hH : Holds encStr W g 0 zs.toArray := holds_of_block hgb (by simpa using r4)
  have hgl : g < W.heap.size := (Array.getElem?_eq_some_iff.1 hgb).1
  have cS : CallsIn Fence.wide 5 Tryz.prog 119 #[.slice (some ⟨g, 0, none⟩) zs.length cap] W fun e w' => e = .returned (.tuple #[]) ∧ ∃ n os, w' = grow (putRow encStr (Sort.ahead W n) g 0 (zs.mergeSort fun x y => decide (x ≤ y)).toArray) os := callsIn_wide.2 (Any.slices_Sort_string Tryz.lays190 g 0 cap zs W hH hgl (by omega))
  gi_wp2_with (gi_at_call 119; refine cS.mono ?_; rintro e w' ⟨rfl, nn, os, rfl⟩)
  go_ret
  have hml : (zs.mergeSort fun x y => decide (x ≤ y)).length = zs.length := by simp
  refine ⟨_, rfl, .inr ⟨g, cap, _, rfl, hbase, heap_sorted _ hgb, r1, r2, by simp [putCells, r3], ?_, fun u hu => ?_⟩, hB.grown (grownBy_sorted _) hB.size (fun j hj => by cases hj; exact hbase)⟩
  ·rw [← hml]
   exact take_putCells cur _ (by rw [hml, r3, Nat.mul_one]; exact r1)
  ·simp only [putCells, Array.toList_mapIdx, List.mem_mapIdx] at hu
   obtain ⟨i, hi, rfl⟩ := hu
   split
   ·rfl
   ·exact hfl g zs.length cap rfl cur _ _ hgb _ (List.getElem_mem hi)
end Go.Proofs.YtkgbbcnjkojocaaGreatDoor
namespace Go.Proofs.YtkgbbcnjkojocaaGreatDoor
set_option linter.unusedVariables false
theorem once_nodup : ∀ l : List (List UInt8), onceJ l = decide l.Nodup
 | [] => rfl
 | x :: l => by
  rw [onceJ, once_nodup l, Bool.eq_iff_iff]
  simp [List.nodup_cons]
theorem keeps_nodup {l : List (List UInt8)} (hs : l.Pairwise fun a b => a ≤ b) : (∀ j, j < l.length → Go.Lib.keeps l.toArray j = true) ↔ l.Nodup := by
 have hg : ∀ j (h : j < l.length), l.toArray[j]! = l[j] := fun j h => by
  rw [getElem!_pos l.toArray j (by simpa using h)]
  simp
 rw [List.Nodup, List.pairwise_iff_getElem]
 rw [List.pairwise_iff_getElem] at hs
 constructor
 ·intro h i j hi hj hij e
  have hk := h j hj
  unfold Go.Lib.keeps at hk
  have hk := (of_decide_eq_true hk).resolve_left (by omega)
  rw [hg j hj, hg (j - 1) (by omega)] at hk
  refine hk (List.le_antisymm ?_ (hs (j - 1) j (by omega) hj (by omega)))
  rw [← e]
  by_cases e1 : i = j - 1
  ·subst e1
   exact List.le_refl _
  ·exact hs i (j - 1) hi (by omega) (by omega)
 ·intro h j hj
  unfold Go.Lib.keeps
  refine decide_eq_true ?_
  by_cases h0 : j = 0
  ·exact .inl h0
  ·right
   rw [hg j hj, hg (j - 1) (by omega)]
   exact fun e => h (j - 1) j (by omega) hj (by omega) e.symm
theorem compact_len (l : List (List UInt8)) : (Go.Lib.compact l).length = l.length ↔ ∀ j, j < l.length → Go.Lib.keeps l.toArray j = true := by
 unfold Go.Lib.compact Go.Lib.compactUpTo
 rw [List.length_map]
 have h := List.length_filter_eq_length_iff (l := List.range l.length) (p := Go.Lib.keeps l.toArray)
 rw [List.length_range] at h
 rw [h]
 simp
theorem compact_once (ks : List (List UInt8)) : decide ((Go.Lib.compact (ks.mergeSort fun x y => decide (x ≤ y))).length = ks.length) = onceJ ks := by
 have hp := List.mergeSort_perm ks fun x y => decide (x ≤ y)
 have hs : (ks.mergeSort fun x y => decide (x ≤ y)).Pairwise fun a b => a ≤ b := by
  refine (List.pairwise_mergeSort (fun a b c h k => ?_) (fun a b => ?_) ks).imp fun h => of_decide_eq_true h
  ·exact decide_eq_true (List.le_trans (of_decide_eq_true h) (of_decide_eq_true k))
  ·rcases List.le_total a b with h | h <;> simp [h]
 rw [once_nodup, Bool.eq_iff_iff, decide_eq_true_iff, decide_eq_true_iff, ← hp.length_eq, compact_len, keeps_nodup hs, hp.nodup_iff]
theorem compact_le (l : List (List UInt8)) : (Go.Lib.compact l).length ≤ l.length := by
 unfold Go.Lib.compact Go.Lib.compactUpTo
 rw [List.length_map]
 exact Nat.le_trans (List.length_filter_le _ _) (by simp)
end Go.Proofs.YtkgbbcnjkojocaaGreatDoor
namespace Go.Proofs.YtkgbbcnjkojocaaGreatDoor
open Go.RowKit Go.Shelf Go.Sort Go.Av Go.Ab
set_option linter.unusedSimpArgs false
set_option linter.unusedVariables false
set_option maxRecDepth 100000
theorem Rep.late {c : Cx} {w w' : World} {S : Mem} (h : Rep c w S) (hb : Below w.heap.size w w') {g T : Nat} {cs : Array Value} {vs : List V} (hg : w.heap.size ≤ g) (hh : w'.heap[g]? = some (.cells cs T (0, 0))) (hsz : cs.size = vs.length) (hv : ∀ j (h : j < vs.length), (∀ c', VR c' w' vs[j] (cs.getD j undef)) ∧ (cs.getD j undef).oneCell' = true) :
 Rep { c with ρ := c.ρ ++ [g] } w' { S with boxes := S.boxes ++ [vs] } ∧ Ext c w { c with ρ := c.ρ ++ [g] } w' := by
 obtain ⟨h1, hj⟩ := h.under hb
 have hk : Keeps c w { c with ρ := c.ρ ++ [g] } w' := by
  refine ⟨fun g' k v hm hv => ⟨?_, (hj.keeps.cell g' k v hm hv).2⟩, fun i b hi => ?_, hj.keeps.τ, rfl, hj.keeps.ty⟩
  ·rintro ((h' | h') | h')
   ·exact hm (.inl (.inl h'))
   ·simp only [List.mem_append, List.mem_singleton] at h'
    rcases h' with h' | h'
    ·exact hm (.inl (.inr h'))
    ·have := cell_lt hv; omega
   ·exact hm (.inr h')
  ·show (c.ρ ++ [g])[i]? = some b
   rw [List.getElem?_append_left (List.getElem?_eq_some_iff.1 hi).1]
   exact hi
 have hnew : ∀ i b : Nat, (c.ρ ++ [g])[i]? = some b → c.ρ[i]? = some b ∨ (i = c.ρ.length ∧ b = g) := by
  intro i b hi
  rcases Nat.lt_or_ge i c.ρ.length with h' | h'
  ·left; rwa [List.getElem?_append_left h'] at hi
  ·right
   rw [List.getElem?_append_right h'] at hi
   have : i - c.ρ.length = 0 := by
    have := (List.getElem?_eq_some_iff.1 hi).1
    simp at this; omega
   rw [this] at hi
   simp at hi
   exact ⟨by omega, hi.symm⟩
 have hbk : ∀ b, b < w.heap.size → w'.heap[b]? = w.heap[b]? := fun b hlt => hb.block b hlt
 have hgt : g < w'.heap.size := (Array.getElem?_eq_some_iff.1 hh).1
 refine ⟨⟨h1.hB, by simp [h.len], fun i b hi => ?_, fun i j b hi hj' => ?_, h.toks, fun t i ht => ?_, h.disj, h1.inv⟩, hk, rfl, rfl, rfl, hj.below⟩
 ·rcases hnew i b hi with hi | ⟨rfl, rfl⟩
  ·obtain ⟨a, o0, hh0, vs0, f1, f2⟩ := h.box i b hi
   refine ⟨a, o0, by rw [hbk b (h.lt hi)]; exact hh0, vs0, ?_, f2.keep hk⟩
   show (S.boxes ++ [vs])[i]? = _
   rw [List.getElem?_append_left (List.getElem?_eq_some_iff.1 f1).1]; exact f1
  ·refine ⟨Nat.le_trans h.hB.2 hg, _, hh, vs, ?_, .cells cs T vs hsz fun j hj => ⟨(hv j hj).1 _, (hv j hj).2⟩⟩
   show (S.boxes ++ [vs])[c.ρ.length]? = _
   rw [← h.len]; simp
 ·rcases hnew i b hi with hi | ⟨rfl, rfl⟩ <;> rcases hnew j _ hj' with hj' | ⟨rfl, e⟩
  ·exact h.inj i j b hi hj'
  ·have := h.lt hi; omega
  ·have := h.lt hj'; omega
  ·rfl
 ·obtain ⟨a1, a2, a3, a4, a5⟩ := h1.tok t i ht
  refine ⟨a1, a2, a3, a4, fun hn g' off ha => ?_⟩
  obtain ⟨b1, b2, r⟩ := a5 hn g' off ha
  obtain ⟨_, _, cur, T', fz, hh', _⟩ := (h.tok t i ht).2.2.2.2 hn g' off ha
  refine ⟨b1, ?_, r⟩
  simp only [List.mem_append, List.mem_singleton, not_or]
  refine ⟨b2, fun e => ?_⟩
  have := (Array.getElem?_eq_some_iff.1 hh').1
  omega
theorem one_arg {α : Type} [Inhabited α] {xs : Array α} (h : xs.size = 1) : ∃ x, xs = #[x] := ⟨xs[0]'(by omega), by
 apply Array.ext
 ·simpa using h
 ·intro j hj hj'
  have : j = 0 := by simp at hj'; omega
  subst this
  rfl⟩
theorem textsAt_of {c : Cx} {w : World} {ks : List (List UInt8)} {sv : Value} (h : DR c.M w (.sl (ssD ks)) sv) : TextsAt w.heap.size w sv ks ∧ ∀ k ∈ ks, k.length ≤ 9223372036854775807 := by
 cases h with
 | sl _ sz a cap f hsz hr hc hm hs hd =>
  have hl := ssD_len ks
  have hrow : ∀ j (h : j < ks.length), (ssD ks)[j]'(by rw [hl]; exact h) = [.str ks[j]] := fun j h => by simp [ssD]
  have hdj : ∀ j (h : j < ks.length), f j 0 = encStr ks[j] ∧ ks[j].length ≤ 9223372036854775807 := fun j h => by
   have := hd j (by rw [hl]; exact h) 0 (by rw [hrow j h]; simp)
   have e : ((ssD ks)[j]'(by rw [hl]; exact h))[0]'(by rw [hrow j h]; simp) = .str ks[j] := by simp [hrow j h]
   rw [e] at this
   generalize f j 0 = y at this
   cases this with
   | str s h => exact ⟨rfl, h⟩
  refine ⟨?_, fun k hk => ?_⟩
  ·by_cases h0 : ks = []
   ·subst h0
    exact .inl ⟨a, cap, rfl, rfl⟩
   ·have hlen : 0 < ks.length := List.length_pos_iff.2 h0
    obtain ⟨g, off, rfl, hc⟩ := hs (by intro e; rw [e] at hl; simp at hl; omega)
    have h1 : sz = 1 := by
     have := hr _ (List.getElem_mem (by rw [hl]; exact hlen))
     rw [hrow 0 hlen] at this
     simpa using this.symm
    subst h1
    have hcj : ∀ j (h : j < ks.length), w.cell? ⟨g, off + j, none⟩ = some (encStr ks[j]) := fun j h => by
     have := (hc j (by rw [hl]; exact h) 0 (by rw [hrow j h]; simp)).2
     rw [(hdj j h).1] at this
     simpa using this
    rw [hl]
    refine .inr ⟨g, off, cap, rfl, cell_lt (hcj 0 hlen), fun j hj => ?_⟩
    rw [hcj j hj, List.getElem?_eq_getElem hj]
    rfl
  ·obtain ⟨j, hj, rfl⟩ := List.mem_iff_getElem.1 hk
   exact (hdj j hj).2
set_option maxHeartbeats 1000000 in
theorem sorted_ab (ks : List (List UInt8)) (hks : ks.length ≤ 1000000) (N : Nat) (B : List (List V)) (T : List (Nat × Nat)) (hN : B[N]? = some [.d (.sl (ssD ks))]) :
 AFn Tryz.prog TabI 109 [.func 120 [] [.ptr N 0]] ⟨B, T⟩ fun v S' => (ks = [] ∧ v = .sl [] .full ∧ S' = ⟨B, T⟩) ∨ ∃ cap X, v = .bx B.length ks.length cap ∧ ks.length ≤ cap ∧ X.length = cap ∧ X.take ks.length = (ks.mergeSort fun x y => decide (x ≤ y)).map (fun s => V.d (.str s)) ∧ S' = ⟨B ++ [X], T⟩ := by
 refine ⟨enters_of Tryz.func109 (by kernel_rfl) rfl, fun c w xs h1 h2 h3 hI => ?_⟩
 obtain ⟨x, rfl⟩ := one_arg (xs := xs) h1
 have hv : VR c w (.func 120 [] [.ptr N 0]) x := h2 0 (by simp)
 cases hv with
 | func _ _ _ cf cc e1 e2 e3 e4 =>
  obtain rfl : cf = #[] := Array.size_eq_zero_iff.1 (by simpa using e1)
  obtain ⟨y, rfl⟩ := one_arg (xs := cc) e2
  have hy : VR c w (.ptr N 0) y := e4 0 (by simp)
  cases hy with
  | ptr _ _ b hi hT =>
   obtain ⟨cs, Tb, hh, hcs⟩ := h3.cellsL hi hT hN
   obtain ⟨sv, hsv, hvr, h1c⟩ := hcs.2 0 (.d (.sl (ssD ks))) rfl
   have hcell : w.cell? ⟨b, 0, none⟩ = some sv := by simp only [World.cell?, hh]; simpa using hsv
   cases hvr with
   | d _ _ hdr =>
    obtain ⟨hta, hkl⟩ := textsAt_of hdr
    refine (sorted_calls b sv ks hks w (h3.lt hi) hcell hta).mono ?_
    rintro e w' ⟨v, rfl, hso, hB⟩
    rcases hso with ⟨rfl, rfl⟩ | ⟨g, cap, cur, rfl, hg, hgb, hnc, hcm, hsz, htk, h1s⟩
    ·obtain ⟨r1, r2⟩ := h3.under hB
     exact ⟨.sl [] .full, _, _, c, rfl, .inl ⟨rfl, rfl, rfl⟩, r1, r2, .full [] none (.sl [] 1 none 0 (fun _ _ => undef) (by decide) (fun r h => absurd h List.not_mem_nil) (Nat.le_refl _) (by decide) (fun h => absurd rfl h) (fun j h => absurd h (by simp))) (fun p h => by cases h)⟩
    ·have hml : (ks.mergeSort fun x y => decide (x ≤ y)).length = ks.length := by simp
     obtain ⟨ts, hts⟩ : ∃ ts, (ks.mergeSort fun x y => decide (x ≤ y)) = ts := ⟨_, rfl⟩
     have hpm : ∀ s ∈ ts, s.length ≤ 9223372036854775807 := fun s hs => hkl s ((List.mergeSort_perm ks _).mem_iff.1 (by rw [hts]; exact hs))
     rw [hts] at htk hml ⊢
     have hXl : (ts.map (fun s => V.d (.str s)) ++ List.replicate (cap - ks.length) V.undef).length = cap := by simp [hml]; omega
     obtain ⟨r1, r2⟩ := Rep.late h3 hB (vs := ts.map (fun s => V.d (.str s)) ++ List.replicate (cap - ks.length) V.undef) hg hgb (by rw [hXl, hsz]) (fun j hj => by
      rw [hXl] at hj
      have hjc : j < cur.toList.length := by simpa [hsz] using hj
      have hgd : cur.getD j undef = cur.toList[j] := by simp [Array.getD, show j < cur.size by omega]
      refine ⟨fun c' => ?_, by rw [hgd]; exact h1s _ (List.getElem_mem hjc)⟩
      by_cases hjn : j < ks.length
      ·have e5 : cur.toList[j] = encStr (ts[j]'(by omega)) := by
        have := congrArg (·[j]?) htk
        simp only [List.getElem?_take, if_pos hjn, List.getElem?_map] at this
        rw [List.getElem?_eq_getElem hjc, List.getElem?_eq_getElem (by omega : j < ts.length)] at this
        exact Option.some.inj this
       rw [hgd, e5]
       rw [List.getElem_append_left (by simp; omega), List.getElem_map]
       exact .d _ _ (.str _ (hpm _ (List.getElem_mem _)))
      ·rw [List.getElem_append_right (by simp; omega), List.getElem_replicate]
       exact .undef _)
     refine ⟨_, _, _, _, rfl, .inr ⟨cap, _, rfl, hnc, hXl, ?_, rfl⟩, r1, r2, .bx _ _ _ g ?_ hnc hcm ⟨_, cur, _, hgb⟩⟩
     ·rw [← hml]
      exact List.take_left' (by simp)
     ·show (c.ρ ++ [g])[B.length]? = _
      rw [show B.length = c.ρ.length from h3.len]
      simp
set_option linter.defProp false
def b112 := KB Tryz.func112 61
def b110 := KB Tryz.func110 4
set_option maxHeartbeats 1000000 in
theorem compact_ab (zs : List (List UInt8)) (i cap : Nat) (B : List (List V)) (T : List (Nat × Nat)) (X : List V) (hB : B[i]? = some X) (hX : X.length = cap) (htk : X.take zs.length = zs.map fun s => V.d (.str s)) :
 AFn Tryz.prog TabI 112 [.bx i zs.length cap] ⟨B, T⟩ fun v S' => v = .bx i (Go.Lib.compact zs).length cap ∧ ∃ Y, S' = ⟨B.set i Y, T⟩ := by
 refine ⟨enters_of Tryz.func112 (by kernel_rfl) rfl, fun c w xs h1 h2 h3 hI => ?_⟩
 obtain ⟨x, rfl⟩ := one_arg (xs := xs) h1
 have hv : VR c w (.bx i zs.length cap) x := h2 0 (by simp)
 cases hv with
 | bx _ _ _ b hi hn hm hT =>
  obtain ⟨cs, Tb, hh, hcs⟩ := h3.cellsL hi hT hB
  have hsz : cs.size = cap := by have := hcs.1; rw [hX] at this; simpa using this
  have hce : cs.toList.take zs.length = zs.map encStr := by
   apply List.ext_getElem?
   intro j
   rw [List.getElem?_take]
   by_cases hj : j < zs.length
   ·have hxj := congrArg (·[j]?) htk
    simp only [List.getElem?_take, if_pos hj, List.getElem?_map, List.getElem?_eq_getElem hj, Option.map_some] at hxj
    obtain ⟨y, hy, hvy, _⟩ := hcs.2 j _ hxj
    rw [if_pos hj, hy, List.getElem?_map, List.getElem?_eq_getElem hj]
    cases hvy with
    | d _ _ h =>
     cases h with
     | str s h => rfl
   ·rw [if_neg hj, List.getElem?_eq_none (by simp; omega)]
  have hH : Holds encStr w b 0 zs.toArray := holds_of_block hh hce
  refine (Any.slices_Compact_string Tryz.lays194 b 0 cap zs w hH (by omega) hn).mono ?_
  rintro e w' ⟨rfl, q, rfl⟩
  obtain ⟨d, hd⟩ : ∃ d, (Go.Lib.compact zs ++ List.replicate (zs.length - (Go.Lib.compact zs).length) []).toArray = d := ⟨_, rfl⟩
  rw [hd]
  have hnew : (putRow encStr (Sort.ahead w q) b 0 d).heap[b]? = some (.cells (putCells encStr 0 d cs) Tb (0, 0)) := by
   have := heap_sorted (n := q) (os := #[]) d hh
   simpa using this
  have hg : w.grownBy (putRow encStr (Sort.ahead w q) b 0 d) (some b) := by
   have := grownBy_sorted (w := w) (g := b) (n := q) (os := #[]) d
   simpa using this
  have h1s : ∀ u ∈ cs.toList, u.oneCell' = true := fun u hu => by
   obtain ⟨j, hj, rfl⟩ := List.mem_iff_getElem.1 hu
   obtain ⟨y, hy, _, h1⟩ := hcs.2 j (X[j]'(by rw [hX, ← hsz]; simpa using hj)) (List.getElem?_eq_getElem _)
   rw [List.getElem?_eq_getElem hj] at hy
   rw [Option.some.inj hy]
   exact h1
  obtain ⟨r1, r2⟩ := h3.setObj hi (.cells (putCells encStr 0 d cs) Tb (0, 0)) (List.replicate cap V.undef) (.cells _ _ _ (by simp [putCells, hsz]) (fun j hj => ⟨by rw [List.getElem_replicate]; exact .undef _, by
   have hjc : j < cs.size := by rw [hsz]; simpa using hj
   have hgd : (putCells encStr 0 d cs).getD j undef = if 0 ≤ j ∧ j < 0 + d.size then encStr d[j - 0]! else cs[j] := by
    unfold putCells Array.getD
    rw [dif_pos (by simpa using hjc)]
    simp
   rw [hgd]
   split
   ·rfl
   ·exact h1s _ (by simp)⟩)) hnew (fun k hk => by
    have hne : b ≠ k := fun e => hk e.symm
    simp [putRow, mapBlock, Sort.ahead, Array.getElem?_modify, hne]) (by simp [putRow, mapBlock, Sort.ahead]) ((Below.refl c.B w).grown hg h3.hB.2 (fun j hj => by cases hj; exact (h3.box i b hi).1)) (fun T2 hT2 => by
    obtain ⟨cs0, fz, h0⟩ := hT2
    rw [hh] at h0
    injection h0 with h0
    injection h0 with q1 q2 q3
    subst q2
    exact ⟨_, _, hnew⟩)
  exact ⟨_, _, _, c, rfl, ⟨rfl, _, rfl⟩, r1, r2, .bx _ _ _ b hi (Nat.le_trans (compact_le zs) hn) hm ⟨Tb, _, _, hnew⟩⟩
theorem compactZ_ab (S : Mem) : AFn Tryz.prog TabI 112 [.sl [] .full] S (Same (.sl [] .full) S) := by
 obtain ⟨B, T⟩ := S
 have e1 : decide (((0 : Nat) : Int) < 2) = true := rfl
 refine AFn.enter Tryz.func112 (body := (kF Tryz.f112 0)) (by kernel_rfl) (by kernel_rfl) ?_
 rw [show (Tryz.f112).ntmps = 61 from by kernel_rfl, envS_args 61 _ (Nat.le_of_ble_eq_true rfl)]
 refine ARun.go 100 ?_
 simp only [W, seval, b112, List.length_nil, e1]
 exact retN b112 ⟨rfl, rfl⟩
theorem values_ab (ks : List (List UInt8)) (B : List (List V)) (T : List (Nat × Nat)) : AFn Tryz.prog TabI 110 [.d (.sl (ssD ks))] ⟨B, T⟩ (Same (.func 120 [] [.ptr B.length 0]) ⟨B ++ [[.d (.sl (ssD ks))]], T⟩) := by
 obtain ⟨N, hn⟩ : ∃ N, B.length = N := ⟨_, rfl⟩
 refine AFn.enter Tryz.func110 (body := (kF Tryz.f110 0)) (by kernel_rfl) (by kernel_rfl) ?_
 rw [show (Tryz.f110).ntmps = 4 from by kernel_rfl, envS_args 4 _ (Nat.le_of_ble_eq_true rfl)]
 refine ARun.go 100 ?_
 simp only [W, seval, b110, hn]
 exact retN b110 ⟨rfl, rfl⟩
end Go.Proofs.YtkgbbcnjkojocaaGreatDoor
namespace Go.Proofs.YtkgbbcnjkojocaaGreatDoor
open Go.RowKit Go.Av Go.Ab
set_option linter.unusedSimpArgs false
set_option linter.unusedVariables false
set_option maxRecDepth 100000
theorem keyed1_ab (s : List UInt8) (hs : s.length ≤ 2500) (S : Mem) : AFn Tryz.prog TabI 111 [.d (.str s)] S (Same (.d (.bool (!allT s))) S) := by
 obtain ⟨B, T⟩ := S
 have hu := uright_ab s (by omega) B T
 refine enS b111 fun hsm => ?_
 simp only [smw] at hsm
 simp only [W, seval, b111]
 refine callN (hu) ?_
 refine goN ?_
 simp only [W, seval, b111]
 refine retN b111 (Left.none ?_)
 exact ⟨rfl, rfl⟩
set_option maxHeartbeats 8000000 in
theorem keyed_ab (j : JsT) (hs : SmK j) (S : Mem) : AFn Tryz.prog TabI 100 [jsV j] S (Same (.d (.bool (keysJ allT j.kind j.items.length j.keys))) S) := by
 obtain ⟨B, T⟩ := S
 obtain ⟨N, hn⟩ : ∃ N, B.length = N := ⟨_, rfl⟩
 obtain ⟨htl, hks, hkl, hil, hit⟩ := (smK_iff j).1 hs
 have hll := ssD_len j.keys
 unfold jsV keysJ
 by_cases h6 : j.kind = 6
 case neg =>
  have e6 := decide_eq_false h6
  have hpK : decide ((j.keys.length : Int) = 0) = j.keys.isEmpty := by cases j.keys <;> simp; omega
  rw [if_neg h6]
  refine enS b100 fun hsm => ?_
  simp only [smw] at hsm
  simp only [W, seval, b100, hn, e6, hll, hpK, Bool.not_false]
  refine retN b100 (Left.box ?_)
  exact ⟨rfl, rfl⟩
 have e6 := decide_eq_true h6
 rw [if_pos h6]
 have hpE : decide ((j.keys.length : Int) = (j.items.length : Int)) = decide (j.keys.length = j.items.length) := decide_eq_decide.2 (by omega)
 have hcf := fun S => containsP_s 111 [] [] (fun s => !allT s) j.keys (by omega) S fun x hx => keyed1_ab x (hks x hx) S
 have hall := any_notS allT j.keys
 refine enS b100 fun hsm => ?_
 simp only [smw] at hsm
 simp only [W, seval, b100, hn, e6, hll, Bool.not_true]
 refine callN (values_ab j.keys _ _) ?_
 refine goN ?_
 simp only [W, seval, b100, hn]
 refine callS_fn (sorted_ab j.keys (by omega) (N + 1) _ _ (by rw [← hn]; simp)) ?_
 rintro _ _ (⟨h0, rfl, rfl⟩ | ⟨cap, X, rfl, g1, g2, g3, rfl⟩)
 ·have hon : onceJ j.keys = true := by rw [h0]; rfl
  have hk0 : decide ((0 : Int) = (j.keys.length : Int)) = true := by rw [h0]; rfl
  cases hE : decide (j.keys.length = j.items.length)
  ·rw [Bool.false_and]
   refine goN ?_
   simp only [W, seval, b100, hn]
   refine drXA 24 [] [N] ?_
   simp (maxSteps := 4000000) only [W, seval, b100, xw, hn, hll, hpE, hE]
   refine goN ?_
   simp only [W, seval, b100, hn]
   refine retN b100 (Left.box ?_)
   exact ⟨rfl, rfl⟩
  ·rw [hon, Bool.true_and, Bool.true_and]
   refine goN ?_
   simp only [W, seval, b100, hn]
   refine drXA 24 [] [N] ?_
   simp (maxSteps := 4000000) only [W, seval, b100, xw, hn, hll, hpE, hE]
   refine callX_fn (fun Z => compactZ_ab _) ?_
   simp (maxSteps := 4000000) only [W, seval, b100, xw, hn, hll, List.length_nil, hk0]
   refine callX_fn (fun Z => hcf _) ?_
   simp (maxSteps := 4000000) only [W, seval, b100, xw, hn, hll, hall]
   refine goN ?_
   simp only [W, seval, b100, hn]
   refine retN b100 (Left.box ?_)
   exact ⟨rfl, rfl⟩
 ·obtain ⟨zs, hzs⟩ : ∃ zs, (j.keys.mergeSort fun x y => decide (x ≤ y)) = zs := ⟨_, rfl⟩
  have hzl : zs.length = j.keys.length := by rw [← hzs]; simp
  have hon := compact_once j.keys
  rw [hzs] at hon g3
  have hco : decide (((Go.Lib.compact zs).length : Int) = (j.keys.length : Int)) = onceJ j.keys := by rw [← hon]; exact decide_eq_decide.2 (by omega)
  have hcp := compact_ab zs (N + 2) cap (B ++ [jsB j, [.d (.sl (ssD j.keys))], X]) T X (by rw [← hn]; simp) g2 (by rw [hzl]; exact g3)
  rw [hzl] at hcp
  unfold jsB at hcp
  cases hE : decide (j.keys.length = j.items.length)
  ·rw [Bool.false_and]
   refine goN ?_
   simp only [W, seval, b100, hn]
   refine drXA 24 [] [N] ?_
   simp (maxSteps := 4000000) only [W, seval, b100, xw, hn, hll, hpE, hE]
   refine goN ?_
   simp only [W, seval, b100, hn]
   refine retN b100 (Left.box ?_)
   exact ⟨rfl, rfl⟩
  ·rw [Bool.true_and]
   cases ho : onceJ j.keys
   ·rw [Bool.false_and]
    refine goN ?_
    simp only [W, seval, b100, hn]
    refine drXA 24 [] [N] ?_
    simp (maxSteps := 4000000) only [W, seval, b100, xw, hn, hll, hpE, hE]
    refine callX_0 ⟨_, _, rfl, X, rfl⟩ hcp ?_
    rintro _ _ ⟨rfl, Y, rfl⟩
    simp (maxSteps := 4000000) only [W, seval, b100, xw, hn, hll, hco, ho, bxS]
    refine goN ?_
    simp only [W, seval, b100, hn]
    refine retN b100 (Left.box ?_)
    exact ⟨rfl, rfl⟩
   ·rw [Bool.true_and]
    refine goN ?_
    simp only [W, seval, b100, hn]
    refine drXA 24 [] [N] ?_
    simp (maxSteps := 4000000) only [W, seval, b100, xw, hn, hll, hpE, hE]
    refine callX_0 ⟨_, _, rfl, X, rfl⟩ hcp ?_
    rintro _ _ ⟨rfl, Y, rfl⟩
    simp (maxSteps := 4000000) only [W, seval, b100, xw, hn, hll, hco, ho, bxS]
    refine callX_fn (fun Z => hcf _) ?_
    simp (maxSteps := 4000000) only [W, seval, b100, xw, hn, hll, hall]
    refine goN ?_
    simp only [W, seval, b100, hn]
    refine retN b100 (Left.box ?_)
    exact ⟨rfl, rfl⟩
def RgJ (j : JsT) : Prop := ∀ d : Nat, d ≤ 32 → SmK j → ∀ (B : List (List V)) (T : List (Nat × Nat)), AFn Tryz.prog TabI 89 [jsV j, .d (.int .i64 (d : Int))] ⟨B, T⟩ (Same (.d (.bool (rgtJ allT d j))) ⟨B, T⟩)
theorem rgtJ_step (u : List UInt8 → Bool) (d : Nat) (j : JsT) : rgtJ u d j = (bareJ u j.kind j.int j.text j.items && (keysJ u j.kind j.items.length j.keys && (!(decide (32 ≤ d) && (decide (j.kind = 5) || decide (j.kind = 6))) && rgtJs u (d + 1) j.items))) := by
 cases j
 rw [rgtJ]
 rfl
theorem rgtJs_all (u : List UInt8 → Bool) (d : Nat) : ∀ l : List JsT, rgtJs u d l = l.all (rgtJ u d)
 | [] => by rw [rgtJs]; rfl
 | x :: l => by rw [rgtJs, rgtJs_all u d l]; rfl
theorem right1_abJ (x : JsT) (hx : RgJ x) (d : Nat) (hd : d + 1 ≤ 32) (hs : SmK x) (c : Nat) (B : List (List V)) (T : List (Nat × Nat)) (hc : B[c]? = some [.d (.int .i64 (d : Int))]) : AFn Tryz.prog TabI 102 [jsV x, .ptr c 0] ⟨B, T⟩ (Same (.d (.bool (!rgtJ allT (d + 1) x))) ⟨B, T⟩) := by
 obtain ⟨N, hn⟩ : ∃ N, B.length = N := ⟨_, rfl⟩
 have hx := hx (d + 1) hd hs
 have hw := wrap_in ((d : Int) + 1) (by omega)
 have hlt := (List.getElem?_eq_some_iff.1 hc).1
 have hc2 : ∀ Y : List V, (B ++ [Y])[c]? = some [.d (.int .i64 (d : Int))] := fun Y => by rw [List.getElem?_append_left hlt]; exact hc
 unfold jsV at hx ⊢
 refine enS b102 fun hsm => ?_
 simp only [smw] at hsm
 simp only [W, seval, b102, hn, hc2, hw]
 refine callN (hx _ _) ?_
 refine goN ?_
 simp only [W, seval, b102, hn]
 refine retN b102 (Left.box ?_)
 exact ⟨rfl, rfl⟩
set_option maxHeartbeats 8000000 in
theorem rgt_step (j : JsT) (h : ∀ x ∈ j.items, RgJ x) : RgJ j := by
 intro d hd hs B T
 obtain ⟨N, hn⟩ : ∃ N, B.length = N := ⟨_, rfl⟩
 obtain ⟨htl, hks, hkl, hil, hit⟩ := (smK_iff j).1 hs
 have hb := fun S => bare_abJ j htl S
 have hk := fun S => keyed_ab j hs S
 rw [rgtJ_step]
 unfold jsV at hb hk ⊢
 refine enS b89 fun hsm => ?_
 simp only [smw] at hsm
 simp only [W, seval, b89, hn]
 refine callN (hb _) ?_
 cases hbb : bareJ allT j.kind j.int j.text j.items
 ·refine goN ?_
  simp only [W, seval, b89, hn, hbb]
  refine retN b89 (Left.box ?_)
  exact ⟨rfl, rfl⟩
 refine goN ?_
 simp only [W, seval, b89, hn, hbb]
 refine callN (hk _) ?_
 cases hkk : keysJ allT j.kind j.items.length j.keys
 ·refine goN ?_
  simp only [W, seval, b89, hn, hkk]
  refine retN b89 (Left.box ?_)
  exact ⟨rfl, rfl⟩
 rw [Bool.true_and]
 have e1 : decide ((32 : Int) ≤ (d : Int)) = decide (32 ≤ d) := decide_eq_decide.2 (by omega)
 have hrest : ∀ (hok : (decide (32 ≤ d) && (decide (j.kind = 5) || decide (j.kind = 6))) = false) (S : Mem) (hc : S.boxes[N + 1]? = some [.d (.int .i64 (d : Int))]), AFn Tryz.prog TabI 101 [.d (.sl (j.items.map jsD)), .func 102 [] [.ptr (N + 1) 0]] S (Same (.d (.bool (j.items.any fun x => !rgtJ allT (d + 1) x))) S) := by
  intro hok S hc
  refine containsP_j 102 [] [.ptr (N + 1) 0] (fun x => !rgtJ allT (d + 1) x) j.items (by omega) S fun x hx => ?_
  have hd1 : d + 1 ≤ 32 := by
   by_cases h32 : 32 ≤ d
   ·rw [decide_eq_true h32, Bool.true_and] at hok
    have n5 : ¬ j.kind = 5 := fun e => by simp [e] at hok
    have n6 : ¬ j.kind = 6 := fun e => by simp [e] at hok
    exfalso
    unfold bareJ at hbb
    have hne : j.items.isEmpty = false := by
     cases hl : j.items with
     | nil => rw [hl] at hx; exact absurd hx List.not_mem_nil
     | cons y l => rfl
    rw [hne] at hbb
    simp [n5, n6] at hbb
   ·omega
  exact right1_abJ x (h x hx) d hd1 (hit x hx) (N + 1) S.boxes S.toks hc
 have hall := any_notS (rgtJ allT (d + 1)) j.items
 rw [rgtJs_all]
 cases h32 : decide (32 ≤ d)
 ·have hr := hrest (by rw [h32]; rfl)
  rw [Bool.false_and, Bool.not_false, Bool.true_and]
  refine goN ?_
  simp only [W, seval, b89, hn, hkk, e1, h32]
  refine callN (hr _ (by rw [← hn]; simp)) ?_
  refine goN ?_
  simp only [W, seval, b89, hn, hall]
  refine retN b89 (Left.box ?_)
  exact ⟨rfl, rfl⟩
 cases h5 : decide (j.kind = 5)
 ·cases h6 : decide (j.kind = 6)
  ·have hr := hrest (by rw [h32, h5, h6]; rfl)
   refine goN ?_
   simp only [W, seval, b89, hn, hkk, e1, h32, h5, h6]
   refine callN (hr _ (by rw [← hn]; simp)) ?_
   refine goN ?_
   simp only [W, seval, b89, hn, hall]
   refine retN b89 (Left.box ?_)
   exact ⟨rfl, rfl⟩
  ·refine goN ?_
   simp only [W, seval, b89, hn, hkk, e1, h32, h5, h6]
   refine retN b89 (Left.box ?_)
   exact ⟨rfl, rfl⟩
 ·refine goN ?_
  simp only [W, seval, b89, hn, hkk, e1, h32, h5]
  refine retN b89 (Left.box ?_)
  exact ⟨rfl, rfl⟩
mutual
theorem rgt_ab : ∀ j : JsT, RgJ j
 | .mk _ _ _ l _ => rgt_step _ (rgt_all l)
theorem rgt_all : ∀ (l : List JsT), ∀ x ∈ l, RgJ x
 | [], _, h => absurd h List.not_mem_nil
 | y :: l, x, h => by
  rcases List.mem_cons.1 h with e | e
  ·rw [e]; exact rgt_ab y
  ·exact rgt_all l x e
end
theorem jright_ab (j : JsT) (hs : SmJ j) (S : Mem) : AFn Tryz.prog TabI 73 [jsV j] S (Same (.d (.bool (rjJ j))) S) := by
 obtain ⟨B, T⟩ := S
 obtain ⟨N, hn⟩ : ∃ N, B.length = N := ⟨_, rfl⟩
 have hr := rgt_ab j 0 (by omega) hs.1
 unfold rjJ
 unfold jsV at hr ⊢
 refine enS b73 fun hsm => ?_
 simp only [smw] at hsm
 simp only [W, seval, b73, hn]
 refine callN (hr _ _) ?_
 refine goN ?_
 simp only [W, seval, b73, hn]
 refine retN b73 (Left.box ?_)
 exact ⟨rfl, rfl⟩
theorem jsOkP : JsOk 73 74 rjJ zjJ := ⟨fun j S hs => jright_ab j hs S, none_abJ⟩
set_option linter.defProp false
def b6 := KB Tryz.func6 24
def b8 := KB Tryz.func8 34
section
variable (kids : Nat → List Int) (nm : Int → Bool) (n : Nat)
theorem met_up : ∀ (f a d : Nat), 0 ≤ metW kids nm n f a d → a < (metW kids nm n f a d).toNat ∧ (metW kids nm n f a d).toNat ≤ n ∧ ∀ i, a ≤ i → i < (metW kids nm n f a d).toNat → ∀ k ∈ kids i, (i : Int) < k ∨ nm k = true
 | 0, a, d, h => absurd h (by simp [metW])
 | f + 1, a, d, h => by
  unfold metW at h ⊢
  by_cases hc : n ≤ a ∨ 32 < d
  ·rw [if_pos hc] at h
   exact absurd h (by decide)
  rw [if_neg hc] at h ⊢
  have hlist : ∀ (l : List Int) (next : Nat), next ≤ n → 0 ≤ metL nm (fun k => metW kids nm n f k (d + 1)) next l →
   next ≤ (metL nm (fun k => metW kids nm n f k (d + 1)) next l).toNat ∧ (metL nm (fun k => metW kids nm n f k (d + 1)) next l).toNat ≤ n ∧ (∀ k ∈ l, (next : Int) ≤ k ∨ nm k = true) ∧
   ∀ i, next ≤ i → i < (metL nm (fun k => metW kids nm n f k (d + 1)) next l).toNat → ∀ k ∈ kids i, (i : Int) < k ∨ nm k = true := by
   intro l
   induction l with
   | nil =>
    intro next hn _
    unfold metL
    exact ⟨by simp, by simpa using hn, (fun _ h => nomatch h), fun i h1 h2 => by simp at h2; omega⟩
   | cons k l ih =>
    intro next hn hm
    unfold metL at hm ⊢
    by_cases hk : k = (next : Int)
    ·rw [if_pos hk] at hm ⊢
     by_cases hg : metW kids nm n f next (d + 1) < 0
     ·rw [if_pos hg] at hm
      exact absurd hm (by decide)
     rw [if_neg hg] at hm ⊢
     obtain ⟨p1, p2, p3⟩ := met_up f next (d + 1) (by omega)
     obtain ⟨q1, q2, q3, q4⟩ := ih _ p2 hm
     refine ⟨by omega, q2, fun j hj => ?_, fun i h1 h2 => ?_⟩
     ·rcases List.mem_cons.1 hj with rfl | hj
      ·exact .inl (by omega)
      ·exact (q3 j hj).imp (fun h => by omega) id
     ·by_cases hi : i < (metW kids nm n f next (d + 1)).toNat
      ·exact p3 i h1 hi
      ·exact q4 i (by omega) h2
    ·rw [if_neg hk] at hm ⊢
     by_cases hb : (decide (k < 0) || (decide ((next : Int) < k) || !nm k)) = true
     ·rw [if_pos hb] at hm
      exact absurd hm (by decide)
     rw [if_neg hb] at hm ⊢
     obtain ⟨q1, q2, q3, q4⟩ := ih next hn hm
     refine ⟨q1, q2, fun j hj => ?_, q4⟩
     rcases List.mem_cons.1 hj with rfl | hj
     ·simp at hb
      exact .inr hb.2.2
     ·exact q3 j hj
  obtain ⟨q1, q2, q3, q4⟩ := hlist (kids a) (a + 1) (by omega) h
  refine ⟨by omega, q2, fun i h1 h2 => ?_⟩
  by_cases e : i = a
  ·subst e; exact fun k hk => (q3 k hk).imp (fun h => by omega) id
  ·exact q4 i (by omega) h2
end
theorem arr_ord {s : ScT} (h : orderedN s = true) : ∀ f a, a < s.nodes.length → s.nodes.length + 1 ≤ a + f → ArrN s.nodes f a
 | 0, a, h1, h2 => by omega
 | f + 1, a, h1, h2 => by
  refine ⟨h1, fun h11 => ?_⟩
  have hk : (ndN s.nodes a).items ∈ kidsA s.nodes a := by
   unfold kidsA kidsN
   rw [h11, if_neg (by decide), if_pos (by decide)]
   exact List.mem_singleton.2 rfl
  obtain ⟨r0, r1⟩ := (ordered_kids h).2 a h1 _ hk
  have hu : (a : Int) < (ndN s.nodes a).items ∨ nmN s.nodes (ndN s.nodes a).items = true := by
   unfold orderedN at h
   simp only [Bool.and_eq_true, decide_eq_true_eq] at h
   obtain ⟨h0, h1', h2', h3⟩ := h
   obtain ⟨p1, p2, p3⟩ := met_up (kidsA s.nodes) (nmN s.nodes) s.nodes.length (s.nodes.length + 1) 0 0 (by show 0 ≤ metN s.nodes (s.nodes.length + 1) 0 0; omega)
   refine p3 a (Nat.zero_le _) ?_ _ hk
   show a < (metN s.nodes (s.nodes.length + 1) 0 0).toNat
   rw [h3]
   simpa using h1
  refine ⟨r0, ?_⟩
  rcases hu with hu | hu
  ·exact arr_ord h f _ (by omega) (by omega)
  ·obtain ⟨g, rfl⟩ : ∃ g, f = g + 1 := ⟨f - 1, by omega⟩
   refine ⟨by omega, fun hc => ?_⟩
   unfold nmN namedB at hu
   rw [hc] at hu
   exact absurd hu (by decide)
def OfR (s : ScT) (i : Int) : V := if (decide (i < 0) || (decide ((s.nodes.length : Int) ≤ i) || !rightP rjJ zjJ s)) = true then .tup [tyV (.mk 0 [] []), .d (.int .i64 2)] else .tup [tyV (tyN s.nodes (s.nodes.length + 1) i.toNat), .d (.int .i64 0)]
theorem rightP_ord {s : ScT} (h : rightP rjJ zjJ s = true) : orderedN s = true := by
 unfold rightP at h
 exact ((Bool.and_eq_true _ _).mp h).1
theorem gright_ab (s : ScT) (hs : SmS s) (B : List (List V)) (T : List (Nat × Nat)) : AFn Tryz.prog TabI 13 [scV s] ⟨B, T⟩ (Same (.d (.bool (rightP rjJ zjJ s))) ⟨B, T⟩) :=
 sright_ab jsOkP s hs (fun n h => by have := (hs.2 n h).1.2.2; omega) B T
set_option maxHeartbeats 8000000 in
theorem gOf_ab (s : ScT) (hs : SmS s) (i : Int) (B : List (List V)) (T : List (Nat × Nat)) : AFn Tryz.prog TabI 6 [scV s, .d (.int .i64 i)] ⟨B, T⟩ (Same (OfR s i) ⟨B, T⟩) := by
 obtain ⟨N, hn⟩ : ∃ N, B.length = N := ⟨_, rfl⟩
 have hr := fun B T => gright_ab s hs B T
 unfold OfR scV at *
 cases e1 : decide (i < 0)
 case true =>
  rw [Bool.true_or, if_pos rfl]
  refine enS b6 fun hsm => ?_
  simp only [smw] at hsm
  simp only [W, seval, b6, hn, e1]
  refine ret2A b6 (Left.box ?_)
  exact ⟨rfl, rfl⟩
 cases e2 : decide ((s.nodes.length : Int) ≤ i)
 case true =>
  rw [Bool.false_or, Bool.true_or, if_pos rfl]
  refine enS b6 fun hsm => ?_
  simp only [smw] at hsm
  simp only [W, seval, b6, hn, e1, e2, List.length_map]
  refine ret2A b6 (Left.box ?_)
  exact ⟨rfl, rfl⟩
 cases e3 : rightP rjJ zjJ s
 ·rw [Bool.false_or, Bool.false_or, Bool.not_false, if_pos rfl]
  rw [e3] at hr
  refine enS b6 fun hsm => ?_
  simp only [smw] at hsm
  simp only [W, seval, b6, hn, e1, e2, List.length_map]
  refine callN (hr _ _) ?_
  refine goN ?_
  simp only [W, seval, b6, hn]
  refine ret2A b6 (Left.box ?_)
  exact ⟨rfl, rfl⟩
 ·rw [Bool.false_or, Bool.false_or, Bool.not_true, if_neg (by decide)]
  rw [e3] at hr
  have h1 := of_decide_eq_false e1
  have h2 := of_decide_eq_false e2
  have ho := rightP_ord e3
  have hof := fun B T => gof_ab s.nodes s.root hs.2 (ordered_kids ho).1 (s.nodes.length + 1) i.toNat (arr_ord ho _ _ (by omega) (by omega)) B T
  rw [Int.toNat_of_nonneg (by omega)] at hof
  unfold tyV at hof ⊢
  refine enS b6 fun hsm => ?_
  simp only [smw] at hsm
  simp only [W, seval, b6, hn, e1, e2, List.length_map]
  refine callN (hr _ _) ?_
  refine goN ?_
  simp only [W, seval, b6, hn]
  refine callN (hof _ _) ?_
  refine goN ?_
  simp only [W, seval, b6, hn]
  refine ret2A b6 (Left.box ?_)
  exact ⟨rfl, rfl⟩
def StR (s : ScT) : V := if rightP rjJ zjJ s = true then .tup [.d (.sl ((strsN nameL numL s.nodes (s.nodes.length + 1) (List.range s.nodes.length)).map suD)), .d (.int .i64 0)] else .tup [.d (.sl []), .d (.int .i64 2)]
def suN (l : List NdT) (f i : Nat) : List SuT := strsN nameL numL l f (List.range i)
theorem strsN_app (l : List NdT) (f : Nat) : ∀ us vs : List Nat, strsN nameL numL l f (us ++ vs) = strsN nameL numL l f us ++ strsN nameL numL l f vs
 | [], _ => rfl
 | a :: us, vs => by
  rw [List.cons_append, strsN, strsN, strsN_app l f us vs]
  split <;> rfl
theorem suN_yes {l : List NdT} {f i : Nat} (h : hasN (ndN l i) = true) : suN l f (i + 1) = suN l f i ++ [⟨snN l i, fldsN l f i⟩] := by
 unfold suN
 rw [List.range_succ, strsN_app, strsN, if_pos h]
 rfl
theorem suN_no {l : List NdT} {f i : Nat} (h : hasN (ndN l i) = false) : suN l f (i + 1) = suN l f i := by
 unfold suN
 rw [List.range_succ, strsN_app, strsN, if_neg (by rw [h]; decide)]
 exact List.append_nil _
theorem suN_len (l : List NdT) (f : Nat) : ∀ i, (suN l f i).length ≤ i
 | 0 => Nat.le_refl _
 | i + 1 => by
  have := suN_len l f i
  cases h : hasN (ndN l i)
  ·rw [suN_no h]; omega
  ·rw [suN_yes h, List.length_append]; simp; omega
theorem suD_snoc (l : List SuT) (s : List UInt8) (fs : List PaT) : l.map suD ++ [[.str s, .sl (fs.map paD)]] = (l ++ [(⟨s, fs⟩ : SuT)]).map suD := by simp [suD]
theorem kids_ord {s : ScT} (ho : orderedN s = true) (a : Nat) (ha : a < s.nodes.length) : ∀ k ∈ kidsN (ndN s.nodes a), 0 ≤ k ∧ ArrN s.nodes (s.nodes.length + 1) k.toNat := fun k hk => by
 obtain ⟨h1, h2⟩ := (ordered_kids ho).2 a ha k hk
 exact ⟨h1, arr_ord ho _ _ (by omega) (by omega)⟩
set_option maxHeartbeats 8000000 in
theorem gStructs_ab (s : ScT) (hs : SmS s) (B : List (List V)) (T : List (Nat × Nat)) : AFn Tryz.prog TabI 8 [scV s] ⟨B, T⟩ (Same (StR s) ⟨B, T⟩) := by
 obtain ⟨N, hn⟩ : ∃ N, B.length = N := ⟨_, rfl⟩
 obtain ⟨M, hM⟩ : ∃ M, T.length = M := ⟨_, rfl⟩
 have hr := fun B T => gright_ab s hs B T
 unfold StR scV at *
 cases e3 : rightP rjJ zjJ s
 ·rw [if_neg (by decide)]
  rw [e3] at hr
  refine enS b8 fun hsm => ?_
  simp only [smw] at hsm
  simp only [W, seval, b8, hn]
  refine callN (hr _ _) ?_
  refine goN ?_
  simp only [W, seval, b8, hn]
  refine retN b8 (Left.box ?_)
  exact ⟨rfl, rfl⟩
 rw [if_pos rfl]
 rw [e3] at hr
 have ho := rightP_ord e3
 have hl := (ordered_kids ho).1
 have hk := kids_ord ho
 have hss := hs.2
 obtain ⟨l, root⟩ := s
 dsimp only at *
 obtain ⟨f, hf0⟩ : ∃ f, l.length + 1 = f := ⟨_, rfl⟩
 rw [hf0] at hk ⊢
 rw [show strsN nameL numL l f (List.range l.length) = suN l f l.length from rfl]
 refine enS b8 fun hsm => ?_
 simp only [smw] at hsm
 simp only [W, seval, b8, hn]
 refine callN (hr _ _) ?_
 refine goN ?_
 simp only [W, seval, b8, hn]
 refine ARun.token 4 [] (by rfl) 2 (by omega) rfl ?_
 simp only [envS_put, hM]
 refine goN ?_
 simp only [W, seval, b8, hn, List.length_map]
 refine ARun.fits fun hf => ?_
 refine ARun.loopA (fun i : Nat => (envS 34 [(1, .ptr N 0), (4, .sl ((suN l f i).map suD) (.own M)), (13, .d (.int .i64 l.length)), (14, .d (.int .i64 (i : Int)))], ⟨B ++ [[.d (.sl (l.map ndD)), .d (.int .i64 root)]], T ++ [((suN l f i).length, 2)]⟩)) (fun i => i ≤ l.length) (fun i => l.length - i) 0 (by omega) envA rfl ?_
 rintro i h1 ih
 dsimp only at h1 ih ⊢
 by_cases hlt : i < l.length
 case neg =>
  have e2 : decide ((i : Int) < (l.length : Int)) = false := decide_eq_false (by omega)
  obtain rfl : i = l.length := by omega
  refine goN ?_
  simp only [W, seval, b8, hn, e2]
  refine retN b8 (Left.all ?_)
  refine ⟨?_, rfl⟩
  clear ih
  simp only [fnw, seval]
  simp [hM, wk, wkL]
 have e2 : decide ((i : Int) < (l.length : Int)) = true := decide_eq_true (by omega)
 have hw := wrap_in ((i : Int) + 1) (by omega)
 have hfl := fun B T => gflds_ab l root hss hl f i hlt (hk i hlt) B T
 have hsn := fun B T => sname_ab l root hss hl i hlt B T
 have hle := suN_len l f i
 have hB0 : ∀ L : List (List V), ∀ q, (⟨L, T ++ [q]⟩ : Mem) = ⟨L ++ [], (T ++ [q]) ++ []⟩ := fun L q => by simp
 unfold FlR at hfl
 cases hh : hasN (ndN l i)
 ·rw [hh, if_neg (by decide)] at hfl
  have hsu := suN_no (f := f) hh
  refine goN ?_
  simp only [W, seval, b8, hn, e2]
  refine callN (hfl _ _) ?_
  refine goN ?_
  simp only [W, seval, b8, hn, hw]
  rw [hB0]
  refine ih (i + 1) (by omega) (by omega) _ _ _ _ _ (by rw [hsu]) ⟨by simp; omega, by simp; omega⟩ (hf.toks (by simp)) ?_
  refine AgreeF.env _ ?_
  simp only [agf, seval, hn, hsu]
  exact ⟨decide_eq_true (by simp; omega), decide_eq_true (by simp; omega)⟩
 ·rw [hh, if_pos rfl] at hfl
  have hsu := suN_yes (f := f) hh
  obtain ⟨sn, hsn0⟩ : ∃ n, snN l i = n := ⟨_, rfl⟩
  obtain ⟨fl, hfl0⟩ : ∃ n, fldsN l f i = n := ⟨_, rfl⟩
  rw [hsn0] at hsn hsu
  rw [hfl0] at hfl hsu
  have hcap : ((suN l f i).length + 1) * 40 ≤ 140737488355328 := by omega
  have hr2 : rowsSz 2 [[D.str sn, .sl (fl.map paD)]] = true := rfl
  have hlen : ((suN l f i).map suD).length = (suN l f i).length := List.length_map _
  refine goN ?_
  simp only [W, seval, b8, hn, e2]
  refine callN (hfl _ _) ?_
  refine goN ?_
  simp only [W, seval, b8, hn]
  refine callN (hsn _ _) ?_
  refine goN ?_
  simp only [W, seval, b8, hn, hM, hcap, hr2, hw, suD_snoc, Nat.reduceMul, mapX_nil, mapX_cons, mapX_sl, List.length_map, ← hsu]
  rw [hB0]
  refine ih (i + 1) (by omega) (by omega) _ _ _ _ _ (by rw [hsu]; simp) ⟨by simp; omega, by simp; omega⟩ (hf.toks (by simp)) ?_
  refine AgreeF.env _ ?_
  simp only [agf, seval, hn]
  exact ⟨decide_eq_true (by simp; omega), decide_eq_true (by simp; omega)⟩
def b38 := KB Tryz.func38 84
theorem sumK_take (v : Nat → Int) (l : List Nat) (k : Nat) (h : k < l.length) : sumK v (l.take (k + 1)) = sumK v (l.take k) + v l[k] := by
 rw [List.take_succ_eq_append_getElem h]
 generalize l.take k = a
 induction a with
 | nil => simp [sumK]
 | cons x a ih => simp only [List.cons_append, sumK]; omega
theorem sumK_split (v : Nat → Int) (l : List Nat) (k : Nat) : sumK v l = sumK v (l.take k) + sumK v (l.drop k) := by
 conv => lhs; rw [← List.take_append_drop k l]
 generalize l.take k = a
 induction a with
 | nil => simp [sumK]
 | cons x a ih => simp only [List.cons_append, sumK]; omega
set_option maxHeartbeats 16000000 in
theorem weights_ab (l : List NdT) (root : Int) (hs : ∀ n ∈ l, SmN n) (hl : l.length ≤ 200) (hE : ∀ a, a < l.length → (ndN l a).kind = 9 → ∀ x ∈ (ndN l a).fields, 0 ≤ x.type ∧ x.type < (l.length : Int)) (B : List (List V)) (T : List (Nat × Nat)) :
 AFn Tryz.prog TabI 38 [.agg [.d (.sl (l.map ndD)), .d (.int .i64 root)]] ⟨B, T⟩ fun v S => ∃ lw, RndW (fN l) l.length lw ∧ stepW (fN l) l.length lw = lw ∧ v = .d (.sl (isD lw)) ∧ S = ⟨B, T⟩ := by
 obtain ⟨N, hn⟩ : ∃ N, B.length = N := ⟨_, rfl⟩
 obtain ⟨M, hM⟩ : ∃ M, T.length = M := ⟨_, rfl⟩
 have hE' : ∀ a, a < l.length → ∀ k ∈ fN l a, k < l.length := fun a ha k hk => by
  unfold fN at hk
  split at hk
  ·obtain ⟨x, hx, rfl⟩ := List.mem_map.1 hk
   have := hE a ha (by assumption) x hx
   omega
  ·cases hk
 refine enS b38 fun hsm => ?_
 simp only [smw] at hsm
 simp only [W, seval, b38, hn]
 refine ARun.token 3 [] (by rfl) 1 (by omega) rfl ?_
 simp only [envS_put, hM]
 refine ARun.thenW [_, _] _ (fun _ : Unit => (envS 84 [(1, .ptr N 0), (3, .d (.sl (isD (List.replicate l.length 1))))], ⟨B ++ [[.d (.sl (l.map ndD)), .d (.int .i64 root)]], T ++ [(l.length, 1)]⟩)) (fun _ => True) ?_ ?_
 ·intro _ _
  dsimp only
  obtain ⟨T0, hT0⟩ : ∃ T0, T ++ [(l.length, 1)] = T0 := ⟨_, rfl⟩
  have hTl : T.length + 1 = T0.length := by rw [← hT0]; simp
  rw [hT0]
  refine goN ?_
  simp only [W, seval, b38, hn]
  refine ARun.fits fun hf => ?_
  refine ARun.loopA (fun p : List Int × Bool => (envS 84 [(1, .ptr N 0), (3, .d (.sl (isD p.1))), (5, .d (.bool p.2))], ⟨B ++ [[.d (.sl (l.map ndD)), .d (.int .i64 root)]], T0⟩)) (fun p => RndW (fN l) l.length p.1 ∧ (p.2 = false → stepW (fN l) l.length p.1 = p.1)) (fun p => if p.2 = true then 1 + (1001 * l.length - sumI p.1).toNat else 0) (List.replicate l.length 1, true) ⟨.one, fun h => by cases h⟩ envA rfl ?_
  rintro ⟨lw, more⟩ ⟨h1, h2⟩ ih
  dsimp only at h1 h2 ih ⊢
  cases more
  ·refine goN ?_
   simp only [W, seval, b38, hn]
   rw [← hT0]
   refine retN b38 (Left.all ?_)
   exact ⟨lw, h1, h2 rfl, rfl, rfl⟩
  clear h2
  have hlw : lw.length = l.length := rnd_len h1
  have hpos := rnd_pos hE' h1
  refine goN ?_
  simp only [W, seval, b38, hn]
  refine ARun.token 6 [] (by rfl) 1 (by omega) rfl ?_
  simp only [envS_put]
  obtain ⟨Q, hQ⟩ : ∃ Q, T0.length = Q := ⟨_, rfl⟩
  rw [hQ]
  obtain ⟨sw, hsw⟩ : ∃ sw, stepW (fN l) l.length lw = sw := ⟨_, rfl⟩
  have hswl : sw.length = l.length := by rw [← hsw]; simp [stepW]
  refine ARun.loopW (fun p : Nat × Bool => (envS 84 [(1, .ptr N 0), (3, .d (.sl (isD lw))), (5, .d (.bool p.2)), (6, .sl (isD (sw.take p.1)) (.own Q)), (7, .d (.int .i64 (p.1 : Int)))], ⟨B ++ [[.d (.sl (l.map ndD)), .d (.int .i64 root)]], T0 ++ [(p.1, 1)]⟩)) (fun p => p.1 ≤ l.length ∧ p.2 = !decide (sw.take p.1 = lw.take p.1)) (fun p => l.length - p.1) (0, false) ⟨by omega, by simp⟩ envA rfl ?_
  rintro ⟨i, b⟩ ⟨g1, g2⟩ ih2
  dsimp only at g1 g2 ih2 ⊢
  by_cases hlt : i < l.length
  case neg =>
   have e2 : decide ((i : Int) < (l.length : Int)) = false := decide_eq_false (by omega)
   rw [List.take_of_length_le (by omega)] at g2 ⊢
   rw [List.take_of_length_le (by omega)] at g2
   refine goN ?_
   simp only [W, seval, b38, hn, e2]
   refine ARun.plainS 3 (isD sw) (.own Q) (by rfl) ?_
   simp only [envS_put]
   have hst : RndW (fN l) l.length sw := by rw [← hsw]; exact .step _ h1
   rw [show B ++ [[V.d (.sl (l.map ndD)), .d (.int .i64 root)]] = (B ++ [[V.d (.sl (l.map ndD)), .d (.int .i64 root)]]) ++ [] from (List.append_nil _).symm]
   refine ih (sw, b) ⟨hst, fun hb => ?_⟩ ?_ _ _ _ _ _ rfl ?_ hf ?_
   ·dsimp only at hb ⊢
    rw [hb] at g2
    have : sw = lw := by simpa using g2.symm
    rw [this] at hsw ⊢
    exact hsw
   ·dsimp only
    rw [if_pos rfl]
    cases b
    ·rw [if_neg (by decide)]
     omega
    ·have hne : stepW (fN l) l.length lw ≠ lw := by
      rw [hsw]
      intro h
      rw [h] at g2
      simp at g2
     have := rnd_less hE' h1 hne
     rw [hsw] at this
     rw [if_pos rfl]
     omega
   ·exact ⟨by simp; omega, by rw [← hT0]; simp; omega⟩
   ·skip
    refine AgreeF.env _ ?_
    simp only [agf, seval, hn]
    exact decide_eq_true (by simp; omega)
  have e2 : decide ((i : Int) < (l.length : Int)) = true := decide_eq_true (by omega)
  have hli : (i : Int) < (l.length : Int) := by omega
  have hg := nd_row (l := l) (m := (i : Int)) (by omega) (by omega)
  rw [ndD_eq] at hg
  simp only [Int.toNat_natCast] at hg
  have hw := wrap_in ((i : Int) + 1) (by omega)
  have hsn : SmN (ndN l i) := by rw [ndN_at hlt]; exact hs _ (List.getElem_mem hlt)
  have hEi := hE i hlt
  have hpk := fun k hk => hpos k (hE' i hlt k hk)
  have hr : gk sw i = min (1 + sumK (gk lw) (fN l i)) 1001 := by rw [← hsw, stepW_get _ _ hlt]
  obtain ⟨x, hx⟩ : ∃ x, ndN l i = x := ⟨_, rfl⟩
  rw [hx] at hg hsn hEi
  obtain ⟨F, hF⟩ : ∃ F, fN l i = F := ⟨_, rfl⟩
  have hF2 : F = if x.kind = 9 then x.fields.map (fun f => f.type.toNat) else [] := by rw [← hF]; unfold fN; rw [hx]
  rw [hF] at hr hpk
  refine goN ?_
  simp only [W, seval, b38, hn, e2]
  refine ARun.thenW [_, _] _ (fun m : Int => (envS 84 [(1, .ptr N 0), (3, .d (.sl (isD lw))), (5, .d (.bool b)), (6, .sl (isD (sw.take i)) (.own Q)), (7, .d (.int .i64 (i : Int))), (8, .d (.int .i64 m))], ⟨B ++ [[.d (.sl (l.map ndD)), .d (.int .i64 root)]], T0 ++ [(i, 1)]⟩)) (fun m => (if 1000 < m then 1001 else m) = gk sw i) ?_ ?_
  ·intro m hm
   dsimp only
   have hnx : sw.take (i + 1) = sw.take i ++ [gk sw i] := by rw [List.take_succ_eq_append_getElem (by omega)]; simp [gk, List.getD, hswl, hlt]
   have hnl : lw.take (i + 1) = lw.take i ++ [gk lw i] := by rw [List.take_succ_eq_append_getElem (by omega)]; simp [gk, List.getD, hlw, hlt]
   have hcell : (isD lw)[i]? = some [.int .i64 (gk lw i)] := by rw [isD_at (by omega)]; simp [gk, List.getD, hlw, hlt]
   have hcap : (i + 1) * 8 ≤ 140737488355328 := by omega
   have hr1 : rowsSz 1 [[D.int .i64 (gk sw i)]] = true := rfl
   have htl : (sw.take i).length = i := by simp; omega
   have hlen := isD_len lw
   have hbe : (!decide (sw.take (i + 1) = lw.take (i + 1))) = (b || !decide (gk sw i = gk lw i)) := by
    rw [g2, hnx, hnl, ← Bool.not_and]
    congr 1
    rw [Bool.eq_iff_iff, Bool.and_eq_true, decide_eq_true_iff, decide_eq_true_iff, decide_eq_true_iff]
    exact ⟨fun h => by have := List.append_inj' h rfl; exact ⟨this.1, by simpa using this.2⟩, fun h => by rw [h.1, h.2]⟩
   have hgl : gk sw i ≤ 1001 := by omega
   have hli2 : i < lw.length := by omega
   have hli3 : (i : Int) < (lw.length : Int) := by omega
   have hfin : ∀ m : Int, m = gk sw i → rowsSz 1 [[D.int .i64 m]] = true := fun _ _ => rfl
   by_cases hm1 : 1000 < m
   ·have e4 := decide_eq_true hm1
    rw [if_pos hm1] at hm
    rw [← hm] at hbe hnx hr1
    have hsn2 : isD (sw.take i) ++ [[D.int .i64 1001]] = isD (sw.take (i + 1)) := by rw [hnx, isD_snoc]
    cases b
    ·rw [Bool.false_or] at hbe
     refine goN ?_
     simp only [W, seval, b38, hn, e4, hlen, hcell, hli2, hli3, hQ, hcap, isD_len, htl, hsn2, Nat.reduceMul, mapX_nil, mapX_cons, hr1, hw]
     exact ih2 (i + 1, !decide ((1001 : Int) = gk lw i)) ⟨by omega, hbe.symm⟩ (by dsimp only; omega) _ _ envA rfl
    ·rw [Bool.true_or] at hbe
     refine goN ?_
     simp only [W, seval, b38, hn, e4, hlen, hcell, hli2, hli3, hQ, hcap, isD_len, htl, hsn2, Nat.reduceMul, mapX_nil, mapX_cons, hr1, hw]
     exact ih2 (i + 1, true) ⟨by omega, hbe.symm⟩ (by dsimp only; omega) _ _ envA rfl
   ·have e4 := decide_eq_false hm1
    rw [if_neg hm1] at hm
    rw [← hm] at hbe hnx hr1
    have hsn2 : isD (sw.take i) ++ [[D.int .i64 m]] = isD (sw.take (i + 1)) := by rw [hnx, isD_snoc]
    cases b
    ·rw [Bool.false_or] at hbe
     refine goN ?_
     simp only [W, seval, b38, hn, e4, hlen, hcell, hli2, hli3, hQ, hcap, isD_len, htl, hsn2, Nat.reduceMul, mapX_nil, mapX_cons, hr1, hw]
     exact ih2 (i + 1, !decide (m = gk lw i)) ⟨by omega, hbe.symm⟩ (by dsimp only; omega) _ _ envA rfl
    ·rw [Bool.true_or] at hbe
     refine goN ?_
     simp only [W, seval, b38, hn, e4, hlen, hcell, hli2, hli3, hQ, hcap, isD_len, htl, hsn2, Nat.reduceMul, mapX_nil, mapX_cons, hr1, hw]
     exact ih2 (i + 1, true) ⟨by omega, hbe.symm⟩ (by dsimp only; omega) _ _ envA rfl
  ·intro K' hK
   have hfl : x.fields.length ≤ 2500 := hsn.2.1
   have hlen := isD_len lw
   refine ARun.loopW (fun p : Nat × Int => (envS 84 [(1, .ptr N 0), (3, .d (.sl (isD lw))), (5, .d (.bool b)), (6, .sl (isD (sw.take i)) (.own Q)), (7, .d (.int .i64 (i : Int))), (8, .d (.int .i64 p.2)), (9, .d (.int .i64 (p.1 : Int)))], ⟨B ++ [[.d (.sl (l.map ndD)), .d (.int .i64 root)]], T0 ++ [(i, 1)]⟩)) (fun p => p.1 ≤ x.fields.length ∧ 1 ≤ p.2 ∧ p.2 ≤ 2001 ∧ (x.kind = 9 → p.2 = 1 + sumK (gk lw) (F.take p.1)) ∧ (¬ x.kind = 9 → p.2 = 1)) (fun p => x.fields.length - p.1) (0, 1) ⟨by omega, Int.le_refl 1, show (1 : Int) ≤ 2001 by decide, fun _ => by simp [sumK], fun _ => rfl⟩ envA rfl ?_
   rintro ⟨k, m⟩ ⟨f1, f2, f3, f4, f5⟩ ih3
   dsimp only at f1 f2 f3 f4 f5 ih3 ⊢
   have hnn : 0 ≤ sumK (gk lw) (F.drop k) := sumK_nn _ _ fun q hq => by
    have := (hpk q (List.mem_of_mem_drop hq)).1
    omega
   have hsp := sumK_split (gk lw) F k
   have hend : (k = x.fields.length ∨ ¬ x.kind = 9 ∨ ¬ m ≤ 1000) → (if 1000 < m then 1001 else m) = gk sw i := fun h => by
    rw [hr]
    by_cases k9 : x.kind = 9
    ·have f4 := f4 k9
     rcases h with h | h | h
     ·have hz : F.drop k = [] := List.drop_eq_nil_of_le (by rw [hF2, if_pos k9, List.length_map]; omega)
      rw [hz, sumK] at hsp
      split <;> omega
     ·exact absurd k9 h
     ·rw [if_pos (by omega)]
      omega
    ·have hz : F = [] := by rw [hF2, if_neg k9]
     rw [hz, f5 k9, sumK]
     decide
   by_cases hlt3 : k < x.fields.length
   case neg =>
    have e3 : decide ((k : Int) < (x.fields.length : Int)) = false := decide_eq_false (by omega)
    refine goXN ?_
    simp only [W, seval, b38, hn, hg, hli, hlt, e3]
    exact hK m (hend (.inl (by omega))) _ _ envA rfl
   have e3 : decide ((k : Int) < (x.fields.length : Int)) = true := decide_eq_true (by omega)
   by_cases k9 : x.kind = 9
   case neg =>
    have e4 := decide_eq_false k9
    refine goXN ?_
    simp only [W, seval, b38, hn, hg, hli, hlt, e3, e4]
    exact hK m (hend (.inr (.inl k9))) _ _ envA rfl
   have e4 := decide_eq_true k9
   by_cases hm1 : m ≤ 1000
   case neg =>
    have e5 := decide_eq_false hm1
    refine goXN ?_
    simp only [W, seval, b38, hn, hg, hli, hlt, e3, e4, e5]
    exact hK m (hend (.inr (.inr hm1))) _ _ envA rfl
   have e5 := decide_eq_true hm1
   have hgf := List.getElem?_eq_getElem hlt3
   have hyE := hEi k9 _ (List.getElem_mem hlt3)
   have hFl : k < F.length := by rw [hF2, if_pos k9, List.length_map]; exact hlt3
   have hFk : F[k] = x.fields[k].type.toNat := by simp only [hF2, if_pos k9, List.getElem_map]
   have hst := sumK_take (gk lw) F k hFl
   rw [hFk] at hst
   have hk3 : (k : Int) < (x.fields.length : Int) := by omega
   obtain ⟨y, hyy⟩ : ∃ y, x.fields[k] = y := ⟨_, rfl⟩
   rw [hyy] at hgf hyE hst
   obtain ⟨j, hj⟩ : ∃ j : Nat, y.type = (j : Int) := ⟨y.type.toNat, by omega⟩
   rw [hj, Int.toNat_natCast] at hst
   rw [hj] at hyE
   have hjl : j < lw.length := by omega
   have hjl2 : (j : Int) < (lw.length : Int) := by omega
   have hcell : (isD lw)[j]? = some [.int .i64 (gk lw j)] := by rw [isD_at hjl]; simp [gk, List.getD, hjl]
   have hpj := hpos j (by omega)
   have hw3 := wrap_in ((k : Int) + 1) (by omega)
   have hwm := wrap_in (m + gk lw j) (by omega)
   refine goXN ?_
   simp only [W, seval, b38, hn, hg, hli, hlt, e3, e4, e5, hgf, List.getElem?_map, fdD_eq, hlt3, hk3, hj, hcell, hjl, hjl2, hlen, hw3, hwm]
   refine ih3 (k + 1, m + gk lw j) ⟨by omega, by dsimp only; omega, by dsimp only; omega, fun _ => ?_, fun h => absurd k9 h⟩ (by dsimp only; omega) _ _ ?_ rfl
   ·have := f4 k9
    dsimp only
    rw [hst]
    omega
   ·skip
    refine Agree.env _ ?_
    simp only [agw, seval, hn]
 ·intro K' hK
  refine ARun.loopW (fun i : Nat => (envS 84 [(1, .ptr N 0), (3, .sl (isD (List.replicate i 1)) (.own M)), (4, .d (.int .i64 (i : Int)))], ⟨B ++ [[.d (.sl (l.map ndD)), .d (.int .i64 root)]], T ++ [(i, 1)]⟩)) (fun i => i ≤ l.length) (fun i => l.length - i) 0 (by omega) envA rfl ?_
  rintro i h1 ih
  dsimp only at h1 ih ⊢
  by_cases hlt : i < l.length
  case neg =>
   have e2 : decide ((i : Int) < (l.length : Int)) = false := decide_eq_false (by omega)
   obtain rfl : i = l.length := by omega
   refine goXN ?_
   simp only [W, seval, b38, hn, e2]
   refine ARun.plainS 3 (isD (List.replicate l.length 1)) (.own M) (by rfl) ?_
   simp only [envS_put]
   exact hK () trivial _ _ envA rfl
  have e2 : decide ((i : Int) < (l.length : Int)) = true := decide_eq_true (by omega)
  have hw := wrap_in ((i : Int) + 1) (by omega)
  have hcap : (i + 1) * 8 ≤ 140737488355328 := by omega
  have hr1 : rowsSz 1 [[D.int .i64 1]] = true := rfl
  have hsu : List.replicate i (1 : Int) ++ [1] = List.replicate (i + 1) 1 := (List.replicate_succ' ..).symm
  refine goXN ?_
  simp only [W, seval, b38, hn, hM, e2, hcap, isD_snoc, isD_len, List.length_replicate, Nat.reduceMul, mapX_nil, mapX_cons, hr1, hsu, hw]
  exact ih (i + 1) (by omega) (by omega) _ _ envA rfl
def b86 := KB Tryz.func86 153
def b65 := KB Tryz.func65 8
def SfJ (j : JsT) : Prop := SmK j → ∀ (B : List (List V)) (T : List (Nat × Nat)), AFn Tryz.prog TabI 64 [jsV j, jsV j] ⟨B, T⟩ (Same (.d (.bool true)) ⟨B, T⟩)
set_option maxHeartbeats 4000000 in
theorem self_step (j : JsT) (h : ∀ x ∈ j.items, SfJ x) : SfJ j := by
 intro hs B T
 obtain ⟨N, hn⟩ : ∃ N, B.length = N := ⟨_, rfl⟩
 obtain ⟨htl, hks, hkl, hil, hit⟩ := (smK_iff j).1 hs
 have hll := ssD_len j.keys
 have e1 : decide (j.kind = j.kind) = true := decide_eq_true rfl
 have e2 : decide (j.int = j.int) = true := decide_eq_true rfl
 have e3 : decide (j.text = j.text) = true := decide_eq_true rfl
 have e4 : decide ((j.keys.length : Int) = (j.keys.length : Int)) = true := decide_eq_true rfl
 have e5 : decide ((j.items.length : Int) = (j.items.length : Int)) = true := decide_eq_true rfl
 unfold jsV
 refine enS b64 fun hsm => ?_
 simp only [smw] at hsm
 simp only [W, seval, b64, hn, hll, e1, e2, e3, e4, e5, Bool.not_true]
 refine ARun.loopW (fun i : Nat => (envS 81 [(2, .ptr N 0), (3, .ptr (N + 1) 0), (5, .d (.int .i64 (i : Int)))], ⟨B ++ [jsB j, jsB j], T⟩)) (fun i => i ≤ j.keys.length) (fun i => j.keys.length - i) 0 (by omega) envA rfl ?_
 rintro i h1 ih
 dsimp only at h1 ih ⊢
 by_cases hlt : i < j.keys.length
 case pos =>
  have k1 : decide ((i : Int) < (j.keys.length : Int)) = true := decide_eq_true (by omega)
  have hw := wrap_in ((i : Int) + 1) (by omega)
  have hg := ssD_at hlt
  have hlti : (i : Int) < (j.keys.length : Int) := by omega
  obtain ⟨x, hxx⟩ : ∃ x, j.keys[i] = x := ⟨_, rfl⟩
  rw [hxx] at hg
  have kx : decide (x = x) = true := decide_eq_true rfl
  refine goN ?_
  simp only [W, seval, b64, hn, jsB, hll, k1]
  refine drXA 10 [] [N, N + 1] ?_
  simp (maxSteps := 4000000) only [W, seval, b64, xw, hn, hll, hg, hlt, hlti]
  refine goN ?_
  simp only [W, seval, b64, hn, kx, hw, Bool.not_true]
  exact ih (i + 1) (by omega) (by omega) _ _ envA rfl
 have k1 : decide ((i : Int) < (j.keys.length : Int)) = false := decide_eq_false (by omega)
 refine goN ?_
 simp only [W, seval, b64, hn, jsB, hll, k1]
 refine ARun.loopW (fun i : Nat => (envS 81 [(2, .ptr N 0), (3, .ptr (N + 1) 0), (6, .d (.int .i64 (i : Int)))], ⟨B ++ [jsB j, jsB j], T⟩)) (fun i => i ≤ j.items.length) (fun i => j.items.length - i) 0 (by omega) envA rfl ?_
 rintro q f1 ih2
 dsimp only at f1 ih2 ⊢
 by_cases hlq : q < j.items.length
 case pos =>
  have k2 : decide ((q : Int) < (j.items.length : Int)) = true := decide_eq_true (by omega)
  have hw := wrap_in ((q : Int) + 1) (by omega)
  have hg := List.getElem?_eq_getElem hlq
  have hmem := List.getElem_mem hlq
  have hlti : (q : Int) < (j.items.length : Int) := by omega
  obtain ⟨x, hxx⟩ : ∃ x, j.items[q] = x := ⟨_, rfl⟩
  rw [hxx] at hg hmem
  have hx := h x hmem (hit x hmem)
  unfold jsV at hx
  refine goN ?_
  simp only [W, seval, b64, hn, jsB, k2]
  refine drXA 11 [] [N, N + 1] ?_
  simp (maxSteps := 4000000) only [W, seval, b64, xw, hn, hg, hlq, hlti, List.getElem?_map, jsD_eq]
  refine callX_fn (fun Z => hx _ _) ?_
  simp (maxSteps := 4000000) only [W, seval, b64, xw, hn]
  refine goN ?_
  simp only [W, seval, b64, hn, hw]
  exact ih2 (q + 1) (by omega) (by omega) _ _ envA rfl
 have k2 : decide ((q : Int) < (j.items.length : Int)) = false := decide_eq_false (by omega)
 refine goN ?_
 simp only [W, seval, b64, hn, jsB, k2]
 refine retN b64 (Left.box ?_)
 exact ⟨rfl, rfl⟩
mutual
theorem self_ab : ∀ j : JsT, SfJ j
 | .mk _ _ _ l _ => self_step _ (self_all l)
theorem self_all : ∀ (l : List JsT), ∀ x ∈ l, SfJ x
 | [], _, h => absurd h List.not_mem_nil
 | y :: l, x, h => by
  rcases List.mem_cons.1 h with e | e
  ·rw [e]; exact self_ab y
  ·exact self_all l x e
end
def oneN (n m : NdT) : Bool := decide (n.name = m.name) && (decide (n.aliases = m.aliases) && (decide (n.symbols = m.symbols) && ((n.has == m.has) && (decide (n.dflt = m.dflt) && (decide (n.size = m.size) && (decide (n.items = m.items) && (decide (n.branches.length = m.branches.length) && decide (n.fields.length = m.fields.length))))))))
def ndB (n : NdT) : List V := [.d (.int .i64 n.kind), .d (.str n.name), .d (.sl (ssD n.aliases)), .d (.sl (n.fields.map fdD)), .d (.sl (ssD n.symbols)), .d (.bool n.has), .d (.str n.dflt), .d (.int .i64 n.size), .d (.int .i64 n.items), .d (.sl (isD n.branches))]
set_option maxHeartbeats 8000000 in
theorem one_tail (n m : NdT) (hfm : m.fields = n.fields) (hbm : m.branches = n.branches) (hs : SmN n) (N : Nat) (B : List (List V)) (hn : B.length = N) (T : List (Nat × Nat)) :
 ARun Tryz.prog TabI (N, T.length) 86 [.code (.loop (kF Tryz.f86 15)), .inBlock 0, .code (kF Tryz.f86 31)] (envS 153 [(2, .ptr N 0), (3, .ptr (N + 1) 0), (5, .d (.int .i64 0))]) ⟨B ++ [ndB n, ndB m], T⟩ (Ab.Left ⟨B, T⟩ (Same (.d (.bool true)) ⟨B, T⟩)) := by
 have hbl := isD_len n.branches
 obtain ⟨mk, mn, ma, mf, ms, mh, md, mz, mi, mb⟩ := m
 dsimp only at hfm hbm
 subst hfm hbm
 refine ARun.loopW (fun i : Nat => (envS 153 [(2, .ptr N 0), (3, .ptr (N + 1) 0), (5, .d (.int .i64 (i : Int)))], ⟨B ++ [ndB n, ndB ⟨mk, mn, ma, n.fields, ms, mh, md, mz, mi, n.branches⟩], T⟩)) (fun i => i ≤ n.branches.length) (fun i => n.branches.length - i) 0 (by omega) envA rfl ?_
 rintro i h1 ih
 dsimp only at h1 ih ⊢
 by_cases hlt : i < n.branches.length
 case pos =>
  have k1 : decide ((i : Int) < (n.branches.length : Int)) = true := decide_eq_true (by omega)
  have hb3 := hs.2.2.1
  have hw := wrap_in ((i : Int) + 1) (by omega)
  have hg := isD_at hlt
  have hlti : (i : Int) < (n.branches.length : Int) := by omega
  obtain ⟨x, hxx⟩ : ∃ x, n.branches[i] = x := ⟨_, rfl⟩
  rw [hxx] at hg
  have kx : decide (x = x) = true := decide_eq_true rfl
  refine goN ?_
  simp only [W, seval, b86, hn, ndB, hbl, k1]
  refine drXA 10 [] [N, N + 1] ?_
  simp (maxSteps := 4000000) only [W, seval, b86, xw, hn, ndB, hbl, hg, hlt, hlti]
  refine goN ?_
  simp only [W, seval, b86, hn, kx, hw, Bool.not_true]
  exact ih (i + 1) (by omega) (by omega) _ _ envA rfl
 have k1 : decide ((i : Int) < (n.branches.length : Int)) = false := decide_eq_false (by omega)
 refine goN ?_
 simp only [W, seval, b86, hn, ndB, hbl, k1]
 refine ARun.fits fun hf => ?_
 refine ARun.loopB (fun i : Nat => (envS 153 [(2, .ptr N 0), (3, .ptr (N + 1) 0), (6, .d (.int .i64 (i : Int)))], ⟨B ++ [ndB n, ndB ⟨mk, mn, ma, n.fields, ms, mh, md, mz, mi, n.branches⟩], T⟩)) (fun i => i ≤ n.fields.length) (fun i => n.fields.length - i) 0 (by omega) envA rfl ?_
 rintro q f1 ih2
 dsimp only at f1 ih2 ⊢
 by_cases hlq : q < n.fields.length
 case pos =>
  have k2 : decide ((q : Int) < (n.fields.length : Int)) = true := decide_eq_true (by omega)
  have hf3 := hs.2.1
  have hw := wrap_in ((q : Int) + 1) (by omega)
  have hg := List.getElem?_eq_getElem hlq
  have hmem := List.getElem_mem hlq
  obtain ⟨x, hxx⟩ : ∃ x, n.fields[q] = x := ⟨_, rfl⟩
  rw [hxx] at hg hmem
  have hx := self_ab x.dflt (hs.2.2.2 x hmem).2.1
  have ht := textsD_ab x.aliases x.aliases
  have ka : decide (x.aliases = x.aliases) = true := decide_eq_true rfl
  rw [ka] at ht
  unfold jsV at hx
  have kn : decide (x.name = x.name) = true := decide_eq_true rfl
  have kt : decide (x.type = x.type) = true := decide_eq_true rfl
  have kh : (x.has == x.has) = true := by cases x.has <;> rfl
  refine goN ?_
  simp only [W, seval, b86, hn, ndB, k2, hg, List.getElem?_map, fdD_eq, kn, kt, kh, Bool.not_true]
  refine callN (ht _ _) ?_
  refine goN ?_
  simp only [W, seval, b86, hn, kn, kt, kh, Bool.not_true]
  refine callN (hx _ _) ?_
  refine goN ?_
  simp only [W, seval, b86, hn, hw, Bool.not_true]
  rw [show ∀ X Y Z W : List V, B ++ [X, Y, Z, W] = (B ++ [X, Y]) ++ [Z, W] from fun X Y Z W => by simp]
  refine ih2 (q + 1) (by omega) (by omega) _ _ _ _ rfl ⟨by simp; omega, Nat.le_refl _⟩ hf ?_
  refine AgreeF.env _ ?_
  simp only [agf, seval, hn]
  exact ⟨decide_eq_true (by simp; omega), decide_eq_true (by simp; omega)⟩
 have k2 : decide ((q : Int) < (n.fields.length : Int)) = false := decide_eq_false (by omega)
 refine goN ?_
 simp only [W, seval, b86, hn, ndB, k2]
 refine retN b86 (Left.box ?_)
 exact ⟨rfl, rfl⟩
set_option maxHeartbeats 16000000 in
theorem one_ab (n m : NdT) (hk : m.kind = n.kind) (hf : m.fields = n.fields ∨ m.fields = []) (hbr : m.branches = n.branches ∨ m.branches = []) (hs : SmN n) (S : Mem) : AFn Tryz.prog TabI 86 [ndV n, ndV m] S (Same (.d (.bool (oneN n m))) S) := by
 obtain ⟨B, T⟩ := S
 obtain ⟨N, hn⟩ : ∃ N, B.length = N := ⟨_, rfl⟩
 have hbl := isD_len n.branches
 have hbm := isD_len m.branches
 have e1 : decide (n.kind = n.kind) = true := decide_eq_true rfl
 have eb : decide ((n.branches.length : Int) = (m.branches.length : Int)) = decide (n.branches.length = m.branches.length) := decide_eq_decide.2 (by omega)
 have ef : decide ((n.fields.length : Int) = (m.fields.length : Int)) = decide (n.fields.length = m.fields.length) := decide_eq_decide.2 (by omega)
 unfold ndV oneN
 rw [hk]
 refine enS b86 fun hsm => ?_
 simp only [smw] at hsm
 simp only [W, seval, b86, hn, hbl, hbm, e1, eb, ef, Bool.not_true]
 repeat' ((first | refine guardB_of (fun h => ?_) (fun h => ?_) | refine condS_of (fun h => ?_) (fun h => ?_)) <;> simp only [W, seval, b86, h, hn])
 all_goals try
  (refine callN (textsD_ab n.aliases m.aliases _ _) ?_
   skip
   refine goN ?_
   simp only [W, seval, b86, hn]
   repeat' ((first | refine guardB_of (fun h => ?_) (fun h => ?_) | refine condS_of (fun h => ?_) (fun h => ?_)) <;> simp only [W, seval, b86, h, hn])
   skip)
 all_goals try
  (refine callN (textsD_ab n.symbols m.symbols _ _) ?_
   skip
   refine goN ?_
   simp only [W, seval, b86, hn, hbl, hbm, eb, ef]
   repeat' ((first | refine guardB_of (fun h => ?_) (fun h => ?_) | refine condS_of (fun h => ?_) (fun h => ?_)) <;> simp only [W, seval, b86, h, hn, hbl, hbm, eb, ef])
   skip)
 all_goals first
  | (skip
     refine retN b86 (Left.box ?_)
     exact ⟨congrArg (fun b => V.d (.bool b)) (show false = _ by clear hf hbr hs; simp_all), rfl⟩)
  | skip
 have hfl : n.fields.length = m.fields.length := by clear hf hbr hs; simp_all
 have hbl2 : n.branches.length = m.branches.length := by clear hf hbr hs; simp_all
 have hfm : m.fields = n.fields := hf.elim id fun e => by rw [e] at hfl ⊢; exact (List.eq_nil_of_length_eq_zero hfl).symm
 have hbm2 : m.branches = n.branches := hbr.elim id fun e => by rw [e] at hbl2 ⊢; exact (List.eq_nil_of_length_eq_zero hbl2).symm
 have hres : oneN n m = true := by unfold oneN; clear hf hbr hs; simp_all
 unfold oneN at hres
 rw [hres]
 have ht := one_tail n m hfm hbm2 hs N B hn T
 unfold ndB at ht
 rw [hk] at ht
 exact ARun.weak envA ht
theorem same_abN (n m : NdT) (hk : m.kind = n.kind) (hf : m.fields = n.fields ∨ m.fields = []) (hbr : m.branches = n.branches ∨ m.branches = []) (hs : SmN n) (S : Mem) : AFn Tryz.prog TabI 65 [ndV n, ndV m] S (Same (.d (.bool (oneN n m))) S) := by
 obtain ⟨B, T⟩ := S
 obtain ⟨N, hn⟩ : ∃ N, B.length = N := ⟨_, rfl⟩
 have h1 := one_ab n m hk hf hbr hs
 unfold ndV at h1 ⊢
 refine enN b65 ?_
 simp only [W, seval, b65, hn]
 refine callN (h1 _) ?_
 refine goN ?_
 simp only [W, seval, b65, hn]
 refine retN b65 (Left.box ?_)
 exact ⟨rfl, rfl⟩
def mN (n : NdT) : NdT := ⟨n.kind, if namedB n.kind = true then n.name else [], if namedB n.kind = true then n.aliases else [], if n.kind = 9 then n.fields else [], if n.kind = 10 then n.symbols else [], if n.kind = 10 then n.has else false, if n.kind = 10 then n.dflt else [], if n.kind = 14 then n.size else 0, if n.kind = 11 ∨ n.kind = 12 then n.items else 0, if n.kind = 13 then n.branches else []⟩
theorem oneN_m (n : NdT) : oneN n (mN n) = bareN n := by
 have hel : ∀ {α : Type} (l : List α), decide (l.length = 0) = l.isEmpty := fun l => by cases l <;> rfl
 have hed : ∀ (l : List UInt8), decide (l = []) = l.isEmpty := fun l => by cases l <;> rfl
 have hes : ∀ (l : List (List UInt8)), decide (l = []) = l.isEmpty := fun l => by cases l <;> rfl
 have hh : (n.has == false) = !n.has := by cases n.has <;> rfl
 have hh2 : (n.has == n.has) = true := by cases n.has <;> rfl
 unfold oneN bareN mN
 dsimp only
 by_cases hnb : namedB n.kind = true <;> by_cases h9 : n.kind = 9 <;> by_cases h10 : n.kind = 10 <;> by_cases h14 : n.kind = 14 <;> by_cases h11 : n.kind = 11 <;> by_cases h12 : n.kind = 12 <;> by_cases h13 : n.kind = 13
 all_goals first
  | (exfalso; omega)
  | (simp only [if_pos, if_neg, hnb, h9, h10, h14, h11, h12, h13, hel, hed, hes, hh, hh2, decide_true, decide_false, Bool.true_or, Bool.false_or, Bool.true_and, Bool.and_true, List.length_nil] <;> grind)
def b39 := KB Tryz.func39 297
def scB (l : List NdT) (root : Int) : List V := [.d (.sl (l.map ndD)), .d (.int .i64 root)]
def mB (k : Int) (nm : List UInt8) (al f s : V) (ha : Bool) (d : List UInt8) (z it : Int) (br : V) : List V := [.d (.int .i64 k), .d (.str nm), al, f, s, .d (.bool ha), .d (.str d), .d (.int .i64 z), .d (.int .i64 it), br]
theorem sameM (n : NdT) (hs : SmN n) {nm : List UInt8} {al f s : V} {ha : Bool} {d : List UInt8} {z it : Int} {br : V} (hm : plL (mB n.kind nm al f s ha d z it br) = ndB (mN n)) (B : List (List V)) (T : List (Nat × Nat)) : AFn Tryz.prog TabI 65 [.agg (ndB n), .agg (mB n.kind nm al f s ha d z it br)] ⟨B, T⟩ (Same (.d (.bool (bareN n))) ⟨B, T⟩) := by
 have h := AFn.pl (vs := [.agg (ndB n), .agg (mB n.kind nm al f s ha d z it br)]) (same_abN n (mN n) rfl (by unfold mN; dsimp only; split <;> simp) (by unfold mN; dsimp only; split <;> simp) hs ⟨B, T⟩) (by show [V.agg (plL (ndB n)), V.agg (plL (mB n.kind nm al f s ha d z it br))] = _; rw [hm]; rfl)
 rwa [oneN_m] at h
def fldG (f : FdT) : Bool := (f.aliases.all SimpleS && decide (f.aliases.length ≤ 40)) && defF rjJ zjJ f
def kind9 (n : NdT) : Bool := n.fields.all fldG && (((n.fields.map FdT.name).all SimpleS && decide ((n.fields.map FdT.name).length ≤ 40)) && onceF [] (n.fields.map FdT.name))
set_option maxHeartbeats 16000000 in
theorem node_9 (l : List NdT) (root : Int) (n : NdT) (hk : n.kind = 9) (hs : SmN n) {nm : List UInt8} {al s : V} {ha : Bool} {d : List UInt8} {z it : Int} {br : V} (hm : plL (mB n.kind nm al (.d (.sl (n.fields.map fdD))) s ha d z it br) = ndB (mN n)) (N : Nat) (B : List (List V)) (hn : B.length = N) (T : List (Nat × Nat)) :
 ARun Tryz.prog TabI (N, T.length) 39 [.code (.loop (kF Tryz.f39 59)), .inBlock 3, .code (kF Tryz.f39 73), .inBlock 2, .code (kF Tryz.f39 156)] (envS 297 [(3, .ptr (N + 1) 0), (5, .ptr (N + 2) 0), (7, .d (.bool true)), (8, .sl [] .full), (9, .d (.int .i64 0))]) ⟨B ++ [scB l root, ndB n, mB n.kind nm al (.d (.sl (n.fields.map fdD))) s ha d z it br], T⟩ (Ab.Left ⟨B, T⟩ (Same (.d (.bool (kind9 n && bareN n))) ⟨B, T⟩)) := by
 obtain ⟨M, hM⟩ : ∃ M, T.length = M := ⟨_, rfl⟩
 have hfl := hs.2.1
 rw [hM]
 refine ARun.fits fun hf => ?_
 refine ARun.token 8 [] (by rfl) 1 (by omega) rfl ?_
 simp only [envS_put, hM]
 refine ARun.loopA (fun p : Nat × Bool => (envS 297 [(3, .ptr (N + 1) 0), (5, .ptr (N + 2) 0), (7, .d (.bool p.2)), (8, .sl (ssD ((n.fields.take p.1).map FdT.name)) (.own M)), (9, .d (.int .i64 (p.1 : Int)))], ⟨B ++ [scB l root, ndB n, mB n.kind nm al (.d (.sl (n.fields.map fdD))) s ha d z it br], T ++ [(p.1, 1)]⟩)) (fun p => p.1 ≤ n.fields.length ∧ (p.2 && (n.fields.drop p.1).all fldG) = n.fields.all fldG) (fun p => n.fields.length - p.1) (0, true) ⟨by omega, rfl⟩ envA rfl ?_
 rintro ⟨i, ok⟩ ⟨h1, h2⟩ ih
 dsimp only at h1 h2 ih ⊢
 by_cases hlt : i < n.fields.length
 case neg =>
  have e2 : decide ((i : Int) < (n.fields.length : Int)) = false := decide_eq_false (by omega)
  rw [List.drop_eq_nil_of_le (by omega), List.all_nil, Bool.and_true] at h2
  rw [List.take_of_length_le (by omega)]
  have hnl : (n.fields.map FdT.name).length ≤ 1000000 := by simp; omega
  have hsi := fun (B : List (List V)) T => AFn.pl (vs := [.sl (ssD (n.fields.map FdT.name)) (.own M)]) (simpleD_ab (n.fields.map FdT.name) hnl B T) rfl
  have hon := fun (B : List (List V)) T => AFn.pl (vs := [.sl (ssD (n.fields.map FdT.name)) (.own M)]) (onceD_ab (n.fields.map FdT.name) hnl B T) rfl
  have hsm := fun B T => sameM n hs hm B T
  unfold ndB mB at hsm
  unfold kind9
  rw [← h2]
  cases ok
  ·refine goN ?_
   simp only [W, seval, b39, hn, ndB, mB, e2]
   refine retN b39 (Left.all ?_)
   exact ⟨rfl, rfl⟩
  ·refine goN ?_
   simp only [W, seval, b39, hn, ndB, mB, e2]
   refine callN (hsi _ _) ?_
   cases hsb : ((n.fields.map FdT.name).all SimpleS && decide ((n.fields.map FdT.name).length ≤ 40))
   ·have hsb2 := hsb
    rw [List.length_map] at hsb2
    refine goN ?_
    simp only [W, seval, b39, hn, hsb]
    refine retN b39 (Left.all ?_)
    exact ⟨congrArg (fun b => V.d (.bool b)) (by rw [hsb2]; rfl), rfl⟩
   ·have hsb2 := hsb
    rw [List.length_map] at hsb2
    refine goN ?_
    simp only [W, seval, b39, hn, hsb]
    refine callN (hon _ _) ?_
    cases onceF [] (n.fields.map FdT.name)
    ·refine goN ?_
     simp only [W, seval, b39, hn]
     refine retN b39 (Left.all ?_)
     exact ⟨congrArg (fun b => V.d (.bool b)) (by rw [hsb2]; rfl), rfl⟩
    ·refine goN ?_
     simp only [W, seval, b39, hn]
     refine callN (hsm _ _) ?_
     refine goN ?_
     simp only [W, seval, b39, hn]
     refine retN b39 (Left.all ?_)
     exact ⟨congrArg (fun b => V.d (.bool b)) (by rw [hsb2]; rfl), rfl⟩
 have e2 : decide ((i : Int) < (n.fields.length : Int)) = true := decide_eq_true (by omega)
 have hw := wrap_in ((i : Int) + 1) (by omega)
 have hg := List.getElem?_eq_getElem hlt
 have hmem := List.getElem_mem hlt
 have htk : (n.fields.take (i + 1)).map FdT.name = (n.fields.take i).map FdT.name ++ [n.fields[i].name] := by rw [List.take_succ_eq_append_getElem hlt, List.map_append]; rfl
 rw [drop_get hlt, List.all_cons] at h2
 obtain ⟨y, hyy⟩ : ∃ x, n.fields[i] = x := ⟨_, rfl⟩
 rw [hyy] at hg hmem h2 htk
 have hsy := hs.2.2.2 y hmem
 have hcap : (i + 1) * 16 ≤ 140737488355328 := by omega
 have htl : ((n.fields.take i).map FdT.name).length = i := by simp; omega
 have hr1 : rowsSz 1 [[D.str y.name]] = true := rfl
 have hsi := simpleD_ab y.aliases (by omega)
 have hJ := fun S => rgtR_ab y.dflt hsy.2 S
 have hZ := fun S => noneR_ab y.dflt S
 unfold jsV at hJ hZ
 unfold jsZ at hZ
 have hB1 : ∀ (X Y Z W : List V) q, (⟨B ++ [X, Y, Z, W], T ++ [q]⟩ : Mem) = ⟨(B ++ [X, Y, Z]) ++ [W], (T ++ [q]) ++ []⟩ := fun X Y Z W q => by simp
 have hfit : ∀ q, Fits ⟨B ++ [scB l root, ndB n, mB n.kind nm al (.d (.sl (n.fields.map fdD))) s ha d z it br], T ++ [q]⟩ := fun q => by
  have := hf.more (X := []) (Y := [q]) (fun _ h => absurd h List.not_mem_nil)
  simpa using this
 cases ok
 ·refine goN ?_
  simp only [W, seval, b39, hn, ndB, hM, e2, hg, List.getElem?_map, fdD_eq, hcap, htl, ssD_snoc, Nat.reduceMul, mapX_nil, mapX_cons, hr1, ← htk, hw]
  rw [hB1]
  refine ih (i + 1, false) ⟨by omega, by dsimp only; rw [← h2]; rfl⟩ (by dsimp only; omega) _ _ _ _ _ rfl ⟨by simp; omega, by simp; omega⟩ (hfit _) ?_
  refine AgreeF.env _ ?_
  simp only [agf, seval, hn]
  exact ⟨decide_eq_true (by simp; omega), decide_eq_true (by simp; omega), decide_eq_true (by simp; omega)⟩
 rw [Bool.true_and] at h2
 refine goN ?_
 simp only [W, seval, b39, hn, ndB, hM, e2, hg, List.getElem?_map, fdD_eq, hcap, htl, ssD_snoc, Nat.reduceMul, mapX_nil, mapX_cons, hr1, ← htk]
 refine callN (hsi _ _) ?_
 have hfin : ∀ (ok : Bool), fldG y = ok → (ok && (n.fields.drop (i + 1)).all fldG) = n.fields.all fldG := fun ok e => by rw [← h2, e]
 unfold fldG at hfin
 cases hsb : (y.aliases.all SimpleS && decide (y.aliases.length ≤ 40))
 ·refine goN ?_
  simp only [W, seval, b39, hn, hsb, hw]
  rw [hB1]
  refine ih (i + 1, false) ⟨by omega, hfin _ (by rw [hsb]; rfl)⟩ (by dsimp only; omega) _ _ _ _ _ rfl ⟨by simp; omega, by simp; omega⟩ (hfit _) ?_
  refine AgreeF.env _ ?_
  simp only [agf, seval, hn]
  exact ⟨decide_eq_true (by simp; omega), decide_eq_true (by simp; omega), decide_eq_true (by simp; omega)⟩
 cases hh : y.has
 ·refine goN ?_
  simp only [W, seval, b39, hn, hsb, hh, hw]
  refine callN (hZ _) ?_
  refine goN ?_
  simp only [W, seval, b39, hn, hsb, hh, hw]
  rw [hB1]
  refine ih (i + 1, zjJ y.dflt) ⟨by omega, hfin _ (by rw [hsb, defF, hh]; rfl)⟩ (by dsimp only; omega) _ _ _ _ _ rfl ⟨by simp; omega, by simp; omega⟩ (hfit _) ?_
  refine AgreeF.env _ ?_
  simp only [agf, seval, hn]
  exact ⟨decide_eq_true (by simp; omega), decide_eq_true (by simp; omega), decide_eq_true (by simp; omega)⟩
 ·refine goN ?_
  simp only [W, seval, b39, hn, hsb, hh, hw]
  refine callN (hJ _) ?_
  cases hrj : rjJ y.dflt
  all_goals
   refine goN ?_
   simp only [W, seval, b39, hn, hsb, hh, hw, hrj]
   rw [hB1]
   refine ih (i + 1, rjJ y.dflt) ⟨by omega, hfin _ (by rw [hsb, defF, hh]; rfl)⟩ (by dsimp only; omega) _ _ _ _ _ rfl ⟨by simp; omega, by simp; omega⟩ (hfit _) ?_
   refine AgreeF.env _ ?_
   simp only [agf, seval, hn, hrj]
   exact ⟨decide_eq_true (by simp; omega), decide_eq_true (by simp; omega), decide_eq_true (by simp; omega)⟩
def kind10 (n : NdT) : Bool := decide (0 < n.symbols.length) && ((n.symbols.all SimpleS && decide (n.symbols.length ≤ 40)) && (onceF [] n.symbols && ((n.has && n.symbols.contains n.dflt) || (!n.has && n.dflt.isEmpty))))
set_option maxHeartbeats 16000000 in
theorem node_10 (l : List NdT) (root : Int) (n : NdT) (hk : n.kind = 10) (hs : SmN n) {nm : List UInt8} {al f : V} {z it : Int} {br : V} (hm : plL (mB n.kind nm al f (.d (.sl (ssD n.symbols))) n.has n.dflt z it br) = ndB (mN n)) (N : Nat) (B : List (List V)) (hn : B.length = N) (T : List (Nat × Nat)) :
 ARun Tryz.prog TabI (N, T.length) 39 [.code (.loop (kF Tryz.f39 90)), .inBlock 5, .code (kF Tryz.f39 100), .inBlock 2, .code (kF Tryz.f39 156)] (envS 297 [(3, .ptr (N + 1) 0), (5, .ptr (N + 2) 0), (7, .d (.bool true)), (11, .d (.bool false)), (12, .d (.int .i64 0))]) ⟨B ++ [scB l root, ndB n, mB n.kind nm al f (.d (.sl (ssD n.symbols))) n.has n.dflt z it br], T⟩ (Ab.Left ⟨B, T⟩ (Same (.d (.bool (kind10 n && bareN n))) ⟨B, T⟩)) := by
 have hsl := hs.1.2.2
 have hll := ssD_len n.symbols
 refine ARun.loopW (fun p : Nat × Bool => (envS 297 [(3, .ptr (N + 1) 0), (5, .ptr (N + 2) 0), (7, .d (.bool true)), (11, .d (.bool p.2)), (12, .d (.int .i64 (p.1 : Int)))], ⟨B ++ [scB l root, ndB n, mB n.kind nm al f (.d (.sl (ssD n.symbols))) n.has n.dflt z it br], T⟩)) (fun p => p.1 ≤ n.symbols.length ∧ (p.2 || (n.symbols.drop p.1).contains n.dflt) = n.symbols.contains n.dflt) (fun p => n.symbols.length - p.1) (0, false) ⟨by omega, rfl⟩ envA rfl ?_
 rintro ⟨i, fo⟩ ⟨h1, h2⟩ ih
 dsimp only at h1 h2 ih ⊢
 by_cases hlt : i < n.symbols.length
 case neg =>
  have e2 : decide ((i : Int) < (n.symbols.length : Int)) = false := decide_eq_false (by omega)
  rw [List.drop_eq_nil_of_le (by omega), show ([] : List (List UInt8)).contains n.dflt = false from rfl, Bool.or_false] at h2
  have hsi := simpleD_ab n.symbols (by omega)
  have hon := onceD_ab n.symbols (by omega)
  have hsm := fun B T => sameM n hs hm B T
  have hp0 : decide ((0 : Int) < (n.symbols.length : Int)) = decide (0 < n.symbols.length) := decide_eq_decide.2 (by omega)
  have hpT : decide (n.dflt = []) = n.dflt.isEmpty := by cases n.dflt <;> simp
  unfold ndB mB at hsm
  unfold kind10
  rw [← h2]
  cases c1 : decide (0 < n.symbols.length)
  ·refine goN ?_
   simp only [W, seval, b39, hn, ndB, mB, hll, e2, hp0, c1]
   refine retN b39 (Left.box ?_)
   exact ⟨rfl, rfl⟩
  refine goN ?_
  simp only [W, seval, b39, hn, ndB, mB, hll, e2, hp0, c1]
  refine callN (hsi _ _) ?_
  cases c2 : (n.symbols.all SimpleS && decide (n.symbols.length ≤ 40))
  ·refine goN ?_
   simp only [W, seval, b39, hn, c2]
   refine retN b39 (Left.box ?_)
   exact ⟨congrArg (fun b => V.d (.bool b)) (by first | rfl | (rw [c2]; rfl)), rfl⟩
  refine goN ?_
  simp only [W, seval, b39, hn, c2]
  refine callN (hon _ _) ?_
  cases c3 : onceF [] n.symbols
  ·refine goN ?_
   simp only [W, seval, b39, hn, c3]
   refine retN b39 (Left.box ?_)
   exact ⟨congrArg (fun b => V.d (.bool b)) (by first | rfl | (rw [c2]; rfl)), rfl⟩
  cases c4 : n.has <;> cases c5 : n.dflt.isEmpty <;> cases fo
  all_goals
   refine goN ?_
   simp only [W, seval, b39, hn, c3, c4, c5, hpT]
  all_goals first
   | (skip
      refine retN b39 (Left.box ?_)
      exact ⟨congrArg (fun b => V.d (.bool b)) (by first | rfl | (rw [c2]; rfl)), rfl⟩)
   | (rw [c4] at hsm
      refine callN (hsm _ _) ?_
      skip
      refine goN ?_
      simp only [W, seval, b39, hn]
      refine retN b39 (Left.box ?_)
      exact ⟨congrArg (fun b => V.d (.bool b)) (by first | rfl | (rw [c2]; rfl)), rfl⟩)
 have e2 : decide ((i : Int) < (n.symbols.length : Int)) = true := decide_eq_true (by omega)
 have hw := wrap_in ((i : Int) + 1) (by omega)
 have hg := ssD_at hlt
 have hlti : (i : Int) < (n.symbols.length : Int) := by omega
 rw [cont_drop n.dflt n.symbols i hlt] at h2
 obtain ⟨x, hxx⟩ : ∃ x, n.symbols[i] = x := ⟨_, rfl⟩
 rw [hxx] at hg h2
 cases fo
 ·refine goN ?_
  simp only [W, seval, b39, hn, ndB, mB, hll, e2]
  refine drXA 11 [] [N + 1] ?_
  simp (maxSteps := 4000000) only [W, seval, b39, xw, hn, hll, hg, hlt, hlti]
  refine goN ?_
  simp only [W, seval, b39, hn, hw]
  exact ih (i + 1, decide (x = n.dflt)) ⟨by omega, by rw [← h2]; rfl⟩ (by dsimp only; omega) _ _ envA rfl
 ·refine goN ?_
  simp only [W, seval, b39, hn, ndB, mB, hll, e2]
  refine drXA 11 [] [N + 1] ?_
  simp (maxSteps := 4000000) only [W, seval, b39, xw, hn, hll, hg, hlt, hlti]
  refine goN ?_
  simp only [W, seval, b39, hn, hw]
  exact ih (i + 1, true) ⟨by omega, by rw [← h2]; rfl⟩ (by dsimp only; omega) _ _ envA rfl
theorem unionG_take (kd : Int → Int) (l : List Int) (i : Nat) (h : i < l.length) : unionG kd (l.take i) (l.drop i) = ((!decide (kd l[i] = 13) && (l.take i).all fun m => !decide (l[i] = m) && (!decide (kd l[i] = kd m) || namedB (kd l[i]))) && unionG kd (l.take (i + 1)) (l.drop (i + 1))) := by
 rw [List.drop_eq_getElem_cons h, unionG, List.take_succ_eq_append_getElem h]
set_option maxHeartbeats 16000000 in
theorem node_13 (l : List NdT) (root : Int) (n : NdT) (hs : SmN n) (hb : ∀ k ∈ n.branches, 0 ≤ k ∧ k < (l.length : Int)) {nm : List UInt8} {al f s : V} {ha : Bool} {d : List UInt8} {z it : Int} (hm : plL (mB n.kind nm al f s ha d z it (.d (.sl (isD n.branches)))) = ndB (mN n)) (ok0 : Bool) (N : Nat) (B : List (List V)) (hn : B.length = N) (T : List (Nat × Nat)) :
 ARun Tryz.prog TabI (N, T.length) 39 [.code (.loop (kF Tryz.f39 120)), .inBlock 7, .inBlock 2, .code (kF Tryz.f39 156)] (envS 297 [(2, .ptr N 0), (3, .ptr (N + 1) 0), (5, .ptr (N + 2) 0), (7, .d (.bool ok0)), (13, .d (.int .i64 0))]) ⟨B ++ [scB l root, ndB n, mB n.kind nm al f s ha d z it (.d (.sl (isD n.branches)))], T⟩ (Ab.Left ⟨B, T⟩ (Same (.d (.bool ((ok0 && unionG (kdN l) [] n.branches) && bareN n))) ⟨B, T⟩)) := by
 have hbl := isD_len n.branches
 have hb3 := hs.2.2.1
 obtain ⟨res, hres⟩ : ∃ r, (ok0 && unionG (kdN l) [] n.branches) = r := ⟨_, rfl⟩
 rw [hres]
 refine ARun.fits fun hf => ?_
 refine ARun.loopB (fun p : Nat × Bool => (envS 297 [(2, .ptr N 0), (3, .ptr (N + 1) 0), (5, .ptr (N + 2) 0), (7, .d (.bool p.2)), (13, .d (.int .i64 (p.1 : Int)))], ⟨B ++ [scB l root, ndB n, mB n.kind nm al f s ha d z it (.d (.sl (isD n.branches)))], T⟩)) (fun p => p.1 ≤ n.branches.length ∧ (p.2 && unionG (kdN l) (n.branches.take p.1) (n.branches.drop p.1)) = res) (fun p => n.branches.length - p.1) (0, ok0) ⟨by omega, hres⟩ envA rfl ?_
 rintro ⟨i, ok⟩ ⟨h1, h2⟩ ih
 dsimp only at h1 h2 ih ⊢
 by_cases hlt : i < n.branches.length
 case neg =>
  have e2 : decide ((i : Int) < (n.branches.length : Int)) = false := decide_eq_false (by omega)
  have hsm := fun B T => sameM n hs hm B T
  unfold ndB mB at hsm
  rw [List.drop_eq_nil_of_le (by omega), unionG, Bool.and_true] at h2
  rw [← h2]
  cases ok
  ·refine goN ?_
   simp only [W, seval, b39, hn, ndB, mB, hbl, e2]
   refine retN b39 (Left.box ?_)
   exact ⟨rfl, rfl⟩
  ·refine goN ?_
   simp only [W, seval, b39, hn, ndB, mB, hbl, e2]
   refine callN (hsm _ _) ?_
   refine goN ?_
   simp only [W, seval, b39, hn]
   refine retN b39 (Left.box ?_)
   exact ⟨rfl, rfl⟩
 have e2 : decide ((i : Int) < (n.branches.length : Int)) = true := decide_eq_true (by omega)
 have hw := wrap_in ((i : Int) + 1) (by omega)
 have hg := isD_at hlt
 have hlti : (i : Int) < (n.branches.length : Int) := by omega
 obtain ⟨ha0, ha1⟩ := hb _ (List.getElem_mem hlt)
 rw [unionG_take (kdN l) n.branches i hlt] at h2
 obtain ⟨a, haa⟩ : ∃ x, n.branches[i] = x := ⟨_, rfl⟩
 rw [haa] at hg ha0 ha1 h2
 have hga := nd_row (l := l) (m := a) ha0 ha1
 rw [ndD_eq] at hga
 have hat : a.toNat < l.length := by omega
 have hkd : (ndN l a.toNat).kind = kdN l a := rfl
 obtain ⟨X, hX⟩ : ∃ x, ndN l a.toNat = x := ⟨_, rfl⟩
 rw [hX] at hga hkd
 refine goN ?_
 simp only [W, seval, b39, hn, ndB, scB, hbl, e2]
 refine drXA 10 [9] [N, N + 1] ?_
 simp (maxSteps := 4000000) only [W, seval, b39, xw, hn, hbl, hg, hlt, hlti, hga, hat, ha0, ha1]
 obtain ⟨res2, hres2⟩ : ∃ r, unionG (kdN l) (n.branches.take (i + 1)) (n.branches.drop (i + 1)) = r := ⟨_, rfl⟩
 rw [hres2] at h2
 rw [show ∀ X Y Z W : List V, B ++ [X, Y, Z, W] = B ++ [X, Y, Z] ++ [W] from fun X Y Z W => by simp]
 have key : ∀ ok1 : Bool, (ok1 && (((n.branches.take i).all fun m => !decide (a = m) && (!decide (kdN l a = kdN l m) || namedB (kdN l a))) && res2)) = res → ARun Tryz.prog TabI (N, T.length) 39 [.code (.loop (kF Tryz.f39 136)), .inBlock 9, .inBlock 8, .code (kF Tryz.f39 148), .inLoop (kF Tryz.f39 120), .inBlock 7, .inBlock 2, .code (kF Tryz.f39 156)] (envS 297 [(2, .ptr N 0), (3, .ptr (N + 1) 0), (5, .ptr (N + 2) 0), (7, .d (.bool ok1)), (13, .d (.int .i64 (i : Int))), (14, .ptr (N + 3) 0), (15, .d (.int .i64 0))]) ⟨B ++ [scB l root, ndB n, mB n.kind nm al f s ha d z it (.d (.sl (isD n.branches)))] ++ [ndB X], T⟩ (Ab.Left ⟨B, T⟩ (Same (.d (.bool (res && bareN n))) ⟨B, T⟩)) := by
  intro ok1 hok1
  refine ARun.fits fun hf2 => ?_
  refine ARun.loopB (fun p : Nat × Bool => (envS 297 [(2, .ptr N 0), (3, .ptr (N + 1) 0), (5, .ptr (N + 2) 0), (7, .d (.bool p.2)), (13, .d (.int .i64 (i : Int))), (14, .ptr (N + 3) 0), (15, .d (.int .i64 (p.1 : Int)))], ⟨B ++ [scB l root, ndB n, mB n.kind nm al f s ha d z it (.d (.sl (isD n.branches)))] ++ [ndB X], T⟩)) (fun p => p.1 ≤ i ∧ (p.2 && ((((n.branches.take i).drop p.1).all fun m => !decide (a = m) && (!decide (kdN l a = kdN l m) || namedB (kdN l a))) && res2)) = res) (fun p => i - p.1) (0, ok1) ⟨by omega, hok1⟩ envA rfl ?_
  rintro ⟨m, ok2⟩ ⟨g1, g2⟩ ih2
  dsimp only at g1 g2 ih2 ⊢
  have hti : (n.branches.take i).length = i := by simp; omega
  by_cases hmi : m < i
  case neg =>
   have e3 : decide ((m : Int) < (i : Int)) = false := decide_eq_false (by omega)
   have hnil : (n.branches.take i).drop m = [] := List.drop_eq_nil_of_le (by omega)
   rw [hnil, List.all_nil, Bool.true_and] at g2
   refine goN ?_
   simp only [W, seval, b39, hn, e3, hw]
   rw [show ∀ X Y Z W : List V, B ++ [X, Y, Z, W] = B ++ [X, Y, Z] ++ [W] from fun X Y Z W => by simp]
   refine ih (i + 1, ok2) ⟨by omega, by rw [hres2]; exact g2⟩ (by dsimp only; omega) _ _ _ _ rfl ⟨by simp; omega, Nat.le_refl _⟩ hf ?_
   refine AgreeF.env _ ?_
   simp only [agf, seval, hn]
   exact ⟨decide_eq_true (by simp; omega), decide_eq_true (by simp; omega), decide_eq_true (by simp; omega)⟩
  have e3 : decide ((m : Int) < (i : Int)) = true := decide_eq_true (by omega)
  have hw2 := wrap_in ((m : Int) + 1) (by omega)
  have hlm : m < n.branches.length := by omega
  have hltm : (m : Int) < (n.branches.length : Int) := by omega
  have hgm := isD_at hlm
  obtain ⟨hq0, hq1⟩ := hb _ (List.getElem_mem hlm)
  have hdr : (n.branches.take i).drop m = n.branches[m] :: (n.branches.take i).drop (m + 1) := by
   rw [List.drop_eq_getElem_cons (by omega), List.getElem_take]
  rw [hdr, List.all_cons] at g2
  obtain ⟨q, hqq⟩ : ∃ x, n.branches[m] = x := ⟨_, rfl⟩
  rw [hqq] at hgm hq0 hq1 g2
  have hgq := nd_row (l := l) (m := q) hq0 hq1
  rw [ndD_eq] at hgq
  have hqt : q.toNat < l.length := by omega
  have hkq : (ndN l q.toNat).kind = kdN l q := rfl
  obtain ⟨Y, hY⟩ : ∃ x, ndN l q.toNat = x := ⟨_, rfl⟩
  rw [hY] at hgq hkq
  rw [← hkd, ← hkq] at g2
  have hnm := fun S => namedD_ab X.kind S
  have hfin : ∀ ok3 : Bool, ok3 = (ok2 && (!decide (a = q) && (!decide (X.kind = Y.kind) || namedB X.kind))) → (ok3 && ((((n.branches.take i).drop (m + 1)).all fun m => !decide (a = m) && (!decide (X.kind = kdN l m) || namedB X.kind)) && res2)) = res := fun ok3 e => by
   rw [e, ← g2]
   cases ok2 <;> cases decide (a = q) <;> cases decide (X.kind = Y.kind) <;> cases namedB X.kind <;> simp
  rw [← hkd] at ih2
  have hB5 : ∀ X Y Z W U : List V, B ++ [X, Y, Z, W, U] = B ++ [X, Y, Z] ++ [W] ++ [U] := fun X Y Z W U => by simp
  refine goN ?_
  simp only [W, seval, b39, hn, ndB, scB, e3]
  refine drXA 10 [9] [N, N + 1, N + 3] ?_
  simp (maxSteps := 4000000) only [W, seval, b39, xw, hn, hbl, hgm, hlm, hltm, hgq, hqt, hq0, hq1]
  cases ok2
  ·refine goN ?_
   simp only [W, seval, b39, hn]
   refine drXA 27 [] [N + 1, N + 3, N + 4] ?_
   simp (maxSteps := 4000000) only [W, seval, b39, xw, hn]
   refine goN ?_
   simp only [W, seval, b39, hn, hw2]
   rw [hB5]
   refine ih2 (m + 1, false) ⟨by omega, hfin _ rfl⟩ (by dsimp only; omega) _ _ _ _ rfl ⟨by simp; omega, Nat.le_refl _⟩ hf2 ?_
   refine AgreeF.env _ ?_
   simp only [agf, seval, hn]
   exact ⟨decide_eq_true (by simp; omega), decide_eq_true (by simp; omega), decide_eq_true (by simp; omega), decide_eq_true (by simp; omega)⟩
  cases hq : decide (a = q)
  ·cases hkk : decide (X.kind = Y.kind)
   ·refine goN ?_
    simp only [W, seval, b39, hn]
    refine drXA 27 [] [N + 1, N + 3, N + 4] ?_
    simp (maxSteps := 4000000) only [W, seval, b39, xw, hn, hbl, hg, hgm, hlt, hlm, hlti, hltm, hq, hkk, Bool.not_false]
    refine goN ?_
    simp only [W, seval, b39, hn, hw2]
    rw [hB5]
    refine ih2 (m + 1, true) ⟨by omega, hfin _ (by rw [hq, hkk]; rfl)⟩ (by dsimp only; omega) _ _ _ _ rfl ⟨by simp; omega, Nat.le_refl _⟩ hf2 ?_
    refine AgreeF.env _ ?_
    simp only [agf, seval, hn]
    exact ⟨decide_eq_true (by simp; omega), decide_eq_true (by simp; omega), decide_eq_true (by simp; omega), decide_eq_true (by simp; omega)⟩
   ·refine goN ?_
    simp only [W, seval, b39, hn]
    refine drXA 27 [] [N + 1, N + 3, N + 4] ?_
    simp (maxSteps := 4000000) only [W, seval, b39, xw, hn, hbl, hg, hgm, hlt, hlm, hlti, hltm, hq, hkk, Bool.not_false, Bool.not_true]
    refine callX_fn (fun Z => hnm _) ?_
    simp (maxSteps := 4000000) only [W, seval, b39, xw, hn]
    refine goN ?_
    simp only [W, seval, b39, hn, hw2]
    rw [hB5]
    refine ih2 (m + 1, namedB X.kind) ⟨by omega, hfin _ (by rw [hq, hkk]; rfl)⟩ (by dsimp only; omega) _ _ _ _ rfl ⟨by simp; omega, Nat.le_refl _⟩ hf2 ?_
    refine AgreeF.env _ ?_
    simp only [agf, seval, hn]
    exact ⟨decide_eq_true (by simp; omega), decide_eq_true (by simp; omega), decide_eq_true (by simp; omega), decide_eq_true (by simp; omega)⟩
  ·refine goN ?_
   simp only [W, seval, b39, hn]
   refine drXA 27 [] [N + 1, N + 3, N + 4] ?_
   simp (maxSteps := 4000000) only [W, seval, b39, xw, hn, hbl, hg, hgm, hlt, hlm, hlti, hltm, hq, Bool.not_true]
   refine goN ?_
   simp only [W, seval, b39, hn, hw2]
   rw [hB5]
   refine ih2 (m + 1, false) ⟨by omega, hfin _ (by rw [hq]; rfl)⟩ (by dsimp only; omega) _ _ _ _ rfl ⟨by simp; omega, Nat.le_refl _⟩ hf2 ?_
   refine AgreeF.env _ ?_
   simp only [agf, seval, hn]
   exact ⟨decide_eq_true (by simp; omega), decide_eq_true (by simp; omega), decide_eq_true (by simp; omega), decide_eq_true (by simp; omega)⟩
 cases ok
 ·refine goN ?_
  simp only [W, seval, b39, hn]
  have hkey := key false (by rw [← h2]; rfl)
  rw [show ∀ X Y Z W : List V, B ++ [X, Y, Z, W] = B ++ [X, Y, Z] ++ [W] from fun X Y Z W => by simp]
  exact ARun.weak envA hkey
 ·refine goN ?_
  simp only [W, seval, b39, hn]
  have hkey := key (!decide (X.kind = 13)) (by rw [← h2, hkd]; simp [Bool.and_assoc])
  rw [show ∀ X Y Z W : List V, B ++ [X, Y, Z, W] = B ++ [X, Y, Z] ++ [W] from fun X Y Z W => by simp]
  exact ARun.weak envA hkey
def kindK (l : List NdT) (n : NdT) : Bool :=
 if n.kind = 9 then kind9 n else if n.kind = 10 then kind10 n else if n.kind = 14 then decide (0 ≤ n.size) && decide (n.size ≤ 1000)
 else if n.kind = 13 then decide (0 < n.branches.length) && (decide (n.branches.length ≤ 10) && unionG (kdN l) [] n.branches) else true
set_option maxHeartbeats 8000000 in
theorem node_tail (l : List NdT) (root : Int) (n : NdT) (hs : SmN n) (hb : n.kind = 13 → ∀ k ∈ n.branches, 0 ≤ k ∧ k < (l.length : Int)) (al : V) (hal : pl al = .d (.sl (ssD (mN n).aliases))) (N : Nat) (B : List (List V)) (hn : B.length = N) (T : List (Nat × Nat)) :
 ARun Tryz.prog TabI (N, T.length) 39 [.code (kF Tryz.f39 41)] (envS 297 [(2, .ptr N 0), (3, .ptr (N + 1) 0), (5, .ptr (N + 2) 0)]) ⟨B ++ [scB l root, ndB n, [.d (.int .i64 n.kind), .d (.str (mN n).name), al, .sl [] .full, .sl [] .full, .d (.bool false), .d (.str []), .d (.int .i64 0), .d (.int .i64 0), .sl [] .full]], T⟩ (Ab.Left ⟨B, T⟩ (Same (.d (.bool ((decide (1 ≤ n.kind) && (decide (n.kind ≤ 14) && kindK l n)) && bareN n))) ⟨B, T⟩)) := by
 have hbl := isD_len n.branches
 by_cases h9 : n.kind = 9
 ·have hm : plL (mB n.kind (mN n).name al (.d (.sl (n.fields.map fdD))) (.sl [] .full) false [] 0 0 (.sl [] .full)) = ndB (mN n) := by
   simp only [mB, plL, pl, hal, ndB]
   simp [mN, h9, ssD, isD]
  have ht := node_9 l root n h9 hs hm N B hn T
  unfold kindK
  rw [if_pos h9]
  have ek : (decide (1 ≤ n.kind) && (decide (n.kind ≤ 14) && kind9 n)) = kind9 n := by rw [h9]; rfl
  rw [ek]
  unfold mB at ht
  rw [h9] at ht ⊢
  refine goN ?_
  simp only [W, seval, b39, hn, ndB, h9, decide_true, decide_false]
  unfold ndB at ht
  rw [h9] at ht
  exact ARun.weak envA ht
 by_cases h10 : n.kind = 10
 ·have hm : plL (mB n.kind (mN n).name al (.sl [] .full) (.d (.sl (ssD n.symbols))) n.has n.dflt 0 0 (.sl [] .full)) = ndB (mN n) := by
   simp only [mB, plL, pl, hal, ndB]
   simp [mN, h10, ssD, isD]
  have ht := node_10 l root n h10 hs hm N B hn T
  unfold kindK
  rw [if_neg h9, if_pos h10]
  have ek : (decide (1 ≤ n.kind) && (decide (n.kind ≤ 14) && kind10 n)) = kind10 n := by rw [h10]; rfl
  rw [ek]
  unfold mB at ht
  rw [h10] at ht ⊢
  refine goN ?_
  simp only [W, seval, b39, hn, ndB, h10, decide_true, decide_false]
  unfold ndB at ht
  rw [h10] at ht
  exact ARun.weak envA ht
 by_cases h14 : n.kind = 14
 ·have hm : plL (mB n.kind (mN n).name al (.sl [] .full) (.sl [] .full) false [] n.size 0 (.sl [] .full)) = ndB (mN n) := by
   simp only [mB, plL, pl, hal, ndB]
   simp [mN, h14, ssD, isD]
  have hsm := fun B T => sameM n hs hm B T
  unfold kindK
  rw [if_neg h9, if_neg h10, if_pos h14]
  unfold mB ndB at hsm
  rw [h14] at hsm ⊢
  cases c1 : decide (0 ≤ n.size)
  ·refine goN ?_
   simp only [W, seval, b39, hn, ndB, h14, c1, decide_true, decide_false]
   refine retN b39 (Left.box ?_)
   exact ⟨rfl, rfl⟩
  cases c2 : decide (n.size ≤ 1000)
  ·refine goN ?_
   simp only [W, seval, b39, hn, ndB, h14, c1, c2, decide_true, decide_false]
   refine retN b39 (Left.box ?_)
   exact ⟨rfl, rfl⟩
  refine goN ?_
  simp only [W, seval, b39, hn, ndB, h14, c1, c2, decide_true, decide_false]
  refine callN (hsm _ _) ?_
  refine goN ?_
  simp only [W, seval, b39, hn]
  refine retN b39 (Left.box ?_)
  exact ⟨rfl, rfl⟩
 by_cases h13 : n.kind = 13
 ·skip
  unfold kindK
  rw [if_neg h9, if_neg h10, if_neg h14, if_pos h13]
  rw [h13]
  have hp0 : decide ((0 : Int) < (n.branches.length : Int)) = decide (0 < n.branches.length) := decide_eq_decide.2 (by omega)
  have hp1 : decide ((n.branches.length : Int) ≤ 10) = decide (n.branches.length ≤ 10) := decide_eq_decide.2 (by omega)
  have hm : plL (mB n.kind (mN n).name al (.sl [] .full) (.sl [] .full) false [] 0 0 (.d (.sl (isD n.branches)))) = ndB (mN n) := by
   simp only [mB, plL, pl, hal, ndB]
   simp [mN, h13, ssD, isD]
  have ht := fun ok0 => node_13 l root n hs (hb h13) hm ok0 N B hn T
  unfold mB ndB at ht
  rw [h13] at ht
  cases c1 : decide (0 < n.branches.length) <;> cases c2 : decide (n.branches.length ≤ 10)
  all_goals
   refine goN ?_
   simp only [W, seval, b39, hn, ndB, h13, hbl, hp0, hp1, c1, c2, decide_true, decide_false]
  ·have ht := ht false
   exact ARun.weak envA ht
  ·have ht := ht false
   exact ARun.weak envA ht
  ·have ht := ht false
   exact ARun.weak envA ht
  ·have ht := ht true
   exact ARun.weak envA ht
 have e9 : decide (n.kind = 9) = false := decide_eq_false h9
 have e10 : decide (n.kind = 10) = false := decide_eq_false h10
 have e13 : decide (n.kind = 13) = false := decide_eq_false h13
 have e14 : decide (n.kind = 14) = false := decide_eq_false h14
 unfold kindK
 rw [if_neg h9, if_neg h10, if_neg h14, if_neg h13]
 have hsm0 : ∀ (it : Int) (hit : (mN n).items = it) (B : List (List V)) T, AFn Tryz.prog TabI 65 [.agg (ndB n), .agg (mB n.kind (mN n).name al (.sl [] .full) (.sl [] .full) false [] 0 it (.sl [] .full))] ⟨B, T⟩ (Same (.d (.bool (bareN n))) ⟨B, T⟩) := fun it hit B T => sameM n hs (by
  simp only [mB, plL, pl, hal, ndB, hit]
  simp [mN, h9, h10, h13, h14, ssD, isD]) B T
 unfold mB ndB at hsm0
 by_cases h1 : 1 ≤ n.kind
 case neg =>
  have e1 : decide (1 ≤ n.kind) = false := decide_eq_false h1
  have e11 : decide (n.kind = 11) = false := decide_eq_false (by omega)
  have e12 : decide (n.kind = 12) = false := decide_eq_false (by omega)
  rw [e1]
  refine goN ?_
  simp only [W, seval, b39, hn, ndB, e1, e9, e10, e11, e12, e13, e14]
  refine retN b39 (Left.box ?_)
  exact ⟨rfl, rfl⟩
 have e1 : decide (1 ≤ n.kind) = true := decide_eq_true h1
 by_cases h2 : n.kind ≤ 14
 case neg =>
  have e2 : decide (n.kind ≤ 14) = false := decide_eq_false h2
  have e11 : decide (n.kind = 11) = false := decide_eq_false (by omega)
  have e12 : decide (n.kind = 12) = false := decide_eq_false (by omega)
  rw [e1, e2]
  refine goN ?_
  simp only [W, seval, b39, hn, ndB, e1, e2, e9, e10, e11, e12, e13, e14]
  refine retN b39 (Left.box ?_)
  exact ⟨rfl, rfl⟩
 have e2 : decide (n.kind ≤ 14) = true := decide_eq_true h2
 rw [e1, e2]
 by_cases h11 : n.kind = 11
 ·have e11 : decide (n.kind = 11) = true := decide_eq_true h11
  have hsm := hsm0 n.items (by simp [mN, h11])
  refine goN ?_
  simp only [W, seval, b39, hn, ndB, e1, e2, e9, e10, e11, e13, e14]
  refine callN (hsm _ _) ?_
  refine goN ?_
  simp only [W, seval, b39, hn]
  refine retN b39 (Left.box ?_)
  exact ⟨rfl, rfl⟩
 have e11 : decide (n.kind = 11) = false := decide_eq_false h11
 by_cases h12 : n.kind = 12
 ·have e12 : decide (n.kind = 12) = true := decide_eq_true h12
  have hsm := hsm0 n.items (by simp [mN, h12])
  refine goN ?_
  simp only [W, seval, b39, hn, ndB, e1, e2, e9, e10, e11, e12, e13, e14]
  refine callN (hsm _ _) ?_
  refine goN ?_
  simp only [W, seval, b39, hn]
  refine retN b39 (Left.box ?_)
  exact ⟨rfl, rfl⟩
 have e12 : decide (n.kind = 12) = false := decide_eq_false h12
 have hsm := hsm0 0 (by simp [mN, h11, h12])
 refine goN ?_
 simp only [W, seval, b39, hn, ndB, e1, e2, e9, e10, e11, e12, e13, e14]
 refine callN (hsm _ _) ?_
 refine goN ?_
 simp only [W, seval, b39, hn]
 refine retN b39 (Left.box ?_)
 exact ⟨rfl, rfl⟩
set_option maxHeartbeats 8000000 in
theorem nodeD_ab (l : List NdT) (root : Int) (n : NdT) (hs : SmN n) (hb : n.kind = 13 → ∀ k ∈ n.branches, 0 ≤ k ∧ k < (l.length : Int)) (B : List (List V)) (T : List (Nat × Nat)) :
 AFn Tryz.prog TabI 39 [.agg [.d (.sl (l.map ndD)), .d (.int .i64 root)], ndV n] ⟨B, T⟩ (Same (.d (.bool (nodeR SimpleS FullS kindI rjJ zjJ (kdN l) n))) ⟨B, T⟩) := by
 obtain ⟨N, hn⟩ : ∃ N, B.length = N := ⟨_, rfl⟩
 have hR : nodeR SimpleS FullS kindI rjJ zjJ (kdN l) n = ((!namedB n.kind || (FullS n.name && (!decide (0 < kindI n.name) && (decide (n.aliases.length ≤ 40) && n.aliases.all FullS)))) && ((decide (1 ≤ n.kind) && (decide (n.kind ≤ 14) && kindK l n)) && bareN n)) := rfl
 rw [hR]
 have ht := fun al hal => node_tail l root n hs hb al hal N B hn T
 obtain ⟨R, hRR⟩ : ∃ r, ((decide (1 ≤ n.kind) && (decide (n.kind ≤ 14) && kindK l n)) && bareN n) = r := ⟨_, rfl⟩
 rw [hRR] at ht ⊢
 unfold ndV
 refine enS b39 fun hsm => ?_
 simp only [smw] at hsm
 simp only [W, seval, b39, hn]
 refine callN (namedD_ab _ _) ?_
 unfold scB ndB at ht
 cases hnb : namedB n.kind
 ·refine ARun.go 3 ?_
  simp only [W, seval, b39, hn, hnb]
  rw [Bool.true_or, Bool.true_and]
  have ht := ht (.sl [] .full) (by simp [pl, mN, hnb, ssD])
  rw [show (mN n).name = [] by simp [mN, hnb]] at ht
  exact ARun.weak envA ht
 ·have ht := ht (.d (.sl (ssD n.aliases))) (by simp [pl, mN, hnb])
  rw [show (mN n).name = n.name by simp [mN, hnb]] at ht
  rw [Bool.not_true, Bool.false_or]
  refine goN ?_
  simp only [W, seval, b39, hn]
  refine callN (fullR_ab _ _) ?_
  cases hfu : FullS n.name
  ·refine goN ?_
   simp only [W, seval, b39, hn, hfu]
   refine retN b39 (Left.box ?_)
   exact ⟨rfl, rfl⟩
  refine goN ?_
  simp only [W, seval, b39, hn, hfu]
  refine callN (kindR_ab _ _) ?_
  cases hkw : decide (0 < kindI n.name)
  case true =>
   have hkw' : decide ((0 : Int) < (kindS n.name : Int)) = true := hkw
   refine goN ?_
   simp only [W, seval, b39, hn, hkw']
   refine retN b39 (Left.box ?_)
   exact ⟨rfl, rfl⟩
  have hkw' : decide ((0 : Int) < (kindS n.name : Int)) = false := hkw
  have hll := ssD_len n.aliases
  have hal := hs.1.2.1
  have hp : decide ((40 : Int) < (n.aliases.length : Int)) = !decide (n.aliases.length ≤ 40) := by
   rw [← decide_not]
   exact decide_eq_decide.2 (by omega)
  cases h40 : decide (n.aliases.length ≤ 40)
  ·refine goN ?_
   simp only [W, seval, b39, hn, hkw', hll, hp, h40, Bool.not_false]
   refine retN b39 (Left.box ?_)
   exact ⟨rfl, rfl⟩
  refine goN ?_
  simp only [W, seval, b39, hn, hkw', hll, hp, h40, Bool.not_true]
  obtain ⟨r2, hr2⟩ : ∃ r, (n.aliases.all FullS && R) = r := ⟨_, rfl⟩
  rw [hr2]
  refine ARun.loopW (fun i : Nat => (envS 297 [(2, .ptr N 0), (3, .ptr (N + 1) 0), (5, .ptr (N + 2) 0), (6, .d (.int .i64 (i : Int)))], ⟨B ++ [scB l root, ndB n, [.d (.int .i64 n.kind), .d (.str n.name), .d (.sl (ssD n.aliases)), .sl [] .full, .sl [] .full, .d (.bool false), .d (.str []), .d (.int .i64 0), .d (.int .i64 0), .sl [] .full]], T⟩)) (fun i => i ≤ n.aliases.length ∧ ((n.aliases.drop i).all FullS && R) = r2) (fun i => n.aliases.length - i) 0 ⟨by omega, hr2⟩ envA rfl ?_
  rintro i ⟨h1, h2⟩ ih
  dsimp only at h1 h2 ih ⊢
  by_cases hlt : i < n.aliases.length
  case neg =>
   have e2 : decide ((i : Int) < (n.aliases.length : Int)) = false := decide_eq_false (by omega)
   rw [List.drop_eq_nil_of_le (by omega), List.all_nil, Bool.true_and] at h2
   rw [← h2]
   refine ARun.go 11 ?_
   simp only [W, seval, b39, hn, ndB, scB, hll, e2]
   exact ARun.weak envA ht
  have e2 : decide ((i : Int) < (n.aliases.length : Int)) = true := decide_eq_true (by omega)
  have hw := wrap_in ((i : Int) + 1) (by omega)
  have hg := ssD_at hlt
  rw [drop_get hlt, List.all_cons] at h2
  obtain ⟨x, hxx⟩ : ∃ x, n.aliases[i] = x := ⟨_, rfl⟩
  rw [hxx] at hg h2
  refine goN ?_
  simp only [W, seval, b39, hn, ndB, scB, hll, e2, hg]
  refine callN (fullR_ab x _) ?_
  cases hb : FullS x
  ·rw [hb, Bool.false_and, Bool.false_and] at h2
   refine goN ?_
   simp only [W, seval, b39, hn, hb]
   refine retN b39 (Left.box ?_)
   rw [← h2]
   exact ⟨rfl, rfl⟩
  ·rw [hb, Bool.true_and] at h2
   refine goN ?_
   simp only [W, seval, b39, hn, hb, hw]
   exact ih (i + 1) ⟨by omega, h2⟩ (by omega) _ _ envA rfl
def b15 := KB Tryz.func15 51
def nodeRi (l : List NdT) (i : Nat) : Bool := nodeR SimpleS FullS kindI rjJ zjJ (kdN l) (ndN l i)
theorem simple_nil : SimpleS [] = false := rfl
theorem kindI_nn (s : List UInt8) : 0 ≤ kindI s := Int.natCast_nonneg _
theorem nodeN_R (l : List NdT) (i : Nat) : nodeN rjJ zjJ l i = nodeRi l i := node_same SimpleS FullS kindI rjJ zjJ (kdN l) simple_nil kindI_nn (ndN l i)
theorem nodeR_full {l : List NdT} {i : Nat} (h : nodeRi l i = true) (hn : namedB (ndN l i).kind = true) : FullS (ndN l i).name = true := by
 unfold nodeRi nodeR at h
 rw [hn] at h
 simp only [Bool.not_true, Bool.false_or, Bool.and_eq_true] at h
 exact h.1.1
theorem rightP_R {s : ScT} (hs : SmS s) (ho : orderedN s = true) {lw : List Int} (h1 : RndW (fN s.nodes) s.nodes.length lw) (h2 : stepW (fN s.nodes) s.nodes.length lw = lw) :
 rightP rjJ zjJ s = (((List.range s.nodes.length).all fun i => nodeRi s.nodes i && decide (gk lw i ≤ 1000)) && onceF [] (namesN s.nodes)) := by
 obtain ⟨hl, hk⟩ := ordered_kids ho
 have hE : ∀ a, a < s.nodes.length → ∀ k ∈ fN s.nodes a, k < s.nodes.length := fun a ha k hkk => by
  unfold fN at hkk
  split at hkk
  ·rename_i h9
   obtain ⟨x, hx, rfl⟩ := List.mem_map.1 hkk
   have := hk a ha _ (kids_9 h9 hx)
   omega
  ·exact absurd hkk List.not_mem_nil
 unfold rightP
 rw [ho, Bool.true_and, scan_rnd hE (s.nodes.length + 1) (by omega) (nodeN rjJ zjJ s.nodes) h1 h2, diffF_eq]
 have hA : (fun i => nodeN rjJ zjJ s.nodes i && decide (gk lw i ≤ 1000)) = fun i => nodeRi s.nodes i && decide (gk lw i ≤ 1000) := by
  funext i
  rw [nodeN_R]
 rw [hA]
 cases hall : (List.range s.nodes.length).all fun i => nodeRi s.nodes i && decide (gk lw i ≤ 1000)
 ·rfl
 ·have hf : (namesN s.nodes).all FullS = true := by
   rw [List.all_eq_true]
   intro x hx
   unfold namesN at hx
   obtain ⟨n, hn, rfl⟩ := List.mem_map.1 hx
   obtain ⟨hn1, hn2⟩ := List.mem_filter.1 hn
   obtain ⟨i, hi, rfl⟩ := List.mem_iff_getElem.1 hn1
   have hi2 := (Bool.and_eq_true _ _ ▸ List.all_eq_true.1 hall i (List.mem_range.2 hi))
   have hi3 : nodeRi s.nodes i = true := hi2.1
   have := nodeR_full hi3 (by rw [ndN_at hi]; exact hn2)
   rwa [ndN_at hi] at this
  rw [hf]
  rfl
set_option maxHeartbeats 16000000 in
theorem rightD_ab (s : ScT) (hs : SmS s) (B : List (List V)) (T : List (Nat × Nat)) :
 AFn Tryz.prog TabI 15 [scV s] ⟨B, T⟩ (Same (.d (.bool (rightP rjJ zjJ s))) ⟨B, T⟩) := by
 obtain ⟨N, hn⟩ : ∃ N, B.length = N := ⟨_, rfl⟩
 obtain ⟨M, hM⟩ : ∃ M, T.length = M := ⟨_, rfl⟩
 have ho := fun B T => orderedD_ab s hs B T
 unfold scV at ho ⊢
 refine enS b15 fun hsm => ?_
 simp only [smw] at hsm
 simp only [W, seval, b15, hn]
 refine callN (ho _ _) ?_
 cases hor : orderedN s
 ·have hrp : rightP rjJ zjJ s = false := by unfold rightP; rw [hor]; rfl
  rw [hrp]
  refine goN ?_
  simp only [W, seval, b15, hn]
  refine retN b15 (Left.box ?_)
  exact ⟨rfl, rfl⟩
 obtain ⟨hl, hk⟩ := ordered_kids hor
 refine goN ?_
 simp only [W, seval, b15, hn]
 refine callS_fn (weights_ab s.nodes s.root hs.2 hl (fun a ha h x hx => hk a ha _ (kids_9 h hx)) _ _) ?_
 rintro _ _ ⟨lw, hr1, hr2, rfl, rfl⟩
 have hlw := rnd_len hr1
 have hll := isD_len lw
 rw [rightP_R hs hor hr1 hr2]
 obtain ⟨R, hR⟩ : ∃ R, (((List.range s.nodes.length).all fun i => nodeRi s.nodes i && decide (gk lw i ≤ 1000)) && onceF [] (namesN s.nodes)) = R := ⟨_, rfl⟩
 rw [hR]
 refine goN ?_
 simp only [W, seval, b15, hn, hM]
 refine ARun.fits fun hf => ?_
 refine ARun.token 4 [] (by rfl) 1 (by omega) rfl ?_
 simp only [envS_put, hM]
 refine ARun.loopA (fun i : Nat => (envS 51 [(1, .ptr N 0), (3, .d (.sl (isD lw))), (4, .sl (ssD (namesN (s.nodes.take i))) (.own M)), (5, .d (.int .i64 (i : Int)))], ⟨B ++ [[.d (.sl (s.nodes.map ndD)), .d (.int .i64 s.root)]], T ++ [((namesN (s.nodes.take i)).length, 1)]⟩)) (fun i => i ≤ s.nodes.length ∧ ((((List.range s.nodes.length).drop i).all fun i => nodeRi s.nodes i && decide (gk lw i ≤ 1000)) && onceF [] (namesN s.nodes)) = R) (fun i => s.nodes.length - i) 0 ⟨by omega, hR⟩ envA rfl ?_
 rintro i ⟨g1, g4⟩ ih
 dsimp only at g1 g4 ih ⊢
 by_cases hlt : i < s.nodes.length
 case neg =>
  have e3 : decide ((i : Int) < (s.nodes.length : Int)) = false := decide_eq_false (by omega)
  rw [List.drop_eq_nil_of_le (by simp; omega), List.all_nil, Bool.true_and] at g4
  rw [List.take_of_length_le (by omega)]
  have hnl : (namesN s.nodes).length ≤ 1000000 := by
   unfold namesN
   rw [List.length_map]
   exact Nat.le_trans (List.length_filter_le _ _) (by omega)
  refine goN ?_
  simp only [W, seval, b15, hn, e3]
  refine callN (AFn.pl (onceD_ab (namesN s.nodes) hnl _ _)) ?_
  refine goN ?_
  simp only [W, seval, b15, hn]
  refine retN b15 (Left.all ?_)
  rw [← g4]
  exact ⟨rfl, rfl⟩
 have e3 : decide ((i : Int) < (s.nodes.length : Int)) = true := decide_eq_true (by omega)
 have hw := wrap_in ((i : Int) + 1) (by omega)
 have hg := nd_row (l := s.nodes) (m := (i : Int)) (by omega) (by omega)
 rw [ndD_eq] at hg
 simp only [Int.toNat_natCast] at hg
 have hsx : SmN (ndN s.nodes i) := by rw [ndN_at hlt]; exact hs.2 _ (List.getElem_mem hlt)
 have hnode := fun B T => nodeD_ab s.nodes s.root (ndN s.nodes i) hsx (fun h k hk' => hk i hlt k (by rw [kids_13 h]; exact hk')) B T
 have htk := namesN_snoc s.nodes i hlt
 have hrd : (List.range s.nodes.length).drop i = i :: (List.range s.nodes.length).drop (i + 1) := by
  rw [List.drop_eq_getElem_cons (by simpa using hlt), List.getElem_range]
 rw [hrd, List.all_cons] at g4
 have hiw : i < lw.length := by rw [hlw]; exact hlt
 have hgw := isD_at hiw
 have hgk : lw[i] = gk lw i := by unfold gk; simp [List.getD, hiw]
 rw [hgk] at hgw
 have hnr : nodeRi s.nodes i = nodeR SimpleS FullS kindI rjJ zjJ (kdN s.nodes) (ndN s.nodes i) := rfl
 rw [hnr] at g4
 obtain ⟨x, hx⟩ : ∃ x, ndN s.nodes i = x := ⟨_, rfl⟩
 rw [hx] at hg hsx hnode htk g4
 obtain ⟨q, hq⟩ : ∃ q, gk lw i = q := ⟨_, rfl⟩
 rw [hq] at hgw g4
 unfold ndV at hnode
 have hlti : (i : Int) < (s.nodes.length : Int) := by omega
 have hltw : (i : Int) < (lw.length : Int) := by omega
 cases hnp : nodeR SimpleS FullS kindI rjJ zjJ (kdN s.nodes) x
 ·rw [hnp, Bool.false_and, Bool.false_and, Bool.false_and] at g4
  refine goN ?_
  simp only [W, seval, b15, hn, e3]
  refine drXA 15 [] [N] ?_
  simp (maxSteps := 4000000) only [W, seval, b15, xw, hn, hg, hlt, hlti, hgw, hiw, hltw, hll]
  refine callX_fn (fun Z => hnode _ _) ?_
  simp (maxSteps := 4000000) only [W, seval, b15, xw, hn, hnp, Bool.not_false]
  refine goN ?_
  simp only [W, seval, b15, hn]
  refine retN b15 (Left.all ?_)
  rw [← g4]
  exact ⟨rfl, rfl⟩
 rw [hnp, Bool.true_and] at g4
 have e5 : decide ((1000 : Int) < q) = !decide (q ≤ 1000) := by
  rw [← decide_not]
  exact decide_eq_decide.2 (by omega)
 cases hq1 : decide (q ≤ 1000)
 ·rw [hq1, Bool.false_and, Bool.false_and] at g4
  refine goN ?_
  simp only [W, seval, b15, hn, e3]
  refine drXA 15 [] [N] ?_
  simp (maxSteps := 4000000) only [W, seval, b15, xw, hn, hg, hlt, hlti, hgw, hiw, hltw, hll]
  refine callX_fn (fun Z => hnode _ _) ?_
  simp (maxSteps := 4000000) only [W, seval, b15, xw, hn, hnp, hgw, hiw, hltw, hll, e5, hq1, Bool.not_true, Bool.not_false]
  refine goN ?_
  simp only [W, seval, b15, hn]
  refine retN b15 (Left.all ?_)
  rw [← g4]
  exact ⟨rfl, rfl⟩
 rw [hq1, Bool.true_and] at g4
 have hnl : (namesN (s.nodes.take i)).length ≤ 200 := by
  unfold namesN
  rw [List.length_map]
  exact Nat.le_trans (List.length_filter_le _ _) (by rw [List.length_take]; omega)
 have hB0 : ∀ L : List (List V), ∀ q, (⟨L, T ++ [q]⟩ : Mem) = ⟨L ++ [], (T ++ [q]) ++ []⟩ := fun L q => by simp
 have hfit : ∀ q, Fits ⟨B ++ [[V.d (.sl (s.nodes.map ndD)), .d (.int .i64 s.root)]], T ++ [q]⟩ := fun q => by
  have := hf.more (X := []) (Y := [q]) (fun _ h => absurd h List.not_mem_nil)
  simpa using this
 refine goN ?_
 simp only [W, seval, b15, hn, e3]
 refine drXA 15 [] [N] ?_
 simp (maxSteps := 4000000) only [W, seval, b15, xw, hn, hg, hlt, hlti, hgw, hiw, hltw, hll]
 refine callX_fn (fun Z => hnode _ _) ?_
 simp (maxSteps := 4000000) only [W, seval, b15, xw, hn, hnp, hgw, hiw, hltw, hll, e5, hq1, Bool.not_true, Bool.not_false]
 refine goN ?_
 simp only [W, seval, b15, hn, hg, hlt, hlti]
 refine callN (namedD_ab _ _) ?_
 cases hnb : namedB x.kind
 ·rw [hnb, if_neg (by decide)] at htk
  refine goN ?_
  simp only [W, seval, b15, hn, hw]
  rw [hB0]
  refine ih (i + 1) ⟨by omega, g4⟩ (by omega) _ _ _ _ _ (by rw [htk]) ⟨by simp; omega, by simp; omega⟩ (hfit _) ?_
  refine AgreeF.env _ ?_
  simp only [agf, seval, hn, htk]
  exact ⟨decide_eq_true (by simp; omega), decide_eq_true (by simp; omega)⟩
 ·rw [hnb, if_pos rfl] at htk
  have hcap : ((namesN (s.nodes.take i)).length + 1) * 16 ≤ 140737488355328 := by omega
  have hr2 : rowsSz 1 [[D.str x.name]] = true := rfl
  refine goN ?_
  simp only [W, seval, b15, hn, hM, hg, hlt, hlti, hcap, ssD_snoc, Nat.reduceMul, mapX_nil, mapX_cons, hr2, ← htk, hw]
  rw [hB0]
  refine ih (i + 1) ⟨by omega, g4⟩ (by omega) _ _ _ _ _ (by rw [htk]; simp) ⟨by simp; omega, by simp; omega⟩ (hfit _) ?_
  refine AgreeF.env _ ?_
  simp only [agf, seval, hn]
  exact ⟨decide_eq_true (by simp; omega), decide_eq_true (by simp; omega)⟩
end Go.Proofs.YtkgbbcnjkojocaaGreatDoor
