/- mangle.Name: a program's name for a text. -/
import Derived.Test.YtaelanpmgckfkaaRRRRDoorMangle
import Derived.BigQuiet
import Derived.Deep.RegionLaw
import Derived.BigRegion
namespace Go.Proofs.YtaelanpmgckfkaaRRRRDoor
open Go.RowKit Go.Av

/-- A hexadecimal digit. -/
def hexB (d : Nat) : UInt8 := [48, 49, 50, 51, 52, 53, 54, 55, 56, 57, 97, 98, 99, 100, 101, 102].getD d 0
/-- A byte of a text, in a name. -/
def nameB (c : UInt8) : List UInt8 :=
  if plainB c then [c] else if c.toNat = 95 then [95, 95] else if c.toNat = 46 then [95, 111] else [95, 120, hexB (c.toNat / 16), hexB (c.toNat % 16)]
def nameL (l : List UInt8) : List UInt8 := 78 :: l.flatMap nameB
theorem nameB_length (c : UInt8) : (nameB c).length ≤ 4 := by
  unfold nameB
  repeat' split
  all_goals simp
theorem nameL_length (l : List UInt8) : (nameL l).length ≤ 4 * l.length + 1 := by
  unfold nameL
  induction l with
  | nil => simp
  | cons c l ih =>
    have := nameB_length c
    simp at ih ⊢
    omega
theorem nameL_snoc (l : List UInt8) (c : UInt8) : nameL (l ++ [c]) = nameL l ++ nameB c := by simp [nameL]


theorem index_hex (x : Nat) (hx : x < 16) : ∀ W, (Instr.index 9 (.string ⟨#[48, 49, 50, 51, 52, 53, 54, 55, 56, 57, 97, 98, 99, 100, 101, 102]⟩) (.int .u8 (x : Int))).run Tryd.prog W = .ok (.int .u8 ((hexB x).toNat : Int)) W := by
  intro W
  have : x = 0 ∨ x = 1 ∨ x = 2 ∨ x = 3 ∨ x = 4 ∨ x = 5 ∨ x = 6 ∨ x = 7 ∨ x = 8 ∨ x = 9 ∨ x = 10 ∨ x = 11 ∨ x = 12 ∨ x = 13 ∨ x = 14 ∨ x = 15 := by omega
  rcases this with rfl | rfl | rfl | rfl | rfl | rfl | rfl | rfl | rfl | rfl | rfl | rfl | rfl | rfl | rfl | rfl 
  all_goals
    show _ = _
    kernel_rfl

theorem ones_of4 {a b c d : Int} : ∀ u ∈ [Value.int .u8 a, .int .u8 b, .int .u8 c, .int .u8 d], u.oneCell' = true := by
  intro u hu
  simp only [List.mem_cons, List.not_mem_nil, or_false] at hu
  rcases hu with rfl | rfl | rfl | rfl <;> rfl

/-- append as one step of a region that draws its order: onto what is owned. -/
theorem step_app {P : Program} {ops : Array Oper} {o : Oper} {a : Act} {w : World} {K : Act → World → Prop} {Q : Exit → Act → World → Prop} {E : Prop}
    (hg : o.guard = none) {t e size bytes : Nat} {z : Value} (T : SlTy P t e size bytes z)
    (s x : Operand) (ho : o.op = .call { callee := .builtin .append, args := #[s, x], argTypes := #[t, t] }) (B : Nat)
    (v : Value) (n : Nat) (xs : List Value) (hs : a.eval s = v) (hown : Own w B e size v n xs)
    (g off m c : Nat) (hx : a.eval x = .slice (some ⟨g, off, none⟩) m c) (news : List Value) (hl : news.length = m * size) (hnews : ∀ j u, news[j]? = some u → w.cell? ⟨g, off + j, none⟩ = some u) (h1 : ∀ u ∈ news, u.oneCell' = true)
    (h63 : n + m ≤ maxLen) (hbytes : (n + m) * bytes ≤ 140737488355328) (hbase : B ≤ w.heap.size)
    (h : ∀ v' w', Own w' B e size v' (n + m) (xs ++ news) → Grew w v w' v' → K (a.put o.dst v') w') :
    if Region.wanted o (yielded ops a.tmps) = true then Oper.wp P o a w K Q else E := by
  have hw : Region.wanted o (yielded ops a.tmps) = true := by simp [Region.wanted, hg]
  rw [if_pos hw]
  obtain ⟨i, hi, hz, hsz, hby⟩ : ∃ i, P.info? e = some i ∧ i.zero = some z ∧ i.size = size ∧ i.bytes = bytes := by
    have hT := T.info
    cases hq : P.info? e with
    | none => simp [hq] at hT
    | some i => simp [hq] at hT; exact ⟨i, rfl, hT.1, hT.2.1, hT.2.2⟩
  obtain ⟨v', w', hr, h2, h3⟩ := run_append (P := P) B t t o.type e i z size bytes T.under ⟨_, T.under, by simp⟩ hi hz hsz hby T.zsize v n xs hown _ m news hl (fun W => by simp [Builtin.lenOf])
    (fun W hW => run_firstCells_some (P := P) W size m ⟨g, off, none⟩ m c news hl (fun j u hu => by
      rw [Addr.add_plain]
      have := hnews j u hu
      simpa [World.cell?, hW] using this)) h1 h63 hbytes hbase
  unfold Oper.wp execOp
  simp only [ho, resolve, invoke, builtin, Sem.run_bind, Sem.run_pure, Result.andThen_ok, List.map_toArray, List.map_cons, List.map_nil, hs, hx, hr]
  exact h v' w' h2 h3

theorem ownB_of {w : World} {B : Nat} {v : Value} {n : Nat} {xs : List Value} {bs : List UInt8} (h : Own w B 5 1 v n xs) (hx : xs = bv bs) : OwnB w B v bs := by
  subst hx
  have : bs.length = n := by have := h.1; rw [bv_length] at this; omega
  unfold OwnB
  rw [this]
  exact h
theorem take_name (s : ByteArray) (k : Nat) (h : k < s.size) : nameL (s.data.toList.take (k + 1)) = nameL (s.data.toList.take k) ++ nameB s[k] := by
  rw [List.take_succ_eq_append_getElem (by simpa using h), nameL_snoc]
  rfl
theorem bv_cons (c : UInt8) (bs : List UInt8) : bv (c :: bs) = Value.int .u8 (c.toNat : Int) :: bv bs := rfl

set_option maxRecDepth 100000 in
set_option maxHeartbeats 400000 in
theorem mName (s : ByteArray) (w : World) (hs : s.size ≤ 1099511627) :
    Calls Tryd.prog 38 #[.string s] w (Texts (nameL s.data.toList) w) := by
  go_enter Tryd.func38, Tryd.ntmps38
  go_wp2_with fail
  go_loopw [3, 9] (fun v i wr => ∃ k : Nat, i = .int .i64 k ∧ k ≤ s.size ∧ Hid (OwnB wr w.heap.size v (nameL (s.data.toList.take k))) ∧ Below w.heap.size w wr) (fun _ i _ => (s.size - intOf i).toNat)
  case atStart =>
    refine ⟨0, rfl, by omega, Lib.hid ?_, (Below.refl _ _).alloc (Nat.le_refl _) _⟩
    refine ⟨rfl, .inr ⟨w.heap.size, 0, 1, #[.int .u8 78], (0, 0), rfl, Nat.le_refl _, heap_alloc_new w _, by simp [nameL], by decide, by decide, by simp, rfl⟩⟩
  case round =>
    obtain ⟨k, rfl, hk, HO, hb⟩ := hrel
    have hsz := hb.size
    by_cases hlt : k < s.size
    · have hc : (s[k].toNat : Int) < 256 := by have := s[k].toNat_lt; omega
      have hlen := nameL_length (s.data.toList.take k)
      have htl : (s.data.toList.take k).length ≤ k := List.length_take_le _ _
      have HT := Lib.hid (take_name s k hlt)
      by_cases hp : plainB s[k] = true
      · have HN : Hid (nameB s[k] = [s[k]]) := by unfold Hid nameB; rw [if_pos hp]
        go_wp2_with (first | (at_builtin; refine wpList_app_slice rfl slBytes (.tmp 24) (.tmp 26) rfl w.heap.size u3 _ _ rfl (HO.out.alloc _) wr.heap.size 0 1 1 rfl [.int .u8 (s[k].toNat : Int)] rfl (news_lit _ _ _) (one_of rfl) (by unfold maxLen; omega) (by omega) (by simp; omega) ?_; intro v1 w1 ho1 hg1) | (go_at_call 68; refine (mplain _ _).mono ?_; rintro e w' ⟨rfl, rfl⟩))
        go_roundw
        case rel =>
          refine ⟨k + 1, by go_num, by omega, Lib.hid (ownB_of ho1 ?_), (hb.alloc hsz _).grown hg1.grown (by simp; omega) (fun k hk => (HO.out.lt k hk).1)⟩
          rw [HT.out, HN.out, bv_append]; rfl
        case measure => simp [intOf]; omega
      · by_cases h95 : (s[k].toNat : Int) = 95
        · have HN : Hid (nameB s[k] = [95, 95]) := by unfold Hid nameB; rw [if_neg hp, if_pos (by omega)]
          have hb95 : ((s[k].toNat : Int) == 95) = true := by simpa using h95
          have hb46 : ((s[k].toNat : Int) == 46) = false := by rw [h95]; rfl
          clear h95
          go_wp2_with (first | (at_builtin; refine wpList_app_slice rfl slBytes (.tmp 28) (.tmp 29) rfl w.heap.size u3 _ _ rfl (HO.out.alloc _) wr.heap.size 0 1 1 rfl [.int .u8 95] rfl (news_lit _ _ _) (one_of rfl) (by unfold maxLen; omega) (by omega) (by simp; omega) ?_; intro v1 w1 ho1 hg1; have hb1 : Below w.heap.size w w1 := (hb.alloc hsz _).grown hg1.grown (by simp; omega) (fun k hk => (HO.out.lt k hk).1); have hsz1 := hb1.size) | (at_builtin; refine wpList_app_slice rfl slBytes (.tmp 31) (.tmp 32) rfl w.heap.size v1 _ _ rfl (ho1.alloc _) w1.heap.size 0 1 1 rfl [.int .u8 95] rfl (news_lit _ _ _) (one_of rfl) (by unfold maxLen; omega) (by omega) (by simp; omega) ?_; intro v2 w2 ho2 hg2) | (go_at_call 68; refine (mplain _ _).mono ?_; rintro e w' ⟨rfl, rfl⟩))
          go_roundw
          case rel =>
            refine ⟨k + 1, by go_num, by omega, Lib.hid (ownB_of ho2 ?_), (hb1.alloc hsz1 _).grown hg2.grown (by simp; omega) (fun k hk => (ho1.lt k hk).1)⟩
            rw [HT.out, HN.out, bv_append, List.append_assoc]; rfl
          case measure => simp [intOf]; omega
        · by_cases h46 : (s[k].toNat : Int) = 46
          · have HN : Hid (nameB s[k] = [95, 111]) := by unfold Hid nameB; rw [if_neg hp, if_neg (by omega), if_pos (by omega)]
            have hb95 : ((s[k].toNat : Int) == 95) = false := by rw [h46]; rfl
            have hb46 : ((s[k].toNat : Int) == 46) = true := by simpa using h46
            clear h46 h95
            go_wp2_with (first | (at_builtin; refine wpList_app_slice rfl slBytes (.tmp 31) (.tmp 32) rfl w.heap.size u3 _ _ rfl (HO.out.alloc _) wr.heap.size 0 1 1 rfl [.int .u8 95] rfl (news_lit _ _ _) (one_of rfl) (by unfold maxLen; omega) (by omega) (by simp; omega) ?_; intro v1 w1 ho1 hg1; have hb1 : Below w.heap.size w w1 := (hb.alloc hsz _).grown hg1.grown (by simp; omega) (fun k hk => (HO.out.lt k hk).1); have hsz1 := hb1.size) | (at_builtin; refine wpList_app_slice rfl slBytes (.tmp 36) (.tmp 37) rfl w.heap.size v1 _ _ rfl (ho1.alloc _) w1.heap.size 0 1 1 rfl [.int .u8 111] rfl (news_lit _ _ _) (one_of rfl) (by unfold maxLen; omega) (by omega) (by simp; omega) ?_; intro v2 w2 ho2 hg2) | (go_at_call 68; refine (mplain _ _).mono ?_; rintro e w' ⟨rfl, rfl⟩))
            go_roundw
            case rel =>
              refine ⟨k + 1, by go_num, by omega, Lib.hid (ownB_of ho2 ?_), (hb1.alloc hsz1 _).grown hg2.grown (by simp; omega) (fun k hk => (ho1.lt k hk).1)⟩
              rw [HT.out, HN.out, bv_append, List.append_assoc]; rfl
            case measure => simp [intOf]; omega
          · have HN : Hid (nameB s[k] = [95, 120, hexB (s[k].toNat / 16), hexB (s[k].toNat % 16)]) := by unfold Hid nameB; rw [if_neg hp, if_neg (by omega), if_neg (by omega)]
            go_wp2_with (go_at_call 68; refine (mplain _ _).mono ?_; rintro e w' ⟨rfl, rfl⟩)
            have i1 := index_hex (s[k].toNat / 16) (by omega)
            have i2 := index_hex (s[k].toNat % 16) (by omega)
            have e1 : ((s[k].toNat / 16 : Nat) : Int) = (s[k].toNat : Int) / 16 := by omega
            have e2 : ((s[k].toNat % 16 : Nat) : Int) = (s[k].toNat : Int) % 16 := by omega
            rw [e1] at i1
            rw [e2] at i2
            clear e1 e2
            have e3 : bits BinOp.and IntKind.u8 (s[k].toNat : Int) 15 = (s[k].toNat : Int) % 16 := by
              have := u8_and_nat s[k].toNat 15 (by omega) (by omega)
              rw [show ((15 : Nat) : Int) = 15 from rfl] at this
              rw [this, Nat.and_two_pow_sub_one_eq_mod s[k].toNat 4]
              omega
            go_region_law (refine step_app rfl slBytes (.tmp 39) (.tmp 46) rfl w.heap.size u3 _ _ rfl (by exact (HO.out.alloc _).drew) wr.heap.size 0 4 4 rfl [.int .u8 95, .int .u8 120, .int .u8 ((hexB (s[k].toNat / 16)).toNat : Int), .int .u8 ((hexB (s[k].toNat % 16)).toNat : Int)] rfl (by exact news_lit _ _ _) (by exact ones_of4) (by unfold maxLen; omega) (by omega) (by simp; omega) ?_; intro v1 w1 ho1 hg1)
            all_goals
              clear i1 i2 e3
              go_wp2
              go_roundw
              case rel =>
                refine ⟨k + 1, by go_num, by omega, Lib.hid (ownB_of ho1 ?_), ((hb.alloc hsz _).drew).grown hg1.grown (by simp; omega) (fun k hk => (HO.out.lt k hk).1)⟩
                rw [HT.out, HN.out, bv_append]; rfl
              case measure => simp [intOf]; omega
    · have ek : k = s.size := by omega
      have ho := HO.out
      have e : s.data.toList.take k = s.data.toList := by rw [ek]; exact List.take_of_length_le (by simp)
      rw [e] at ho
      clear ek e HO
      have ks := run_string_own (P := Tryd.prog) 22 5 9 Tryd.underlying22 Tryd.underlying5 Tryd.underlying9 ho
      go_wp2_with fail
      go_ret
      exact ⟨rfl, hb⟩
end Go.Proofs.YtaelanpmgckfkaaRRRRDoor
