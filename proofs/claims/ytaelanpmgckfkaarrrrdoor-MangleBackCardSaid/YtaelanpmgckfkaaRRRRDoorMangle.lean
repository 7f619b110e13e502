/- mangle: a text with numbers behind it. -/
import Derived.Test.YtaelanpmgckfkaaRRRRDoorNum
namespace Go.Proofs.YtaelanpmgckfkaaRRRRDoor
open Go.RowKit Go.Av

/-- A number's digits; none of one below 0. -/
def decI (n : Int) : List UInt8 := if n < 0 then [] else dec n.toNat
theorem decI_length (n : Int) : (decI n).length ≤ 20 := by
  unfold decI
  split
  · simp
  · exact dec_length _
/-- The call answers a text; nothing that was there has turned. -/
def Texts (bs : List UInt8) (w : World) (e : Ending) (w' : World) : Prop := e = .returned (.string ⟨bs.toArray⟩) ∧ Below w.heap.size w w'

set_option maxHeartbeats 400000 in
theorem mnumber (B : Nat) (v : Value) (bs : List UInt8) (n : Int) (w : World) (hown : OwnB w B v bs) (hB : B ≤ w.heap.size) (hn : n ≤ 9223372036854775807) (hl : bs.length ≤ 1099511627776) :
    Calls Tryd.prog 83 #[v, .int .i64 n] w (Puts B (bs ++ decI n) w v) := by
  by_cases h0 : n < 0
  · have HO := Lib.hid hown; clear hown
    go_enter Tryd.func83, Tryd.ntmps83
    go_wp2_with fail
    go_ret
    refine ⟨v, rfl, ?_, Grew.refl _ _⟩
    rw [show decI n = [] by rw [decI, if_pos h0], List.append_nil]
    exact HO.out
  · have e : decI n = dec n.toNat := by rw [decI, if_neg h0]
    have hj := jnum B v bs n w hown hB (by omega) hn hl
    rw [← e] at hj
    have HJ := Lib.hid hj
    clear hj hown e
    go_enter Tryd.func83, Tryd.ntmps83
    go_wp2_with fail
    refine HJ.out.mono ?_
    rintro e w' ⟨v', rfl, ho, hg⟩
    go_wp2_with fail
    go_ret
    exact ⟨v', rfl, ho, hg⟩

set_option maxHeartbeats 400000 in
theorem mNumber (s : ByteArray) (n : Int) (w : World) (hn : n ≤ 9223372036854775807) (hs : s.size ≤ 1099511627776) :
    Calls Tryd.prog 65 #[.string s, .int .i64 n] w (Texts (s.data.toList ++ decI n) w) := by
  have kc := Lib.run_convert_string_bytes (P := Tryd.prog) w 9 22 5 s Tryd.underlying9 Tryd.underlying22 Tryd.underlying5
  go_enter Tryd.func65, Tryd.ntmps65
  go_wp2_with fail
  clear kc
  have hl : s.data.toList.length = s.size := by simp
  have ho : OwnB (Lib.bytesWorld w 5 s) w.heap.size (.slice (some ⟨w.heap.size, 0, none⟩) s.size (grownCap w s.size 0 5)) s.data.toList := by
    unfold OwnB
    rw [hl]
    exact own_bytesWorld w w.heap.size 5 s (Nat.le_refl _) (by unfold maxLen; omega)
  have hb := below_bytesWorld w w.heap.size 5 s (Nat.le_refl _)
  refine (mnumber w.heap.size _ _ n _ ho hb.size hn (by rw [hl]; omega)).mono ?_
  rintro e w1 ⟨v1, rfl, ho1, hg1⟩
  have hb1 : Below w.heap.size w w1 := hb.grown hg1.grown hb.size (fun k hk => ((ho.lt k hk).1))
  have ks := run_string_own (P := Tryd.prog) 22 5 9 Tryd.underlying22 Tryd.underlying5 Tryd.underlying9 ho1
  clear hl
  go_wp2_with fail
  go_ret
  exact ⟨rfl, hb1⟩

set_option maxHeartbeats 400000 in
theorem mPair (s : ByteArray) (n : Int) (q : ByteArray) (m : Int) (w : World) (hn : n ≤ 9223372036854775807) (hm : m ≤ 9223372036854775807) (hs : s.size ≤ 1099511627 ) (hq : q.size ≤ 1099511627) :
    Calls Tryd.prog 66 #[.string s, .int .i64 n, .string q, .int .i64 m] w (Texts (s.data.toList ++ decI n ++ q.data.toList ++ decI m) w) := by
  have kc := Lib.run_convert_string_bytes (P := Tryd.prog) w 9 22 5 s Tryd.underlying9 Tryd.underlying22 Tryd.underlying5
  go_enter Tryd.func66, Tryd.ntmps66
  go_wp2_with fail
  clear kc
  have hl : s.data.toList.length = s.size := by simp
  have hlq : q.data.toList.length = q.size := by simp
  have hd1 := decI_length n
  have ho : OwnB (Lib.bytesWorld w 5 s) w.heap.size (.slice (some ⟨w.heap.size, 0, none⟩) s.size (grownCap w s.size 0 5)) s.data.toList := by
    unfold OwnB
    rw [hl]
    exact own_bytesWorld w w.heap.size 5 s (Nat.le_refl _) (by unfold maxLen; omega)
  have hb := below_bytesWorld w w.heap.size 5 s (Nat.le_refl _)
  refine (mnumber w.heap.size _ _ n _ ho hb.size hn (by rw [hl]; omega)).mono ?_
  rintro e w1 ⟨v1, rfl, ho1, hg1⟩
  have hb1 : Below w.heap.size w w1 := hb.grown hg1.grown hb.size (fun k hk => ((ho.lt k hk).1))
  have hl1 : (s.data.toList ++ decI n).length ≤ 1099511649 := by rw [List.length_append, hl]; omega
  have HL := Lib.hid hl; clear hl
  have HLQ := Lib.hid hlq; clear hlq
  go_wp2_with (at_builtin; refine wpList_app_string rfl slBytes Tryd.underlying9 (.tmp 13) (.tmp 14) rfl w.heap.size v1 _ _ rfl ho1 q rfl (by omega) hb1.size ?_; intro v2 w2 ho2 hg2)
  have ho2' : OwnB w2 w.heap.size v2 (s.data.toList ++ decI n ++ q.data.toList) := by
    unfold OwnB
    rw [bv_append, List.length_append, HLQ.out]
    exact ho2
  have hb2 : Below w.heap.size w w2 := hb1.grown hg2.grown hb1.size (fun k hk => ((ho1.lt k hk).1))
  refine (mnumber w.heap.size _ _ m _ ho2' hb2.size hm (by rw [List.length_append, HLQ.out]; omega)).mono ?_
  rintro e w3 ⟨v3, rfl, ho3, hg3⟩
  have hb3 : Below w.heap.size w w3 := hb2.grown hg3.grown hb2.size (fun k hk => ((ho2'.lt k hk).1))
  have ks := run_string_own (P := Tryd.prog) 22 5 9 Tryd.underlying22 Tryd.underlying5 Tryd.underlying9 ho3
  go_wp2_with fail
  go_ret
  exact ⟨by simp, hb3⟩

/-- Does a byte stay as it is? -/
def plainB (c : UInt8) : Bool := decide (48 ≤ c.toNat ∧ c.toNat ≤ 57 ∨ 65 ≤ c.toNat ∧ c.toNat ≤ 90 ∨ 97 ≤ c.toNat ∧ c.toNat ≤ 122)

set_option maxHeartbeats 400000 in
theorem mplain (c : UInt8) (w : World) : Calls Tryd.prog 68 #[.int .u8 (c.toNat : Int)] w fun e w' => e = .returned (.bool (plainB c)) ∧ w = w' := by
  have hc : (c.toNat : Int) < 256 := by have := c.toNat_lt; omega
  have hr : plainB c = true ↔ (48 ≤ (c.toNat : Int) ∧ (c.toNat : Int) ≤ 57 ∨ 65 ≤ (c.toNat : Int) ∧ (c.toNat : Int) ≤ 90 ∨ 97 ≤ (c.toNat : Int) ∧ (c.toNat : Int) ≤ 122) := by
    unfold plainB
    rw [decide_eq_true_iff]
    omega
  generalize plainB c = r at hr ⊢
  generalize hx : (c.toNat : Int) = x at hc hr ⊢
  have h0 : 0 ≤ x := by omega
  clear hx
  by_cases h1 : 48 ≤ x <;> by_cases h2 : x ≤ 57 <;> by_cases h3 : 65 ≤ x <;> by_cases h4 : x ≤ 90 <;> by_cases h5 : 97 ≤ x <;> by_cases h6 : x ≤ 122 <;> first | omega | skip
  all_goals
    cases r <;> simp [h1, h2, h3, h4, h5, h6] at hr
    go_enter Tryd.func68, Tryd.ntmps68
    go_wp2_with fail
    go_ret
    exact ⟨rfl, rfl⟩
end Go.Proofs.YtaelanpmgckfkaaRRRRDoor
