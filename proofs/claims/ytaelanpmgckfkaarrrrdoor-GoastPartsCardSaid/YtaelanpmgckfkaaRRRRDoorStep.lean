/- append of a text, within a statement that draws its order. -/
import Derived.Test.YtaelanpmgckfkaaRRRRDoorOwn
import Derived.BigRegion
import Derived.Deep.RegionLaw
namespace Go.Av
open Go.RowKit
theorem step_app_string {P : Program} {ops : Array Oper} {o : Oper} {a : Act} {w : World} {K : Act → World → Prop} {Q : Exit → Act → World → Prop} {E : Prop}
    (hg : o.guard = none) {t u e : Nat} (T : SlTy P t e 1 1 (.int .u8 0)) (hu : P.underlying u = some .string)
    (s x : Operand) (ho : o.op = .call { callee := .builtin .append, args := #[s, x], argTypes := #[t, u] }) (B : Nat)
    (v : Value) (n : Nat) (xs : List Value) (hs : a.eval s = v) (hown : Own w B e 1 v n xs)
    (q : ByteArray) (hx : a.eval x = .string q) (h63 : n + q.size ≤ 140737488355328) (hbase : B ≤ w.heap.size)
    (h : ∀ v' w', Own w' B e 1 v' (n + q.size) (xs ++ bv q.data.toList) → Grew w v w' v' → K (a.put o.dst v') w') :
    if Region.wanted o (yielded ops a.tmps) = true then Oper.wp P o a w K Q else E := by
  have hw : Region.wanted o (yielded ops a.tmps) = true := by simp [Region.wanted, hg]
  rw [if_pos hw]
  obtain ⟨i, hi, hz, hsz, hby⟩ : ∃ i, P.info? e = some i ∧ i.zero = some (.int .u8 0) ∧ i.size = 1 ∧ i.bytes = 1 := by
    have hT := T.info
    cases hq : P.info? e with
    | none => simp [hq] at hT
    | some i => simp [hq] at hT; exact ⟨i, rfl, hT.1, hT.2.1, hT.2.2⟩
  obtain ⟨v', w', hr, h2, h3⟩ := run_append (P := P) B t u o.type e i (.int .u8 0) 1 1 T.under ⟨_, hu, by simp⟩ hi hz hsz hby T.zsize v n xs hown (.string q) q.size (bv q.data.toList) (by simp [bv]) (fun W => by simp [Builtin.lenOf])
    (fun W _ => Lib.run_firstCells_string (P := P) W 1 q) (bv_one _) (by unfold maxLen; omega) (by omega) hbase
  unfold Oper.wp execOp
  simp only [ho, resolve, invoke, builtin, Sem.run_bind, Sem.run_pure, Result.andThen_ok, List.map_toArray, List.map_cons, List.map_nil, hs, hx, hr]
  exact h v' w' h2 h3
end Go.Av
