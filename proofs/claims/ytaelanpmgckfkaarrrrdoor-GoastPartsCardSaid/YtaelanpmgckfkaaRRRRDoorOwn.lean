/- Memory of a call's own that is appended to, wherever in its block it begins and whatever mark the block bears: what append does to it. Bytes as cells. No program in sight. -/
import Derived.WalkKit
import Derived.Lib.ConvBytes
import Derived.Lib.AppendStr
namespace Go.Av
open Go.RowKit

/-- Bytes as the cells that hold them. -/
def bv (bs : List UInt8) : List Value := bs.map fun c => Value.int .u8 (c.toNat : Int)
theorem bv_length (bs : List UInt8) : (bv bs).length = bs.length := by simp [bv]
theorem bv_append (a b : List UInt8) : bv (a ++ b) = bv a ++ bv b := by simp [bv]
theorem bv_one (bs : List UInt8) : ∀ u ∈ bv bs, u.oneCell' = true := by
  intro u hu
  simp only [bv, List.mem_map] at hu
  obtain ⟨b, _, rfl⟩ := hu
  rfl

/-- The value v is a slice of n elements of 'size' cells each, the cells xs; its block is one of the call's own (from B on), of element type e; between its end and its capacity nobody else looks. -/
def Own (w : World) (B : Nat) (e : TypeId) (size : Nat) (v : Value) (n : Nat) (xs : List Value) : Prop :=
  xs.length = n * size ∧
  ((v = .slice none 0 0 ∧ n = 0) ∨
   ∃ (g off cap : Nat) (cur : Array Value) (fz : Nat × Nat), v = .slice (some ⟨g, off, none⟩) n cap ∧ B ≤ g ∧ w.heap[g]? = some (.cells cur e fz) ∧ n ≤ cap ∧ cap ≤ maxLen ∧ off + cap * size ≤ cur.size ∧
     (off + cap * size ≤ fz.1 ∨ fz.2 ≤ fz.1) ∧ (cur.toList.drop off).take (n * size) = xs)

theorem Own.nil (w : World) (B : Nat) (e : TypeId) (size : Nat) : Own w B e size (.slice none 0 0) 0 [] := ⟨by simp, .inl ⟨rfl, rfl⟩⟩

theorem Own.lt {w : World} {B e size : Nat} {v : Value} {n : Nat} {xs : List Value} (h : Own w B e size v n xs) : ∀ k, v.ownBlock = some k → B ≤ k ∧ k < w.heap.size := by
  intro k hk
  rcases h.2 with ⟨rfl, _⟩ | ⟨g, off, cap, cur, fz, rfl, hb, hg, _⟩
  · simp [Value.ownBlock] at hk
  · simp [Value.ownBlock] at hk
    subst hk
    exact ⟨hb, (Array.getElem?_eq_some_iff.1 hg).1⟩

theorem Own.kept {w w' : World} {B e size : Nat} {v : Value} {n : Nat} {xs : List Value} (h : Own w B e size v n xs) (hk : ∀ k, v.ownBlock = some k → w'.heap[k]? = w.heap[k]?) : Own w' B e size v n xs := by
  refine ⟨h.1, ?_⟩
  rcases h.2 with hn | ⟨g, off, cap, cur, fz, rfl, hb, hgg, rest⟩
  · exact .inl hn
  · exact .inr ⟨g, off, cap, cur, fz, rfl, hb, by rw [hk g (by simp [Value.ownBlock])]; exact hgg, rest⟩

theorem Own.alloc {w : World} {B e size : Nat} {v : Value} {n : Nat} {xs : List Value} (h : Own w B e size v n xs) (o : Obj) : Own (w.alloc o) B e size v n xs :=
  h.kept fun k hk => Below.heap_alloc w o k (h.lt k hk).2
theorem Own.drew {w : World} {B e size : Nat} {v : Value} {n : Nat} {xs : List Value} (h : Own w B e size v n xs) : Own w.drew B e size v n xs :=
  h.kept fun _ _ => rfl
theorem Own.below {w w' : World} {B e size : Nat} {v : Value} {n : Nat} {xs : List Value} (h : Own w B e size v n xs) (hb : Below w.heap.size w w') : Own w' B e size v n xs :=
  h.kept fun k hk => hb.block k (h.lt k hk).2
theorem Own.grown {w w' : World} {B e size : Nat} {v : Value} {n : Nat} {xs : List Value} (h : Own w B e size v n xs) {row : Option Nat} (hb : w.grownBy w' row) (hne : v.ownBlock = none ∨ v.ownBlock ≠ row) : Own w' B e size v n xs :=
  h.kept fun k hk => hb.block k (h.lt k hk).2 (by rcases hne with h' | h' <;> simp_all)
theorem Own.mono {w : World} {B B' e size : Nat} {v : Value} {n : Nat} {xs : List Value} (h : Own w B e size v n xs) (hB : B' ≤ B) : Own w B' e size v n xs := by
  refine ⟨h.1, ?_⟩
  rcases h.2 with hn | ⟨g, off, cap, cur, fz, rfl, hb, rest⟩
  · exact .inl hn
  · exact .inr ⟨g, off, cap, cur, fz, rfl, by omega, rest⟩

/-- What it holds, cell by cell. -/
theorem Own.cells {w : World} {B e size : Nat} {v : Value} {n : Nat} {xs : List Value} (h : Own w B e size v n xs) {g off cap : Nat} (hv : v = .slice (some ⟨g, off, none⟩) n cap) : ∀ j u, xs[j]? = some u → w.cell? ⟨g, off + j, none⟩ = some u := by
  intro j u hu
  rcases h.2 with ⟨rfl, _⟩ | ⟨g', off', cap', cur, fz, rfl, _, hgg, _, _, hfit, _, htake⟩
  · simp at hv
  · simp at hv
    obtain ⟨⟨rfl, rfl⟩, rfl⟩ := hv
    rw [← htake, List.getElem?_take] at hu
    split at hu
    · simpa [World.cell?, hgg] using hu
    · cases hu

theorem Addr.add_plain (g off j : Nat) : (⟨g, off, none⟩ : Addr).add j = ⟨g, off + j, none⟩ := by unfold Addr.add; split <;> simp_all

/-- From w, where v was the value, to w', where v' is: of what was there only v's own block has turned; v' lies there, or in a new block. -/
structure Grew (w : World) (v : Value) (w' : World) (v' : Value) : Prop where
  grown : w.grownBy w' v.ownBlock
  heir : v'.ownBlock = v.ownBlock ∨ ∀ k, v'.ownBlock = some k → w.heap.size ≤ k

theorem grownBy_of_below {w w' : World} (h : Below w.heap.size w w') (row : Option Nat) : w.grownBy w' row :=
  ⟨h.os, h.tape, h.output, h.size, fun k hk _ => h.block k hk⟩
theorem grownBy_trans {w w1 w2 : World} {r r1 : Option Nat} (h : w.grownBy w1 r) (h1 : w1.grownBy w2 r1) (hr : r1 = r ∨ ∀ k, r1 = some k → w.heap.size ≤ k) : w.grownBy w2 r := by
  refine ⟨h1.os.trans h.os, h1.tape.trans h.tape, h1.output.trans h.output, Nat.le_trans h.size h1.size, fun k hk hne => ?_⟩
  rw [h1.block k (Nat.lt_of_lt_of_le hk h.size) ?_, h.block k hk hne]
  intro e
  rcases hr with rfl | hr
  · exact hne e
  · have := hr k e.symm
    omega
theorem Grew.refl (w : World) (v : Value) : Grew w v w v := ⟨⟨rfl, rfl, rfl, Nat.le_refl _, fun _ _ _ => rfl⟩, .inl rfl⟩
theorem Grew.trans {w w1 w2 : World} {v v1 v2 : Value} (h : Grew w v w1 v1) (h1 : Grew w1 v1 w2 v2) : Grew w v w2 v2 := by
  refine ⟨grownBy_trans h.grown h1.grown h.heir, ?_⟩
  rcases h1.heir with e | e
  · rw [e]; exact h.heir
  · exact .inr fun k hk => Nat.le_trans h.grown.size (e k hk)
theorem Grew.alloc {w w1 : World} {v v1 : Value} (h : Grew w v w1 v1) (o : Obj) : Grew w v (w1.alloc o) v1 :=
  h.trans ⟨World.grownBy_alloc w1 o _, .inl rfl⟩
theorem Grew.drew {w w1 : World} {v v1 : Value} (h : Grew w v w1 v1) : Grew w v w1.drew v1 :=
  h.trans ⟨⟨rfl, rfl, rfl, Nat.le_refl _, fun _ _ _ => rfl⟩, .inl rfl⟩
theorem Grew.below {w w1 w2 : World} {v v1 : Value} (h : Grew w v w1 v1) (hb : Below w1.heap.size w1 w2) : Grew w v w2 v1 :=
  h.trans ⟨grownBy_of_below hb _, .inl rfl⟩
/-- Where v was the call's own from B on, nothing below B has turned. -/
theorem Grew.to_below {w w' : World} {v v' : Value} (h : Grew w v w' v') {B : Nat} (hB : B ≤ w.heap.size) (hv : ∀ k, v.ownBlock = some k → B ≤ k) : Below B w w' :=
  (Below.refl B w).grown h.grown hB hv

section
variable {P : Program}

theorem storeCells_at (g o : Nat) (t : TypeId) (fz : Nat × Nat) : ∀ (vs : List Value) (i : Nat) (cur : Array Value) (w : World), w.heap[g]? = some (.cells cur t fz) → o + i + vs.length ≤ cur.size →
    (o + i + vs.length ≤ fz.1 ∨ fz.2 ≤ fz.1) → (∀ v ∈ vs, v.oneCell' = true) →
    (storeCells ⟨g, o, none⟩ vs i).run P w = .ok () (w.setRow g (cur.toList.take (o + i) ++ vs ++ cur.toList.drop (o + i + vs.length)).toArray)
  | [], i, cur, w, hg, _, _, _ => by
    simp only [storeCells, List.append_nil, List.length_nil, Nat.add_zero, List.take_append_drop, Array.toArray_toList]
    rw [setRow_self w g cur t fz hg]
    rfl
  | v :: rest, i, cur, w, hg, hl, hf, h1 => by
    have hi : o + i < cur.size := by simp at hl; omega
    have hcell : w.cell? ⟨g, o + i, none⟩ = some cur[o + i] := by simp [World.cell?, hg, hi]
    have hfro : w.frozen? ⟨g, o + i, none⟩ = false := by
      simp only [World.frozen?, hg]
      simp at hf ⊢
      omega
    have hst : (store ((⟨g, o, none⟩ : Addr).add i) v).run P w = .ok () (w.setRow g (cur.setIfInBounds (o + i) v)) := by
      rw [Addr.add_plain, run_store P w _ v _ (h1 v (by simp)), hcell]
      simp [hfro, setCell_eq_setRow w g (o + i) cur t fz v hg]
    have ih := storeCells_at g o t fz rest (i + 1) (cur.setIfInBounds (o + i) v) (w.setRow g (cur.setIfInBounds (o + i) v)) (setRow_heap w g cur _ t _ hg) (by simp at hl ⊢; omega) (by simp at hf ⊢; omega) (fun x hx => h1 x (by simp [hx]))
    simp only [storeCells, Sem.run_bind, hst, Result.andThen_ok, ih, setRow_setRow]
    congr 3
    have e := list_seg_step cur.toList (o + i) v rest (by simp at hl ⊢; omega)
    simpa [Array.toList_setIfInBounds, Nat.add_assoc] using e

/-- append, whatever is appended (a slice, nil, a string: 'hlen', 'hfirst'): the result owns what v owned and the new cells behind it. -/
theorem run_append {w : World} (B : Nat) (t u ty e : TypeId) (i : TypeInfo) (z : Value) (size bytes : Nat) (ht : P.underlying t = some (.slice e)) (hu : ∃ d, P.underlying u = some d ∧ ∀ k, d ≠ .int k) (hi : P.info? e = some i) (hz : i.zero = some z)
    (hsize : i.size = size) (hby : i.bytes = bytes) (hzs : z.cells.size = size)
    (v : Value) (n : Nat) (xs : List Value) (hown : Own w B e size v n xs)
    (x : Value) (m : Nat) (news : List Value) (hl : news.length = m * size) (hlen : ∀ W, (Builtin.lenOf x).run P W = .ok m W)
    (hfirst : ∀ W : World, W.heap = w.heap → (Builtin.firstCells size m x).run P W = .ok news.toArray W) (h1 : ∀ u ∈ news, u.oneCell' = true)
    (h63 : n + m ≤ maxLen) (hbytes : (n + m) * bytes ≤ 140737488355328) (hbase : B ≤ w.heap.size) :
    ∃ v' w', (Builtin.append_ #[t, u] ty #[v, x]).run P w = .ok v' w' ∧ Own w' B e size v' (n + m) (xs ++ news) ∧ Grew w v w' v' := by
  subst hsize
  subst hby
  obtain ⟨d, hud, hdi⟩ := hu
  have hfw := hfirst w rfl
  have hfd := hfirst w.drew rfl
  have hsmall : n + m ≤ 9223372036854775807 := by simp only [maxLen] at h63; omega
  have hlen' : (xs ++ news).length = (n + m) * i.size := by rw [List.length_append, hown.1, hl, Nat.add_mul]
  have grown : ∀ (old : Nat), old < n + m → ∀ (row : Option Nat),
      Own (w.drew.alloc (.cells (xs.toArray ++ news.toArray ++ Builtin.zeroCells z.cells (grownCap w (n + m) old e - (n + m))) e)) B e i.size
        (.slice (some ⟨w.heap.size, 0, none⟩) (n + m) (grownCap w (n + m) old e)) (n + m) (xs ++ news) ∧
      w.grownBy (w.drew.alloc (.cells (xs.toArray ++ news.toArray ++ Builtin.zeroCells z.cells (grownCap w (n + m) old e - (n + m))) e)) row := by
    intro old ho row
    have hge := grownCap_ge w (n + m) old e
    have hcm : grownCap w (n + m) old e ≤ maxLen := grownCap_le_maxLen w (n + m) old e h63
    refine ⟨⟨hlen', .inr ⟨w.heap.size, 0, _, _, (0, 0), rfl, hbase, heap_alloc_new w.drew _, hge, hcm, ?_, by simp, ?_⟩⟩, ⟨rfl, rfl, rfl, by simp, fun k hk _ => Below.heap_alloc w.drew _ k hk⟩⟩
    · simp only [Array.size_append, List.size_toArray, size_zeroCells, hzs, hown.1, hl, ← Nat.add_mul]
      rw [Nat.zero_add, show n + m + (grownCap w (n + m) old e - (n + m)) = grownCap w (n + m) old e by omega]
      exact Nat.le_refl _
    · simp only [Array.toList_append, List.append_assoc, List.drop_zero]
      rw [← List.append_assoc, ← hlen']
      exact List.take_left
  rcases hown.2 with ⟨rfl, rfl⟩ | ⟨g, off, cap, cur, fz, rfl, hbg, hg, hnc, hcm, hcs, hfz, htake⟩
  · have hx : xs = [] := List.eq_nil_of_length_eq_zero (by simpa using hown.1)
    subst hx
    by_cases hm : m = 0
    · subst hm
      have hn : news = [] := List.eq_nil_of_length_eq_zero (by simpa using hl)
      subst hn
      refine ⟨.slice none 0 0, w, ?_, Own.nil w B e i.size, Grew.refl _ _⟩
      have hfn := run_firstCells_none (P := P) w i.size 0 0 0
      simp [Builtin.append_, run_underlying ht, run_underlying hud, sizeOf, typeInfo, hi, hlen, hfw]
    · have hgr := grown 0 (by omega) (Value.ownBlock (.slice none 0 0))
      have h48 := growslice_fits (need := 0 + m) (old := 0) (bytes := i.bytes) (by omega) hbytes
      simp only [Nat.zero_add, List.nil_append] at hgr h48 ⊢
      refine ⟨_, _, ?_, hgr.1, ⟨hgr.2, .inr (by simp [Value.ownBlock])⟩⟩
      have h63' : ¬ (9223372036854775807 < (m : Int)) := by omega
      have h48' : ¬ (281474976710656 < Builtin.nextslicecap m 0 * i.bytes) := by omega
      have hfn := run_firstCells_none (P := P) w.drew i.size 0 0 0
      simp [Builtin.append_, run_underlying ht, run_underlying hud, sizeOf, typeInfo, zeroValue, hi, hz, hlen, hm, h63', h48', Question.forced, hfd, hfn, newRow, grownCap]
  · by_cases hroom : n + m ≤ cap
    · have hfit : off + n * i.size + news.length ≤ cur.size := by
        rw [hl]
        have := Nat.mul_le_mul_right i.size hroom
        rw [Nat.add_mul] at this
        omega
      have hst := storeCells_at (P := P) g (off + n * i.size) e fz news 0 cur w hg (by simpa using hfit) (by
        rcases hfz with hfz | hfz
        · left
          rw [hl]
          have := Nat.mul_le_mul_right i.size hroom
          rw [Nat.add_mul] at this
          omega
        · exact .inr hfz) h1
      simp only [Nat.add_zero] at hst
      refine ⟨_, _, ?_, ⟨hlen', .inr ⟨g, off, cap, (cur.toList.take (off + n * i.size) ++ news ++ cur.toList.drop (off + n * i.size + news.length)).toArray, fz, rfl, hbg, setRow_heap w g cur _ e _ hg, hroom, hcm, ?_, hfz, ?_⟩⟩,
        ⟨⟨rfl, rfl, rfl, by simp, fun k _ hk => setRow_other w g k _ (fun e => hk (by simp [Value.ownBlock, e]))⟩, .inl rfl⟩⟩
      · simp [Builtin.append_, run_underlying ht, run_underlying hud, sizeOf, typeInfo, hi, hlen, hroom, hfw, Addr.add_plain, hst]
      · simp only [List.size_toArray, List.length_append, List.length_take, List.length_drop, Array.length_toList]
        omega
      · simp only []
        have hlt : off ≤ (cur.toList.take (off + n * i.size)).length := by simp; omega
        rw [List.append_assoc, List.drop_append_of_le_length hlt]
        have hd : (cur.toList.take (off + n * i.size)).drop off = xs := by
          rw [List.drop_take, show off + n * i.size - off = n * i.size by omega]
          exact htake
        rw [hd, ← hlen', ← List.append_assoc]
        exact List.take_left
    · have holds : ∀ j u, xs[j]? = some u → w.drew.cell? ((⟨g, off, none⟩ : Addr).add j) = some u := by
        intro j u hu
        rw [Addr.add_plain]
        exact hown.cells rfl j u hu
      have hgr := grown cap (by omega) (Value.ownBlock (.slice (some ⟨g, off, none⟩) n cap))
      refine ⟨_, _, ?_, hgr.1, ⟨hgr.2, .inr (by simp [Value.ownBlock])⟩⟩
      have hfo := run_firstCells_some (P := P) w.drew i.size n ⟨g, off, none⟩ n cap xs hown.1 holds
      have h48 := growslice_fits (need := n + m) (old := cap) (bytes := i.bytes) (by omega) hbytes
      have h63' : ¬ (9223372036854775807 < ((n : Int) + (m : Int))) := by omega
      have h48' : ¬ (281474976710656 < Builtin.nextslicecap (n + m) cap * i.bytes) := by omega
      simp [Builtin.append_, run_underlying ht, run_underlying hud, sizeOf, typeInfo, zeroValue, hi, hz, hlen, hroom, h63', h48', Question.forced, hfo, hfd, newRow, grownCap]
      congr 2
      apply Array.ext'
      simp [List.append_assoc]

/-- The slice type t of element type e: an element's cells, bytes and zero. -/
structure SlTy (P : Program) (t e size bytes : Nat) (z : Value) : Prop where
  under : P.underlying t = some (.slice e)
  info : (P.info? e).map (fun i => (i.zero, i.size, i.bytes)) = some (some z, size, bytes)
  zsize : z.cells.size = size

/-- append at the operation. -/
theorem wpList_app {w : World} {ops : Array Oper} {rest : List Oper} {o : Oper} {a : Act} {Q : Exit → Act → World → Prop} (hgd : o.guard = none) {t u e size bytes : Nat} {z : Value} (T : SlTy P t e size bytes z)
    (hu : ∃ d, P.underlying u = some d ∧ ∀ k, d ≠ .int k) (s x : Operand) (ho : o.op = .call { callee := .builtin .append, args := #[s, x], argTypes := #[t, u] }) (B : Nat)
    (v : Value) (n : Nat) (xs : List Value) (hs : a.eval s = v) (hown : Own w B e size v n xs)
    (y : Value) (hx : a.eval x = y) (m : Nat) (news : List Value) (hl : news.length = m * size) (hlen : ∀ W, (Builtin.lenOf y).run P W = .ok m W)
    (hfirst : ∀ W : World, W.heap = w.heap → (Builtin.firstCells size m y).run P W = .ok news.toArray W) (h1 : ∀ u ∈ news, u.oneCell' = true)
    (h63 : n + m ≤ maxLen) (hbytes : (n + m) * bytes ≤ 140737488355328) (hbase : B ≤ w.heap.size)
    (h : ∀ v' w', Own w' B e size v' (n + m) (xs ++ news) → Grew w v w' v' → wpList P ops Q rest (a.put o.dst v') w') : wpList P ops Q (o :: rest) a w := by
  obtain ⟨i, hi, hz, hsz, hby⟩ : ∃ i, P.info? e = some i ∧ i.zero = some z ∧ i.size = size ∧ i.bytes = bytes := by
    have hT := T.info
    cases hq : P.info? e with
    | none => simp [hq] at hT
    | some i => simp [hq] at hT; exact ⟨i, rfl, hT.1, hT.2.1, hT.2.2⟩
  refine wpList_plain hgd fun K hK => ?_
  obtain ⟨v', w', hr, h2, h3⟩ := run_append (P := P) B t u o.type e i z size bytes T.under hu hi hz hsz hby T.zsize v n xs hown y m news hl hlen hfirst h1 h63 hbytes hbase
  unfold Oper.wp execOp
  simp only [ho, resolve, invoke, builtin, Sem.run_bind, Sem.run_pure, Result.andThen_ok, List.map_toArray, List.map_cons, List.map_nil, hs, hx, hr]
  exact hK _ _ (h v' w' h2 h3)

/-- .. of a slice that is not nil. -/
theorem wpList_app_slice {w : World} {ops : Array Oper} {rest : List Oper} {o : Oper} {a : Act} {Q : Exit → Act → World → Prop} (hgd : o.guard = none) {t e size bytes : Nat} {z : Value} (T : SlTy P t e size bytes z)
    (s x : Operand) (ho : o.op = .call { callee := .builtin .append, args := #[s, x], argTypes := #[t, t] }) (B : Nat)
    (v : Value) (n : Nat) (xs : List Value) (hs : a.eval s = v) (hown : Own w B e size v n xs)
    (g off m c : Nat) (hx : a.eval x = .slice (some ⟨g, off, none⟩) m c) (news : List Value) (hl : news.length = m * size) (hnews : ∀ j u, news[j]? = some u → w.cell? ⟨g, off + j, none⟩ = some u) (h1 : ∀ u ∈ news, u.oneCell' = true)
    (h63 : n + m ≤ maxLen) (hbytes : (n + m) * bytes ≤ 140737488355328) (hbase : B ≤ w.heap.size)
    (h : ∀ v' w', Own w' B e size v' (n + m) (xs ++ news) → Grew w v w' v' → wpList P ops Q rest (a.put o.dst v') w') : wpList P ops Q (o :: rest) a w :=
  wpList_app hgd T ⟨_, T.under, by simp⟩ s x ho B v n xs hs hown _ hx m news hl (fun W => by simp [Builtin.lenOf])
    (fun W hW => run_firstCells_some (P := P) W size m ⟨g, off, none⟩ m c news hl (fun j u hu => by
      rw [Addr.add_plain]
      have := hnews j u hu
      simpa [World.cell?, hW] using this)) h1 h63 hbytes hbase h

theorem Own.lenOf {w : World} {B e size : Nat} {y : Value} {m : Nat} {news : List Value} (h : Own w B e size y m news) (W : World) : (Builtin.lenOf y).run P W = .ok m W := by
  rcases h.2 with ⟨rfl, rfl⟩ | ⟨g, off, cap, cur, fz, rfl, _⟩ <;> simp [Builtin.lenOf]
theorem Own.firstCells {w : World} {B e size : Nat} {y : Value} {m : Nat} {news : List Value} (h : Own w B e size y m news) (W : World) (hW : W.heap = w.heap) : (Builtin.firstCells size m y).run P W = .ok news.toArray W := by
  rcases h.2 with ⟨rfl, rfl⟩ | ⟨g, off, cap, cur, fz, rfl, _⟩
  · have : news = [] := List.eq_nil_of_length_eq_zero (by simpa using h.1)
    subst this
    exact run_firstCells_none (P := P) W size 0 0 0
  · exact run_firstCells_some (P := P) W size m ⟨g, off, none⟩ m cap news h.1 (fun j u hu => by
      rw [Addr.add_plain]
      have := h.cells rfl j u hu
      simpa [World.cell?, hW] using this)

/-- .. of what is owned too. -/
theorem wpList_app_own {w : World} {ops : Array Oper} {rest : List Oper} {o : Oper} {a : Act} {Q : Exit → Act → World → Prop} (hgd : o.guard = none) {t e size bytes : Nat} {z : Value} (T : SlTy P t e size bytes z)
    (s x : Operand) (ho : o.op = .call { callee := .builtin .append, args := #[s, x], argTypes := #[t, t] }) (B : Nat)
    (v : Value) (n : Nat) (xs : List Value) (hs : a.eval s = v) (hown : Own w B e size v n xs)
    (y : Value) (hx : a.eval x = y) (B' m : Nat) (news : List Value) (hy : Own w B' e size y m news) (h1 : ∀ u ∈ news, u.oneCell' = true)
    (h63 : n + m ≤ maxLen) (hbytes : (n + m) * bytes ≤ 140737488355328) (hbase : B ≤ w.heap.size)
    (h : ∀ v' w', Own w' B e size v' (n + m) (xs ++ news) → Grew w v w' v' → wpList P ops Q rest (a.put o.dst v') w') : wpList P ops Q (o :: rest) a w :=
  wpList_app hgd T ⟨_, T.under, by simp⟩ s x ho B v n xs hs hown _ hx m news hy.1 hy.lenOf hy.firstCells h1 h63 hbytes hbase h

theorem one_of {x : Value} (h : x.oneCell' = true) : ∀ u ∈ [x], u.oneCell' = true := by
  intro u hu
  simp only [List.mem_singleton] at hu
  rw [hu]; exact h
/-- What lies in a block that was just laid. -/
theorem news_lit (w : World) (xs : List Value) (e : TypeId) : ∀ j u, xs[j]? = some u → (w.alloc (.cells xs.toArray e)).cell? ⟨w.heap.size, 0 + j, none⟩ = some u := by
  intro j u hu
  have := heap_alloc_new w (.cells xs.toArray e)
  simp only [World.cell?, this]
  simpa using hu

/-- .. of nil. -/
theorem wpList_app_nil {w : World} {ops : Array Oper} {rest : List Oper} {o : Oper} {a : Act} {Q : Exit → Act → World → Prop} (hgd : o.guard = none) {t e size bytes : Nat} {z : Value} (T : SlTy P t e size bytes z)
    (s x : Operand) (ho : o.op = .call { callee := .builtin .append, args := #[s, x], argTypes := #[t, t] }) (B : Nat)
    (v : Value) (n : Nat) (xs : List Value) (hs : a.eval s = v) (hown : Own w B e size v n xs)
    (hx : a.eval x = .slice none 0 0) (h63 : n ≤ maxLen) (hbytes : n * bytes ≤ 140737488355328) (hbase : B ≤ w.heap.size)
    (h : ∀ v' w', Own w' B e size v' n xs → Grew w v w' v' → wpList P ops Q rest (a.put o.dst v') w') : wpList P ops Q (o :: rest) a w :=
  wpList_app hgd T ⟨_, T.under, by simp⟩ s x ho B v n xs hs hown _ hx 0 [] (by simp) (fun W => by simp [Builtin.lenOf])
    (fun W _ => by simp [Builtin.firstCells]) (by simp) (by simpa using h63) (by simpa using hbytes) hbase (fun v' w' h2 h3 => h v' w' (by simpa using h2) h3)

/-- .. of a text, onto bytes. -/
theorem wpList_app_string {w : World} {ops : Array Oper} {rest : List Oper} {o : Oper} {a : Act} {Q : Exit → Act → World → Prop} (hgd : o.guard = none) {t u e : Nat} (T : SlTy P t e 1 1 (.int .u8 0))
    (hu : P.underlying u = some .string) (s x : Operand) (ho : o.op = .call { callee := .builtin .append, args := #[s, x], argTypes := #[t, u] }) (B : Nat)
    (v : Value) (n : Nat) (xs : List Value) (hs : a.eval s = v) (hown : Own w B e 1 v n xs)
    (q : ByteArray) (hx : a.eval x = .string q)
    (h63 : n + q.size ≤ 140737488355328) (hbase : B ≤ w.heap.size)
    (h : ∀ v' w', Own w' B e 1 v' (n + q.size) (xs ++ bv q.data.toList) → Grew w v w' v' → wpList P ops Q rest (a.put o.dst v') w') : wpList P ops Q (o :: rest) a w :=
  wpList_app hgd T ⟨_, hu, by simp⟩ s x ho B v n xs hs hown _ hx q.size (bv q.data.toList) (by simp [bv]) (fun W => by simp [Builtin.lenOf])
    (fun W _ => Lib.run_firstCells_string (P := P) W 1 q) (bv_one _) (by unfold maxLen; omega) (by omega) hbase h

/-- '[]byte(s)': the bytes, in a block of the call's own. -/
theorem own_bytesWorld (w : World) (B e : Nat) (s : ByteArray) (hB : B ≤ w.heap.size) (hs : s.size ≤ maxLen) :
    Own (Lib.bytesWorld w e s) B e 1 (.slice (some ⟨w.heap.size, 0, none⟩) s.size (grownCap w s.size 0 e)) s.size (bv s.data.toList) := by
  have hge := grownCap_ge w s.size 0 e
  have hsz : (Lib.bytesCells w e s).size = grownCap w s.size 0 e := by
    have : s.data.size = s.size := rfl
    simp [Lib.bytesCells, this]; omega
  refine ⟨by simp [bv], .inr ⟨w.heap.size, 0, _, _, _, rfl, hB, Lib.bytesWorld_at_new w e s, hge, grownCap_le_maxLen w s.size 0 e hs, by omega, ?_, ?_⟩⟩
  · left; simp only []; omega
  · simp only [Lib.bytesCells, Array.toList_append, Array.toList_map, List.drop_zero, bv]
    have : (List.map (fun c : UInt8 => Value.int IntKind.u8 (c.toNat : Int)) s.data.toList).length = s.size * 1 := by simp
    rw [← this]
    exact List.take_left
theorem below_bytesWorld (w : World) (B e : Nat) (s : ByteArray) (hB : B ≤ w.heap.size) : Below B w (Lib.bytesWorld w e s) :=
  ⟨rfl, rfl, rfl, by rw [Lib.bytesWorld_size]; omega, fun k hk => Lib.bytesWorld_at_old w e s k (by omega)⟩

/-- 'string(b)', b a slice of bytes that reads as bs. -/
theorem run_string_of {w : World} (src e dst : Nat) (hs : P.underlying src = some (.slice e)) (he : P.underlying e = some (.int .u8)) (hd : P.underlying dst = some .string) (g off cap n : Nat) (bs : List UInt8) (hlen : bs.length = n)
    (hc : ∀ j u, (bv bs)[j]? = some u → w.cell? ⟨g, off + j, none⟩ = some u) :
    (convert src dst (.slice (some ⟨g, off, none⟩) n cap)).run P w = .ok (.string ⟨bs.toArray⟩) w := by
  have h := run_convert_bytes_arg (P := P) w src e hs he g off n cap (bs.map fun c => (c.toNat : Int)) (by simpa using hlen) (fun i hi => by
    have := hc i (.int .u8 ((bs.map fun c => (c.toNat : Int)).getD i 0)) (by simp [bv, List.getD, List.getElem?_eq_getElem (show i < bs.length by omega)])
    exact this) dst hd
  rw [h]
  congr 2
  simp [strOfNums, Function.comp_def]
/-- 'string(b)', b owned. -/
theorem run_string_own {w : World} {B : Nat} (src e dst : Nat) (hs : P.underlying src = some (.slice e)) (he : P.underlying e = some (.int .u8)) (hd : P.underlying dst = some .string) {v : Value} {n : Nat} {bs : List UInt8} (h : Own w B e 1 v n (bv bs)) :
    (convert src dst v).run P w = .ok (.string ⟨bs.toArray⟩) w := by
  have hn : bs.length = n := by have := h.1; rw [bv_length] at this; omega
  rcases h.2 with ⟨rfl, h0⟩ | ⟨g, off, cap, cur, fz, rfl, _⟩
  · have : bs = [] := List.eq_nil_of_length_eq_zero (by omega)
    subst this
    rw [run_convert_bytes_nil (P := P) w src e hs he 0 0 dst hd]
    rfl
  · exact run_string_of src e dst hs he hd g off cap n bs hn (h.cells rfl)
end
end Go.Av
