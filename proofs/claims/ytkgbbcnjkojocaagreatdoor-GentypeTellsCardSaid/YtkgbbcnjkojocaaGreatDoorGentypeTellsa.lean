/- GentypeTells: whatever the schema and the place, the program and the document tell the same types and structs. Part 1 of 5 of the proof. -/
import Derived.WalkKit
import Derived.Lib.ConvBytes
import Derived.Lib.AppendStr
import Derived.ProofKit
import Derived.Test.YtkgbbcnjkojocaaGreatDoorRows
import Derived.WalkSpells
import Derived.WalkLawsBesides
import Derived.Lib.Bytealg
import Derived.Lib.Hide
import Derived.BigQuiet
import Derived.MapKept
namespace Go.Av
open Go.RowKit
def bv (bs : List UInt8) : List Value := bs.map fun c => Value.int .u8 (c.toNat : Int)
theorem bv_length (bs : List UInt8) : (bv bs).length = bs.length := by simp [bv]
theorem bv_append (a b : List UInt8) : bv (a ++ b) = bv a ++ bv b := by simp [bv]
theorem bv_one (bs : List UInt8) : ∀ u ∈ bv bs, u.oneCell' = true := by
 intro u hu
 simp only [bv, List.mem_map] at hu
 obtain ⟨b, _, rfl⟩ := hu
 rfl
def Own (w : World) (B : Nat) (e : TypeId) (size : Nat) (v : Value) (n : Nat) (xs : List Value) : Prop :=
 xs.length = n * size ∧
 ((v = .slice none 0 0 ∧ n = 0) ∨
  ∃ (g off cap : Nat) (cur : Array Value) (fz : Nat × Nat), v = .slice (some ⟨g, off, none⟩) n cap ∧ B ≤ g ∧ w.heap[g]? = some (.cells cur e fz) ∧ n ≤ cap ∧ cap ≤ maxLen ∧ off + cap * size ≤ cur.size ∧
   (off + cap * size ≤ fz.1 ∨ fz.2 ≤ fz.1) ∧ (cur.toList.drop off).take (n * size) = xs)
theorem Own.nil (w : World) (B : Nat) (e : TypeId) (size : Nat) : Own w B e size (.slice none 0 0) 0 [] := ⟨by simp, .inl ⟨rfl, rfl⟩⟩
theorem Own.lt {w : World} {B e size : Nat} {v : Value} {n : Nat} {xs : List Value} (h : Own w B e size v n xs) : ∀ k, v.ownBlock = some k → B ≤ k ∧ k < w.heap.size := by
 intro k hk
 rcases h.2 with ⟨rfl, _⟩ | ⟨g, off, cap, cur, fz, rfl, hb, hg, _⟩
 ·simp [Value.ownBlock] at hk
 ·simp [Value.ownBlock] at hk
  subst hk
  exact ⟨hb, (Array.getElem?_eq_some_iff.1 hg).1⟩
theorem Own.kept {w w' : World} {B e size : Nat} {v : Value} {n : Nat} {xs : List Value} (h : Own w B e size v n xs) (hk : ∀ k, v.ownBlock = some k → w'.heap[k]? = w.heap[k]?) : Own w' B e size v n xs := by
 refine ⟨h.1, ?_⟩
 rcases h.2 with hn | ⟨g, off, cap, cur, fz, rfl, hb, hgg, rest⟩
 ·exact .inl hn
 ·exact .inr ⟨g, off, cap, cur, fz, rfl, hb, by rw [hk g (by simp [Value.ownBlock])]; exact hgg, rest⟩
theorem Own.alloc {w : World} {B e size : Nat} {v : Value} {n : Nat} {xs : List Value} (h : Own w B e size v n xs) (o : Obj) : Own (w.alloc o) B e size v n xs :=
 h.kept fun k hk => Below.heap_alloc w o k (h.lt k hk).2
theorem Own.drew {w : World} {B e size : Nat} {v : Value} {n : Nat} {xs : List Value} (h : Own w B e size v n xs) : Own w.drew B e size v n xs :=
 h.kept fun _ _ => rfl
theorem Own.below {w w' : World} {B e size : Nat} {v : Value} {n : Nat} {xs : List Value} (h : Own w B e size v n xs) (hb : Below w.heap.size w w') : Own w' B e size v n xs :=
 h.kept fun k hk => hb.block k (h.lt k hk).2
theorem Own.grown {w w' : World} {B e size : Nat} {v : Value} {n : Nat} {xs : List Value} (h : Own w B e size v n xs) {row : Option Nat} (hb : w.grownBy w' row) (hne : v.ownBlock = none ∨ v.ownBlock ≠ row) : Own w' B e size v n xs :=
 h.kept fun k hk => hb.block k (h.lt k hk).2 (by rcases hne with h' | h' <;> simp_all)
theorem Own.mono {w : World} {B B' e size : Nat} {v : Value} {n : Nat} {xs : List Value} (h : Own w B e size v n xs) (hB : B' ≤ B) : Own w B' e size v n xs := by
 refine ⟨h.1, ?_⟩
 rcases h.2 with hn | ⟨g, off, cap, cur, fz, rfl, hb, rest⟩
 ·exact .inl hn
 ·exact .inr ⟨g, off, cap, cur, fz, rfl, by omega, rest⟩
theorem Own.cells {w : World} {B e size : Nat} {v : Value} {n : Nat} {xs : List Value} (h : Own w B e size v n xs) {g off cap : Nat} (hv : v = .slice (some ⟨g, off, none⟩) n cap) : ∀ j u, xs[j]? = some u → w.cell? ⟨g, off + j, none⟩ = some u := by
 intro j u hu
 rcases h.2 with ⟨rfl, _⟩ | ⟨g', off', cap', cur, fz, rfl, _, hgg, _, _, hfit, _, htake⟩
 ·simp at hv
 ·simp at hv
  obtain ⟨⟨rfl, rfl⟩, rfl⟩ := hv
  rw [← htake, List.getElem?_take] at hu
  split at hu
  ·simpa [World.cell?, hgg] using hu
  ·cases hu
theorem Addr.add_plain (g off j : Nat) : (⟨g, off, none⟩ : Addr).add j = ⟨g, off + j, none⟩ := by unfold Addr.add; split <;> simp_all
structure Grew (w : World) (v : Value) (w' : World) (v' : Value) : Prop where
 grown : w.grownBy w' v.ownBlock
 heir : v'.ownBlock = v.ownBlock ∨ ∀ k, v'.ownBlock = some k → w.heap.size ≤ k
theorem grownBy_of_below {w w' : World} (h : Below w.heap.size w w') (row : Option Nat) : w.grownBy w' row :=
 ⟨h.os, h.tape, h.output, h.size, fun k hk _ => h.block k hk⟩
theorem grownBy_trans {w w1 w2 : World} {r r1 : Option Nat} (h : w.grownBy w1 r) (h1 : w1.grownBy w2 r1) (hr : r1 = r ∨ ∀ k, r1 = some k → w.heap.size ≤ k) : w.grownBy w2 r := by
 refine ⟨h1.os.trans h.os, h1.tape.trans h.tape, h1.output.trans h.output, Nat.le_trans h.size h1.size, fun k hk hne => ?_⟩
 rw [h1.block k (Nat.lt_of_lt_of_le hk h.size) ?_, h.block k hk hne]
 intro e
 rcases hr with rfl | hr
 ·exact hne e
 ·have := hr k e.symm
  omega
theorem Grew.refl (w : World) (v : Value) : Grew w v w v := ⟨⟨rfl, rfl, rfl, Nat.le_refl _, fun _ _ _ => rfl⟩, .inl rfl⟩
theorem Grew.trans {w w1 w2 : World} {v v1 v2 : Value} (h : Grew w v w1 v1) (h1 : Grew w1 v1 w2 v2) : Grew w v w2 v2 := by
 refine ⟨grownBy_trans h.grown h1.grown h.heir, ?_⟩
 rcases h1.heir with e | e
 ·rw [e]; exact h.heir
 ·exact .inr fun k hk => Nat.le_trans h.grown.size (e k hk)
theorem Grew.alloc {w w1 : World} {v v1 : Value} (h : Grew w v w1 v1) (o : Obj) : Grew w v (w1.alloc o) v1 :=
 h.trans ⟨World.grownBy_alloc w1 o _, .inl rfl⟩
theorem Grew.drew {w w1 : World} {v v1 : Value} (h : Grew w v w1 v1) : Grew w v w1.drew v1 :=
 h.trans ⟨⟨rfl, rfl, rfl, Nat.le_refl _, fun _ _ _ => rfl⟩, .inl rfl⟩
theorem Grew.below {w w1 w2 : World} {v v1 : Value} (h : Grew w v w1 v1) (hb : Below w1.heap.size w1 w2) : Grew w v w2 v1 :=
 h.trans ⟨grownBy_of_below hb _, .inl rfl⟩
section
variable {P : Program}
theorem storeCells_at (g o : Nat) (t : TypeId) (fz : Nat × Nat) : ∀ (vs : List Value) (i : Nat) (cur : Array Value) (w : World), w.heap[g]? = some (.cells cur t fz) → o + i + vs.length ≤ cur.size →
 (o + i + vs.length ≤ fz.1 ∨ fz.2 ≤ fz.1) → (∀ v ∈ vs, v.oneCell' = true) →
 (storeCells ⟨g, o, none⟩ vs i).run P w = .ok () (w.setRow g (cur.toList.take (o + i) ++ vs ++ cur.toList.drop (o + i + vs.length)).toArray)
 | [], i, cur, w, hg, _, _, _ => by
  simp only [storeCells, List.append_nil, List.length_nil, Nat.add_zero, List.take_append_drop, Array.toArray_toList]
  rw [setRow_self w g cur t fz hg]
  rfl
 | v :: rest, i, cur, w, hg, hl, hf, h1 => by
  have hi : o + i < cur.size := by simp at hl; omega
  have hcell : w.cell? ⟨g, o + i, none⟩ = some cur[o + i] := by simp [World.cell?, hg, hi]
  have hfro : w.frozen? ⟨g, o + i, none⟩ = false := by
   simp only [World.frozen?, hg]
   simp at hf ⊢
   omega
  have hst : (store ((⟨g, o, none⟩ : Addr).add i) v).run P w = .ok () (w.setRow g (cur.setIfInBounds (o + i) v)) := by
   rw [Addr.add_plain, run_store P w _ v _ (h1 v (by simp)), hcell]
   simp [hfro, setCell_eq_setRow w g (o + i) cur t fz v hg]
  have ih := storeCells_at g o t fz rest (i + 1) (cur.setIfInBounds (o + i) v) (w.setRow g (cur.setIfInBounds (o + i) v)) (setRow_heap w g cur _ t _ hg) (by simp at hl ⊢; omega) (by simp at hf ⊢; omega) (fun x hx => h1 x (by simp [hx]))
  simp only [storeCells, Sem.run_bind, hst, Result.andThen_ok, ih, setRow_setRow]
  congr 3
  have e := list_seg_step cur.toList (o + i) v rest (by simp at hl ⊢; omega)
  simpa [Array.toList_setIfInBounds, Nat.add_assoc] using e
theorem run_append {w : World} (B : Nat) (t u ty e : TypeId) (i : TypeInfo) (z : Value) (size bytes : Nat) (ht : P.underlying t = some (.slice e)) (hu : ∃ d, P.underlying u = some d ∧ ∀ k, d ≠ .int k) (hi : P.info? e = some i) (hz : i.zero = some z)
 (hsize : i.size = size) (hby : i.bytes = bytes) (hzs : z.cells.size = size)
 (v : Value) (n : Nat) (xs : List Value) (hown : Own w B e size v n xs)
 (x : Value) (m : Nat) (news : List Value) (hl : news.length = m * size) (hlen : ∀ W, (Builtin.lenOf x).run P W = .ok m W)
 (hfirst : ∀ W : World, W.heap = w.heap → (Builtin.firstCells size m x).run P W = .ok news.toArray W) (h1 : ∀ u ∈ news, u.oneCell' = true)
 (h63 : n + m ≤ maxLen) (hbytes : (n + m) * bytes ≤ 140737488355328) (hbase : B ≤ w.heap.size) :
 ∃ v' w', (Builtin.append_ #[t, u] ty #[v, x]).run P w = .ok v' w' ∧ Own w' B e size v' (n + m) (xs ++ news) ∧ Grew w v w' v' := by
 subst hsize
 subst hby
 obtain ⟨d, hud, hdi⟩ := hu
 have hfw := hfirst w rfl
 have hfd := hfirst w.drew rfl
 have hsmall : n + m ≤ 9223372036854775807 := by simp only [maxLen] at h63; omega
 have hlen' : (xs ++ news).length = (n + m) * i.size := by rw [List.length_append, hown.1, hl, Nat.add_mul]
 have grown : ∀ (old : Nat), old < n + m → ∀ (row : Option Nat),
  Own (w.drew.alloc (.cells (xs.toArray ++ news.toArray ++ Builtin.zeroCells z.cells (grownCap w (n + m) old e - (n + m))) e)) B e i.size
   (.slice (some ⟨w.heap.size, 0, none⟩) (n + m) (grownCap w (n + m) old e)) (n + m) (xs ++ news) ∧
  w.grownBy (w.drew.alloc (.cells (xs.toArray ++ news.toArray ++ Builtin.zeroCells z.cells (grownCap w (n + m) old e - (n + m))) e)) row := by
  intro old ho row
  have hge := grownCap_ge w (n + m) old e
  have hcm : grownCap w (n + m) old e ≤ maxLen := grownCap_le_maxLen w (n + m) old e h63
  refine ⟨⟨hlen', .inr ⟨w.heap.size, 0, _, _, (0, 0), rfl, hbase, heap_alloc_new w.drew _, hge, hcm, ?_, by simp, ?_⟩⟩, ⟨rfl, rfl, rfl, by simp, fun k hk _ => Below.heap_alloc w.drew _ k hk⟩⟩
  ·simp only [Array.size_append, List.size_toArray, size_zeroCells, hzs, hown.1, hl, ← Nat.add_mul]
   rw [Nat.zero_add, show n + m + (grownCap w (n + m) old e - (n + m)) = grownCap w (n + m) old e by omega]
   exact Nat.le_refl _
  ·simp only [Array.toList_append, List.append_assoc, List.drop_zero]
   rw [← List.append_assoc, ← hlen']
   exact List.take_left
 rcases hown.2 with ⟨rfl, rfl⟩ | ⟨g, off, cap, cur, fz, rfl, hbg, hg, hnc, hcm, hcs, hfz, htake⟩
 ·have hx : xs = [] := List.eq_nil_of_length_eq_zero (by simpa using hown.1)
  subst hx
  by_cases hm : m = 0
  ·subst hm
   have hn : news = [] := List.eq_nil_of_length_eq_zero (by simpa using hl)
   subst hn
   refine ⟨.slice none 0 0, w, ?_, Own.nil w B e i.size, Grew.refl _ _⟩
   have hfn := run_firstCells_none (P := P) w i.size 0 0 0
   simp [Builtin.append_, run_underlying ht, run_underlying hud, sizeOf, typeInfo, hi, hlen, hfw]
  ·have hgr := grown 0 (by omega) (Value.ownBlock (.slice none 0 0))
   have h48 := growslice_fits (need := 0 + m) (old := 0) (bytes := i.bytes) (by omega) hbytes
   simp only [Nat.zero_add, List.nil_append] at hgr h48 ⊢
   refine ⟨_, _, ?_, hgr.1, ⟨hgr.2, .inr (by simp [Value.ownBlock])⟩⟩
   have h63' : ¬ (9223372036854775807 < (m : Int)) := by omega
   have h48' : ¬ (281474976710656 < Builtin.nextslicecap m 0 * i.bytes) := by omega
   have hfn := run_firstCells_none (P := P) w.drew i.size 0 0 0
   simp [Builtin.append_, run_underlying ht, run_underlying hud, sizeOf, typeInfo, zeroValue, hi, hz, hlen, hm, h63', h48', Question.forced, hfd, hfn, newRow, grownCap]
 ·by_cases hroom : n + m ≤ cap
  ·have hfit : off + n * i.size + news.length ≤ cur.size := by
    rw [hl]
    have := Nat.mul_le_mul_right i.size hroom
    rw [Nat.add_mul] at this
    omega
   have hst := storeCells_at (P := P) g (off + n * i.size) e fz news 0 cur w hg (by simpa using hfit) (by
    rcases hfz with hfz | hfz
    ·left
     rw [hl]
     have := Nat.mul_le_mul_right i.size hroom
     rw [Nat.add_mul] at this
     omega
    ·exact .inr hfz) h1
   simp only [Nat.add_zero] at hst
   refine ⟨_, _, ?_, ⟨hlen', .inr ⟨g, off, cap, (cur.toList.take (off + n * i.size) ++ news ++ cur.toList.drop (off + n * i.size + news.length)).toArray, fz, rfl, hbg, setRow_heap w g cur _ e _ hg, hroom, hcm, ?_, hfz, ?_⟩⟩,
    ⟨⟨rfl, rfl, rfl, by simp, fun k _ hk => setRow_other w g k _ (fun e => hk (by simp [Value.ownBlock, e]))⟩, .inl rfl⟩⟩
   ·simp [Builtin.append_, run_underlying ht, run_underlying hud, sizeOf, typeInfo, hi, hlen, hroom, hfw, Addr.add_plain, hst]
   ·simp only [List.size_toArray, List.length_append, List.length_take, List.length_drop, Array.length_toList]
    omega
   ·simp only []
    have hlt : off ≤ (cur.toList.take (off + n * i.size)).length := by simp; omega
    rw [List.append_assoc, List.drop_append_of_le_length hlt]
    have hd : (cur.toList.take (off + n * i.size)).drop off = xs := by
     rw [List.drop_take, show off + n * i.size - off = n * i.size by omega]
     exact htake
    rw [hd, ← hlen', ← List.append_assoc]
    exact List.take_left
  ·have holds : ∀ j u, xs[j]? = some u → w.drew.cell? ((⟨g, off, none⟩ : Addr).add j) = some u := by
    intro j u hu
    rw [Addr.add_plain]
    exact hown.cells rfl j u hu
   have hgr := grown cap (by omega) (Value.ownBlock (.slice (some ⟨g, off, none⟩) n cap))
   refine ⟨_, _, ?_, hgr.1, ⟨hgr.2, .inr (by simp [Value.ownBlock])⟩⟩
   have hfo := run_firstCells_some (P := P) w.drew i.size n ⟨g, off, none⟩ n cap xs hown.1 holds
   have h48 := growslice_fits (need := n + m) (old := cap) (bytes := i.bytes) (by omega) hbytes
   have h63' : ¬ (9223372036854775807 < ((n : Int) + (m : Int))) := by omega
   have h48' : ¬ (281474976710656 < Builtin.nextslicecap (n + m) cap * i.bytes) := by omega
   simp [Builtin.append_, run_underlying ht, run_underlying hud, sizeOf, typeInfo, zeroValue, hi, hz, hlen, hroom, h63', h48', Question.forced, hfo, hfd, newRow, grownCap]
   congr 2
   apply Array.ext'
   simp [List.append_assoc]
structure SlTy (P : Program) (t e size bytes : Nat) (z : Value) : Prop where
 under : P.underlying t = some (.slice e)
 info : (P.info? e).map (fun i => (i.zero, i.size, i.bytes)) = some (some z, size, bytes)
 zsize : z.cells.size = size
theorem wpList_app {w : World} {ops : Array Oper} {rest : List Oper} {o : Oper} {a : Act} {Q : Exit → Act → World → Prop} (hgd : o.guard = none) {t u e size bytes : Nat} {z : Value} (T : SlTy P t e size bytes z)
 (hu : ∃ d, P.underlying u = some d ∧ ∀ k, d ≠ .int k) (s x : Operand) (ho : o.op = .call { callee := .builtin .append, args := #[s, x], argTypes := #[t, u] }) (B : Nat)
 (v : Value) (n : Nat) (xs : List Value) (hs : a.eval s = v) (hown : Own w B e size v n xs)
 (y : Value) (hx : a.eval x = y) (m : Nat) (news : List Value) (hl : news.length = m * size) (hlen : ∀ W, (Builtin.lenOf y).run P W = .ok m W)
 (hfirst : ∀ W : World, W.heap = w.heap → (Builtin.firstCells size m y).run P W = .ok news.toArray W) (h1 : ∀ u ∈ news, u.oneCell' = true)
 (h63 : n + m ≤ maxLen) (hbytes : (n + m) * bytes ≤ 140737488355328) (hbase : B ≤ w.heap.size)
 (h : ∀ v' w', Own w' B e size v' (n + m) (xs ++ news) → Grew w v w' v' → wpList P ops Q rest (a.put o.dst v') w') : wpList P ops Q (o :: rest) a w := by
 obtain ⟨i, hi, hz, hsz, hby⟩ : ∃ i, P.info? e = some i ∧ i.zero = some z ∧ i.size = size ∧ i.bytes = bytes := by
  have hT := T.info
  cases hq : P.info? e with
  | none => simp [hq] at hT
  | some i => simp [hq] at hT; exact ⟨i, rfl, hT.1, hT.2.1, hT.2.2⟩
 refine wpList_plain hgd fun K hK => ?_
 obtain ⟨v', w', hr, h2, h3⟩ := run_append (P := P) B t u o.type e i z size bytes T.under hu hi hz hsz hby T.zsize v n xs hown y m news hl hlen hfirst h1 h63 hbytes hbase
 unfold Oper.wp execOp
 simp only [ho, resolve, invoke, builtin, Sem.run_bind, Sem.run_pure, Result.andThen_ok, List.map_toArray, List.map_cons, List.map_nil, hs, hx, hr]
 exact hK _ _ (h v' w' h2 h3)
theorem wpList_app_slice {w : World} {ops : Array Oper} {rest : List Oper} {o : Oper} {a : Act} {Q : Exit → Act → World → Prop} (hgd : o.guard = none) {t e size bytes : Nat} {z : Value} (T : SlTy P t e size bytes z)
 (s x : Operand) (ho : o.op = .call { callee := .builtin .append, args := #[s, x], argTypes := #[t, t] }) (B : Nat)
 (v : Value) (n : Nat) (xs : List Value) (hs : a.eval s = v) (hown : Own w B e size v n xs)
 (g off m c : Nat) (hx : a.eval x = .slice (some ⟨g, off, none⟩) m c) (news : List Value) (hl : news.length = m * size) (hnews : ∀ j u, news[j]? = some u → w.cell? ⟨g, off + j, none⟩ = some u) (h1 : ∀ u ∈ news, u.oneCell' = true)
 (h63 : n + m ≤ maxLen) (hbytes : (n + m) * bytes ≤ 140737488355328) (hbase : B ≤ w.heap.size)
 (h : ∀ v' w', Own w' B e size v' (n + m) (xs ++ news) → Grew w v w' v' → wpList P ops Q rest (a.put o.dst v') w') : wpList P ops Q (o :: rest) a w :=
 wpList_app hgd T ⟨_, T.under, by simp⟩ s x ho B v n xs hs hown _ hx m news hl (fun W => by simp [Builtin.lenOf])
  (fun W hW => run_firstCells_some (P := P) W size m ⟨g, off, none⟩ m c news hl (fun j u hu => by
   rw [Addr.add_plain]
   have := hnews j u hu
   simpa [World.cell?, hW] using this)) h1 h63 hbytes hbase h
theorem Own.lenOf {w : World} {B e size : Nat} {y : Value} {m : Nat} {news : List Value} (h : Own w B e size y m news) (W : World) : (Builtin.lenOf y).run P W = .ok m W := by
 rcases h.2 with ⟨rfl, rfl⟩ | ⟨g, off, cap, cur, fz, rfl, _⟩ <;> simp [Builtin.lenOf]
theorem Own.firstCells {w : World} {B e size : Nat} {y : Value} {m : Nat} {news : List Value} (h : Own w B e size y m news) (W : World) (hW : W.heap = w.heap) : (Builtin.firstCells size m y).run P W = .ok news.toArray W := by
 rcases h.2 with ⟨rfl, rfl⟩ | ⟨g, off, cap, cur, fz, rfl, _⟩
 ·have : news = [] := List.eq_nil_of_length_eq_zero (by simpa using h.1)
  subst this
  exact run_firstCells_none (P := P) W size 0 0 0
 ·exact run_firstCells_some (P := P) W size m ⟨g, off, none⟩ m cap news h.1 (fun j u hu => by
   rw [Addr.add_plain]
   have := h.cells rfl j u hu
   simpa [World.cell?, hW] using this)
theorem wpList_app_own {w : World} {ops : Array Oper} {rest : List Oper} {o : Oper} {a : Act} {Q : Exit → Act → World → Prop} (hgd : o.guard = none) {t e size bytes : Nat} {z : Value} (T : SlTy P t e size bytes z)
 (s x : Operand) (ho : o.op = .call { callee := .builtin .append, args := #[s, x], argTypes := #[t, t] }) (B : Nat)
 (v : Value) (n : Nat) (xs : List Value) (hs : a.eval s = v) (hown : Own w B e size v n xs)
 (y : Value) (hx : a.eval x = y) (B' m : Nat) (news : List Value) (hy : Own w B' e size y m news) (h1 : ∀ u ∈ news, u.oneCell' = true)
 (h63 : n + m ≤ maxLen) (hbytes : (n + m) * bytes ≤ 140737488355328) (hbase : B ≤ w.heap.size)
 (h : ∀ v' w', Own w' B e size v' (n + m) (xs ++ news) → Grew w v w' v' → wpList P ops Q rest (a.put o.dst v') w') : wpList P ops Q (o :: rest) a w :=
 wpList_app hgd T ⟨_, T.under, by simp⟩ s x ho B v n xs hs hown _ hx m news hy.1 hy.lenOf hy.firstCells h1 h63 hbytes hbase h
theorem one_of {x : Value} (h : x.oneCell' = true) : ∀ u ∈ [x], u.oneCell' = true := by
 intro u hu
 simp only [List.mem_singleton] at hu
 rw [hu]; exact h
theorem news_lit (w : World) (xs : List Value) (e : TypeId) : ∀ j u, xs[j]? = some u → (w.alloc (.cells xs.toArray e)).cell? ⟨w.heap.size, 0 + j, none⟩ = some u := by
 intro j u hu
 have := heap_alloc_new w (.cells xs.toArray e)
 simp only [World.cell?, this]
 simpa using hu
theorem own_bytesWorld (w : World) (B e : Nat) (s : ByteArray) (hB : B ≤ w.heap.size) (hs : s.size ≤ maxLen) :
 Own (Lib.bytesWorld w e s) B e 1 (.slice (some ⟨w.heap.size, 0, none⟩) s.size (grownCap w s.size 0 e)) s.size (bv s.data.toList) := by
 have hge := grownCap_ge w s.size 0 e
 have hsz : (Lib.bytesCells w e s).size = grownCap w s.size 0 e := by
  have : s.data.size = s.size := rfl
  simp [Lib.bytesCells, this]; omega
 refine ⟨by simp [bv], .inr ⟨w.heap.size, 0, _, _, _, rfl, hB, Lib.bytesWorld_at_new w e s, hge, grownCap_le_maxLen w s.size 0 e hs, by omega, ?_, ?_⟩⟩
 ·left; simp only []; omega
 ·simp only [Lib.bytesCells, Array.toList_append, Array.toList_map, List.drop_zero, bv]
  have : (List.map (fun c : UInt8 => Value.int IntKind.u8 (c.toNat : Int)) s.data.toList).length = s.size * 1 := by simp
  rw [← this]
  exact List.take_left
theorem below_bytesWorld (w : World) (B e : Nat) (s : ByteArray) (hB : B ≤ w.heap.size) : Below B w (Lib.bytesWorld w e s) :=
 ⟨rfl, rfl, rfl, by rw [Lib.bytesWorld_size]; omega, fun k hk => Lib.bytesWorld_at_old w e s k (by omega)⟩
theorem run_string_of {w : World} (src e dst : Nat) (hs : P.underlying src = some (.slice e)) (he : P.underlying e = some (.int .u8)) (hd : P.underlying dst = some .string) (g off cap n : Nat) (bs : List UInt8) (hlen : bs.length = n)
 (hc : ∀ j u, (bv bs)[j]? = some u → w.cell? ⟨g, off + j, none⟩ = some u) :
 (convert src dst (.slice (some ⟨g, off, none⟩) n cap)).run P w = .ok (.string ⟨bs.toArray⟩) w := by
 have h := run_convert_bytes_arg (P := P) w src e hs he g off n cap (bs.map fun c => (c.toNat : Int)) (by simpa using hlen) (fun i hi => by
  have := hc i (.int .u8 ((bs.map fun c => (c.toNat : Int)).getD i 0)) (by simp [bv, List.getD, List.getElem?_eq_getElem (show i < bs.length by omega)])
  exact this) dst hd
 rw [h]
 congr 2
 simp [strOfNums, Function.comp_def]
theorem run_string_own {w : World} {B : Nat} (src e dst : Nat) (hs : P.underlying src = some (.slice e)) (he : P.underlying e = some (.int .u8)) (hd : P.underlying dst = some .string) {v : Value} {n : Nat} {bs : List UInt8} (h : Own w B e 1 v n (bv bs)) :
 (convert src dst v).run P w = .ok (.string ⟨bs.toArray⟩) w := by
 have hn : bs.length = n := by have := h.1; rw [bv_length] at this; omega
 rcases h.2 with ⟨rfl, h0⟩ | ⟨g, off, cap, cur, fz, rfl, _⟩
 ·have : bs = [] := List.eq_nil_of_length_eq_zero (by omega)
  subst this
  rw [run_convert_bytes_nil (P := P) w src e hs he 0 0 dst hd]
  rfl
 ·exact run_string_of src e dst hs he hd g off cap n bs hn (h.cells rfl)
end
end Go.Av
namespace Go.Ab
open Go.RowKit Go.Av
inductive D where
 | int (k : IntKind) (n : Int)
 | bool (b : Bool)
 | str (s : List UInt8)
 | sl (rows : List (List D))
inductive Tok where
 | full
 | own (t : Nat)
inductive V where
 | undef
 | d (x : D)
 | sl (rows : List (List D)) (t : Tok)
 | ptr (i k : Nat)
 | eptr (row : List D) (k : Nat)
 | bx (i n cap : Nat)
 | mp (i : Nat)
 | kvs (ks : List (List UInt8)) (vs : List V)
 | self (i T : Nat)
 | buf (rows : List (List D)) (t T : Nat)
 | nilp
 | func (f : FuncId) (first caps : List V)
 | nilf
 | agg (vs : List V)
 | tup (vs : List V)
instance : Inhabited V := ⟨.undef⟩
structure TI where
 addr : Option (Nat × Nat)
 cap : Nat
 n : Nat
 sz : Nat
def flatV : D → Option Value
 | .int k n => some (.int k n)
 | .bool b => some (.bool b)
 | .str s => if s.length ≤ 9223372036854775807 then some (.string ⟨s.toArray⟩) else none
 | .sl _ => none
structure Inv where
 holds : World → Prop
 top : Nat
 glob : Nat → Option (List D)
 ok : ∀ (w : World) (g : Nat) (row : List D), holds w → glob g = some row → g < top ∧ ∀ q (h : q < row.length), ∃ v, flatV row[q] = some v ∧ w.cell? ⟨g, q, none⟩ = some v
structure Cx where
 B : Nat
 ρ : List Nat
 τ : List TI
 I : Inv
 X : Nat → Nat → Prop
 hX : ∀ g k, X g k → I.top ≤ g ∧ g < B
def Cx.M (c : Cx) (g k : Nat) : Prop := (c.X g k ∨ g ∈ c.ρ) ∨ ∃ (t : Nat) (i : TI) (off : Nat), c.τ[t]? = some i ∧ i.addr = some (g, off) ∧ off + i.n * i.sz ≤ k ∧ k < off + i.cap * i.sz
inductive DR (M : Nat → Nat → Prop) (w : World) : D → Value → Prop
 | int (k : IntKind) (n : Int) : DR M w (.int k n) (.int k n)
 | bool (b : Bool) : DR M w (.bool b) (.bool b)
 | str (s : List UInt8) (h : s.length ≤ 9223372036854775807) : DR M w (.str s) (.string ⟨s.toArray⟩)
 | sl (rows : List (List D)) (sz : Nat) (a : Option Addr) (cap : Nat) (f : Nat → Nat → Value) (hsz : 0 < sz) (hr : ∀ r ∈ rows, r.length = sz) (hc : rows.length ≤ cap) (hm : cap ≤ 9223372036854775807)
  (hs : rows ≠ [] → ∃ g off, a = some ⟨g, off, none⟩ ∧ ∀ j (h : j < rows.length) q (_ : q < (rows[j]).length), ¬ M g (off + j * sz + q) ∧ w.cell? ⟨g, off + j * sz + q, none⟩ = some (f j q))
  (hd : ∀ j (h : j < rows.length) q (hq : q < (rows[j]).length), DR M w (rows[j])[q] (f j q)) : DR M w (.sl rows) (.slice a rows.length cap)
theorem DR.mono {M M' : Nat → Nat → Prop} {w w' : World} (hk : ∀ g k v, ¬ M g k → w.cell? ⟨g, k, none⟩ = some v → ¬ M' g k ∧ w'.cell? ⟨g, k, none⟩ = some v) {x : D} {v : Value} (h : DR M w x v) : DR M' w' x v := by
 induction h with
 | int k n => exact .int k n
 | bool b => exact .bool b
 | str s h => exact .str s h
 | sl rows sz a cap f hsz hr hc hm hs hd ih =>
  refine .sl rows sz a cap f hsz hr hc hm (fun he => ?_) ih
  obtain ⟨g, off, ha, hc⟩ := hs he
  exact ⟨g, off, ha, fun j h q hq => hk _ _ _ (hc j h q hq).1 (hc j h q hq).2⟩
theorem DR.one {M : Nat → Nat → Prop} {w : World} {x : D} {v : Value} (h : DR M w x v) : v.oneCell' = true := by cases h <;> rfl
theorem DR.cells {M : Nat → Nat → Prop} {w : World} {x : D} {v : Value} (h : DR M w x v) : v.cells = #[v] := by cases h <;> rfl
def OfTy (w : World) (b T : Nat) : Prop := ∃ cs fz, w.heap[b]? = some (.cells cs T fz)
inductive VR (c : Cx) (w : World) : V → Value → Prop
 | undef (v : Value) : VR c w .undef v
 | d (x : D) (v : Value) (h : DR c.M w x v) : VR c w (.d x) v
 | full (rows : List (List D)) (a : Option Addr) (h : DR c.M w (.sl rows) (.slice a rows.length rows.length)) (ha : ∀ p, a = some p → p.spot = none ∧ c.B ≤ p.block) : VR c w (.sl rows .full) (.slice a rows.length rows.length)
 | own (rows : List (List D)) (t : Nat) (a : Option Addr) (cap : Nat) (i : TI) (h : DR c.M w (.sl rows) (.slice a rows.length cap)) (ht : c.τ[t]? = some i) (hr : ∀ r ∈ rows, r.length = i.sz) (hn : rows.length ≤ i.n)
  (hl : rows.length = i.n → cap = i.cap ∧ a = i.addr.map fun p => ⟨p.1, p.2, none⟩) : VR c w (.sl rows (.own t)) (.slice a rows.length cap)
 | ptr (i k b : Nat) (h : c.ρ[i]? = some b) (hT : ∃ T, OfTy w b T) : VR c w (.ptr i k) (.pointer (some ⟨b, k, none⟩))
 | eptr (row : List D) (k g o : Nat) (f : Nat → Value) (h : ∀ q (h : q < row.length), ¬ c.M g (o + q) ∧ w.cell? ⟨g, o + q, none⟩ = some (f q) ∧ DR c.M w row[q] (f q)) : VR c w (.eptr row k) (.pointer (some ⟨g, o + k, none⟩))
 | bx (i n cap b : Nat) (h : c.ρ[i]? = some b) (hn : n ≤ cap) (hm : cap ≤ 9223372036854775807) (hT : ∃ T, OfTy w b T) : VR c w (.bx i n cap) (.slice (some ⟨b, 0, none⟩) n cap)
 | mp (i b : Nat) (h : c.ρ[i]? = some b) : VR c w (.mp i) (.map (some b))
 | self (i T b : Nat) (v : Value) (h : c.ρ[i]? = some b) (hT : OfTy w b T) (hv : v = .pointer none ∨ v = .pointer (some ⟨b, 0, none⟩)) : VR c w (.self i T) v
 | buf (rows : List (List D)) (t T : Nat) (v : Value) (h : VR c w (.sl rows (.own t)) v) (hT : ∀ g off n cap, cap ≠ 0 → v = .slice (some ⟨g, off, none⟩) n cap → off = 0 ∧ c.B ≤ g ∧ OfTy w g T) : VR c w (.buf rows t T) v
 | nilp : VR c w .nilp (.pointer none)
 | func (f : FuncId) (first caps : List V) (cf cc : Array Value) (h1 : cf.size = first.length) (h2 : cc.size = caps.length) (h3 : ∀ j (h : j < first.length), VR c w first[j] (cf.getD j undef)) (h4 : ∀ j (h : j < caps.length), VR c w caps[j] (cc.getD j undef)) : VR c w (.func f first caps) (.func (.func f) cf cc)
 | nilf : VR c w .nilf .nilFunc
 | agg (vs : List V) (cs : Array Value) (h1 : cs.size = vs.length) (h2 : ∀ j (h : j < vs.length), VR c w vs[j] (cs.getD j undef)) (h3 : ∀ j, j < vs.length → (cs.getD j undef).oneCell' = true) : VR c w (.agg vs) (.agg cs)
 | tup (vs : List V) (cs : Array Value) (h1 : cs.size = vs.length) (h2 : ∀ j (h : j < vs.length), VR c w vs[j] (cs.getD j undef)) : VR c w (.tup vs) (.tuple cs)
structure Keeps (c : Cx) (w : World) (c' : Cx) (w' : World) : Prop where
 cell : ∀ g k v, ¬ c.M g k → w.cell? ⟨g, k, none⟩ = some v → ¬ c'.M g k ∧ w'.cell? ⟨g, k, none⟩ = some v
 ρ : ∀ (i b : Nat), c.ρ[i]? = some b → c'.ρ[i]? = some b
 τ : ∀ (t : Nat) (i : TI), c.τ[t]? = some i → ∃ i', c'.τ[t]? = some i' ∧ i'.sz = i.sz ∧ i.n ≤ i'.n ∧ (i'.n = i.n → i' = i)
 B : c'.B = c.B
 ty : ∀ b T, OfTy w b T → OfTy w' b T
theorem Keeps.refl (c : Cx) (w : World) : Keeps c w c w := ⟨fun _ _ _ h h' => ⟨h, h'⟩, fun _ _ h => h, fun _ i h => ⟨i, h, rfl, Nat.le_refl _, fun _ => rfl⟩, rfl, fun _ _ h => h⟩
theorem Keeps.trans {c1 c2 c3 : Cx} {w1 w2 w3 : World} (h : Keeps c1 w1 c2 w2) (k : Keeps c2 w2 c3 w3) : Keeps c1 w1 c3 w3 := by
 refine ⟨fun g q v hm hv => ?_, fun i b hb => k.ρ _ _ (h.ρ _ _ hb), fun t i ht => ?_, k.B.trans h.B, fun b T hT => k.ty b T (h.ty b T hT)⟩
 ·obtain ⟨a, b⟩ := h.cell g q v hm hv
  exact k.cell g q v a b
 ·obtain ⟨i1, a1, a2, a3, a4⟩ := h.τ t i ht
  obtain ⟨i2, b1, b2, b3, b4⟩ := k.τ t i1 a1
  refine ⟨i2, b1, b2.trans a2, Nat.le_trans a3 b3, fun e => ?_⟩
  have e1 : i1.n = i.n := by omega
  have e2 := a4 e1
  subst e2
  exact b4 e
theorem DR.keep {c c' : Cx} {w w' : World} (hk : Keeps c w c' w') {x : D} {v : Value} (h : DR c.M w x v) : DR c'.M w' x v := h.mono hk.cell
theorem VR.keep {c c' : Cx} {w w' : World} (hk : Keeps c w c' w') {x : V} {v : Value} (h : VR c w x v) : VR c' w' x v := by
 induction h with
 | undef v => exact .undef v
 | d x v h => exact .d x v (h.keep hk)
 | full rows a h ha => exact .full rows a (h.keep hk) (fun p hp => by rw [hk.B]; exact ha p hp)
 | own rows t a cap i h ht hr hn hl =>
  obtain ⟨i', b1, b2, b3, b4⟩ := hk.τ t i ht
  refine .own rows t a cap i' (h.keep hk) b1 (by rw [b2]; exact hr) (by omega) (fun e => ?_)
  have e1 : i'.n = i.n := by omega
  have e2 := b4 e1
  subst e2
  exact hl e
 | ptr i k b h hT => exact .ptr i k b (hk.ρ _ _ h) (hT.imp fun T => hk.ty b T)
 | eptr row k g o f h =>
  refine .eptr row k g o f fun q hq => ?_
  obtain ⟨a, b, d⟩ := h q hq
  obtain ⟨a', b'⟩ := hk.cell _ _ _ a b
  exact ⟨a', b', d.keep hk⟩
 | bx i n cap b h hn hm hT => exact .bx i n cap b (hk.ρ _ _ h) hn hm (hT.imp fun T => hk.ty b T)
 | mp i b h => exact .mp i b (hk.ρ _ _ h)
 | self i T b v h hT hv => exact .self i T b v (hk.ρ _ _ h) (hk.ty _ _ hT) hv
 | buf rows t T v h hT ih =>
  refine .buf rows t T v ih fun g off n cap hr hv => ?_
  obtain ⟨h1, h2, h3⟩ := hT g off n cap hr hv
  exact ⟨h1, by rw [hk.B]; exact h2, hk.ty _ _ h3⟩
 | nilp => exact .nilp
 | func f first caps cf cc h1 h2 h3 h4 ih1 ih2 => exact .func f first caps cf cc h1 h2 ih1 ih2
 | nilf => exact .nilf
 | agg vs cs h1 h2 h3 ih => exact .agg vs cs h1 ih h3
 | tup vs cs h1 h2 ih => exact .tup vs cs h1 ih
structure Ext (c : Cx) (w : World) (c' : Cx) (w' : World) : Prop where
 keeps : Keeps c w c' w'
 B : c'.B = c.B
 I : c'.I = c.I
 X : c'.X = c.X
 below : Below c.B w w'
theorem Ext.refl (c : Cx) (w : World) : Ext c w c w := ⟨.refl c w, rfl, rfl, rfl, .refl _ w⟩
theorem Ext.trans {c1 c2 c3 : Cx} {w1 w2 w3 : World} (h : Ext c1 w1 c2 w2) (k : Ext c2 w2 c3 w3) : Ext c1 w1 c3 w3 :=
 ⟨h.keeps.trans k.keeps, k.B.trans h.B, k.I.trans h.I, k.X.trans h.X, h.below.trans (h.B ▸ k.below)⟩
theorem VR.ext {c c' : Cx} {w w' : World} (hk : Ext c w c' w') {x : V} {v : Value} (h : VR c w x v) : VR c' w' x v := h.keep hk.keeps
inductive BoxR (c : Cx) (w : World) : Obj → List V → Prop
 | cells (cs : Array Value) (T : TypeId) (vs : List V) (h1 : cs.size = vs.length) (h2 : ∀ j (h : j < vs.length), VR c w vs[j] (cs.getD j undef) ∧ (cs.getD j undef).oneCell' = true) : BoxR c w (.cells cs T (0, 0)) vs
 | map (es : Array MapEntry) (ck : Nat) (ks : List (List UInt8)) (vs : List V) (h0 : es.size = ks.length) (h1 : ks.length = vs.length)
  (h2 : ∀ (j : Nat) (k : List UInt8) (v : V), ks[j]? = some k → vs[j]? = some v → ∃ e, es[j]? = some e ∧ e.key = .string ⟨k.toArray⟩ ∧ VR c w v e.val) : BoxR c w (.map es ck) [.kvs ks vs]
theorem BoxR.keep {c c' : Cx} {w w' : World} (hk : Keeps c w c' w') {o : Obj} {vs : List V} (h : BoxR c w o vs) : BoxR c' w' o vs := by
 cases h with
 | cells cs T vs h1 h2 => exact .cells cs T vs h1 fun j hj => ⟨(h2 j hj).1.keep hk, (h2 j hj).2⟩
 | map es ck ks us h0 h1 h2 => exact .map es ck ks us h0 h1 fun j k v hj hv => (h2 j k v hj hv).imp fun e he => ⟨he.1, he.2.1, he.2.2.keep hk⟩
def NoKv (vs : List V) : Prop := ∀ ks us, vs ≠ [.kvs ks us]
theorem BoxR.of_kv {c : Cx} {w : World} {o : Obj} {vs : List V} (h : BoxR c w o vs) (hn : NoKv vs) : ∃ (cs : Array Value) (T : TypeId), o = .cells cs T (0, 0) ∧ cs.size = vs.length ∧ ∀ j (h : j < vs.length), VR c w vs[j] (cs.getD j undef) ∧ (cs.getD j undef).oneCell' = true := by
 cases h with
 | cells cs T vs h1 h2 => exact ⟨cs, T, rfl, h1, h2⟩
 | map es ck ks us h0 h1 h2 => exact absurd rfl (hn ks us)
theorem BoxR.of_ty {c : Cx} {w : World} {b : Nat} {o : Obj} {vs : List V} (h : BoxR c w o vs) (ho : w.heap[b]? = some o) (hT : ∃ T, OfTy w b T) : ∃ (cs : Array Value) (T : TypeId), w.heap[b]? = some (.cells cs T (0, 0)) ∧ cs.size = vs.length ∧ ∀ j (h : j < vs.length), VR c w vs[j] (cs.getD j undef) ∧ (cs.getD j undef).oneCell' = true := by
 cases h with
 | cells cs T vs h1 h2 => exact ⟨cs, T, ho, h1, h2⟩
 | map es ck ks us h0 h1 h2 =>
  obtain ⟨T, cs, fz, hT⟩ := hT
  rw [ho] at hT
  cases hT
structure Mem where
 boxes : List (List V)
 toks : List (Nat × Nat)
structure Rep (c : Cx) (w : World) (S : Mem) : Prop where
 hB : c.I.top ≤ c.B ∧ c.B ≤ w.heap.size
 len : S.boxes.length = c.ρ.length
 box : ∀ (i b : Nat), c.ρ[i]? = some b → c.B ≤ b ∧ ∃ o, w.heap[b]? = some o ∧ ∃ vs, S.boxes[i]? = some vs ∧ BoxR c w o vs
 inj : ∀ (i j b : Nat), c.ρ[i]? = some b → c.ρ[j]? = some b → i = j
 toks : S.toks = c.τ.map fun i => (i.n, i.sz)
 tok : ∀ (t : Nat) (i : TI), c.τ[t]? = some i → i.n ≤ i.cap ∧ i.cap ≤ 9223372036854775807 ∧ 0 < i.sz ∧ (i.addr = none → i.cap = 0) ∧
  (i.n < i.cap → ∀ g off, i.addr = some (g, off) → c.B ≤ g ∧ g ∉ c.ρ ∧ ∃ (cur : Array Value) (T : TypeId) (fz : Nat × Nat), w.heap[g]? = some (.cells cur T fz) ∧ off + i.cap * i.sz ≤ cur.size ∧ (off + i.cap * i.sz ≤ fz.1 ∨ fz.2 = fz.1))
 disj : ∀ (t t' : Nat) (i i' : TI) (g off off' : Nat), c.τ[t]? = some i → c.τ[t']? = some i' → i.addr = some (g, off) → i'.addr = some (g, off') → i.n < i.cap → i'.n < i'.cap → t = t'
 inv : ∀ w', Below c.B w w' → c.I.holds w'
theorem Rep.lt {c : Cx} {w : World} {S : Mem} (h : Rep c w S) {i b : Nat} (hb : c.ρ[i]? = some b) : b < w.heap.size := by
 obtain ⟨_, o, hh, _⟩ := h.box i b hb
 exact (Array.getElem?_eq_some_iff.1 hh).1
theorem Rep.I {c : Cx} {w : World} {S : Mem} (h : Rep c w S) : c.I.holds w := h.inv w (.refl _ _)
theorem mem_ρ {l : List Nat} {b : Nat} : b ∈ l ↔ ∃ i : Nat, l[i]? = some b := List.mem_iff_getElem?
theorem Rep.notM_new {c : Cx} {w : World} {S : Mem} (h : Rep c w S) {g k : Nat} (hg : w.heap.size ≤ g) : ¬ c.M g k := by
 rintro ((hm | hm) | ⟨t, i, off, ht, ha, h1, h2⟩)
 ·have := (c.hX _ _ hm).2
  have := h.hB.2
  omega
 ·obtain ⟨i, hi⟩ := mem_ρ.1 hm
  have := h.lt hi
  omega
 ·obtain ⟨a1, a2, a3, a4, a5⟩ := h.tok t i ht
  have hlt : i.n < i.cap := by
   rcases Nat.lt_or_ge i.n i.cap with h' | h'
   ·exact h'
   ·have := Nat.mul_le_mul_right i.sz h'
    omega
  obtain ⟨_, _, cur, T, fz, hh, _⟩ := a5 hlt g off ha
  have := (Array.getElem?_eq_some_iff.1 hh).1
  omega
theorem cell_lt {w : World} {g k : Nat} {v : Value} (h : w.cell? ⟨g, k, none⟩ = some v) : g < w.heap.size := by
 rcases Nat.lt_or_ge g w.heap.size with h' | h'
 ·exact h'
 ·simp [World.cell?, Array.getElem?_eq_none h'] at h
theorem DR_flat {M : Nat → Nat → Prop} {w : World} {x : D} {v : Value} (h : flatV x = some v) : DR M w x v := by
 cases x with
 | int k n => obtain rfl := Option.some.inj h; exact .int _ _
 | bool b => obtain rfl := Option.some.inj h; exact .bool _
 | str s =>
  simp only [flatV] at h
  split at h
  ·rename_i hs; obtain rfl := Option.some.inj h; exact .str _ hs
  ·cases h
 | sl rows => cases h
theorem Rep.glob {c : Cx} {w : World} {S : Mem} (h : Rep c w S) {g : Nat} {row : List D} (hg : c.I.glob g = some row) : VR c w (.eptr row 0) (.pointer (some ⟨g, 0, none⟩)) := by
 obtain ⟨hlt, hc⟩ := c.I.ok w g row h.I hg
 have hB := h.hB.1
 have hM : ∀ k, ¬ c.M g k := by
  rintro k ((hm | hm) | ⟨t, i, off, ht, ha, h1, h2⟩)
  ·have := (c.hX _ _ hm).1
   omega
  ·obtain ⟨i, hi⟩ := mem_ρ.1 hm
   obtain ⟨hb, _⟩ := h.box i g hi
   omega
  ·obtain ⟨a1, a2, a3, a4, a5⟩ := h.tok t i ht
   have hlt : i.n < i.cap := by
    rcases Nat.lt_or_ge i.n i.cap with h' | h'
    ·exact h'
    ·have := Nat.mul_le_mul_right i.sz h'
     omega
   have := (a5 hlt g off ha).1
   omega
 refine .eptr row 0 g 0 (fun q => (w.cell? ⟨g, q, none⟩).getD undef) fun q hq => ?_
 obtain ⟨v, h1, h2⟩ := hc q hq
 rw [Nat.zero_add]
 refine ⟨hM q, by rw [h2]; rfl, ?_⟩
 rw [h2]
 exact DR_flat h1
theorem OfTy.lt {w : World} {b T : Nat} (h : OfTy w b T) : b < w.heap.size := by
 obtain ⟨cs, fz, h⟩ := h
 exact (Array.getElem?_eq_some_iff.1 h).1
theorem OfTy.of_block {w w' : World} {b T : Nat} (h : OfTy w b T) (e : w'.heap[b]? = w.heap[b]?) : OfTy w' b T := by
 obtain ⟨cs, fz, h⟩ := h
 exact ⟨cs, fz, by rw [e]; exact h⟩
theorem OfTy.alloc {w : World} {b T : Nat} (h : OfTy w b T) (o : Obj) : OfTy (w.alloc o) b T := h.of_block (Below.heap_alloc w o b h.lt)
theorem cell_alloc_old {w : World} {g k : Nat} (o : Obj) (h : g < w.heap.size) : (w.alloc o).cell? ⟨g, k, none⟩ = w.cell? ⟨g, k, none⟩ :=
 World.cell?_of_block (a := ⟨g, k, none⟩) (Below.heap_alloc w o g h)
theorem Rep.junk {c : Cx} {w : World} {S : Mem} (h : Rep c w S) (o : Obj) : Rep c (w.alloc o) S ∧ Ext c w c (w.alloc o) := by
 have hk : Keeps c w c (w.alloc o) := ⟨fun g k v hm hv => ⟨hm, by rw [cell_alloc_old o (cell_lt hv)]; exact hv⟩, fun _ _ h => h, fun _ i h => ⟨i, h, rfl, Nat.le_refl _, fun _ => rfl⟩, rfl, fun _ _ h => h.alloc o⟩
 have hb : Below c.B w (w.alloc o) := (Below.refl _ _).alloc h.hB.2 _
 refine ⟨⟨⟨h.hB.1, by have := hb.size; have := h.hB.2; omega⟩, h.len, fun i b hi => ?_, h.inj, h.toks, fun t i ht => ?_, h.disj, fun w' hw' => h.inv w' (hb.trans hw')⟩, hk, rfl, rfl, rfl, hb⟩
 ·obtain ⟨a, o, hh, vs, e1, e2⟩ := h.box i b hi
  exact ⟨a, o, by rw [Below.heap_alloc _ _ _ (h.lt hi)]; exact hh, vs, e1, e2.keep hk⟩
 ·obtain ⟨a1, a2, a3, a4, a5⟩ := h.tok t i ht
  refine ⟨a1, a2, a3, a4, fun hn g off ha => ?_⟩
  obtain ⟨b1, b2, cur, T, fz, hh, r⟩ := a5 hn g off ha
  exact ⟨b1, b2, cur, T, fz, by rw [Below.heap_alloc _ _ _ (Array.getElem?_eq_some_iff.1 hh).1]; exact hh, r⟩
theorem Rep.new_box {c : Cx} {w : World} {S : Mem} (h : Rep c w S) (o : Obj) (vs : List V) (hv : BoxR c w o vs) :
 Rep { c with ρ := c.ρ ++ [w.heap.size] } (w.alloc o) { S with boxes := S.boxes ++ [vs] } ∧ Ext c w { c with ρ := c.ρ ++ [w.heap.size] } (w.alloc o) := by
 obtain ⟨h1, hj⟩ := h.junk o
 have hk : Keeps c w { c with ρ := c.ρ ++ [w.heap.size] } (w.alloc o) := by
  refine ⟨fun g k v hm hv => ⟨?_, (hj.keeps.cell g k v hm hv).2⟩, fun i b hi => ?_, hj.keeps.τ, rfl, hj.keeps.ty⟩
  ·rintro ((h' | h') | h')
   ·exact hm (.inl (.inl h'))
   ·simp only [List.mem_append, List.mem_singleton] at h'
    rcases h' with h' | h'
    ·exact hm (.inl (.inr h'))
    ·have := cell_lt hv; omega
   ·exact hm (.inr h')
  ·show (c.ρ ++ [w.heap.size])[i]? = some b
   rw [List.getElem?_append_left (List.getElem?_eq_some_iff.1 hi).1]
   exact hi
 have hnew : ∀ i b : Nat, (c.ρ ++ [w.heap.size])[i]? = some b → c.ρ[i]? = some b ∨ (i = c.ρ.length ∧ b = w.heap.size) := by
  intro i b hi
  rcases Nat.lt_or_ge i c.ρ.length with h' | h'
  ·left; rwa [List.getElem?_append_left h'] at hi
  ·right
   rw [List.getElem?_append_right h'] at hi
   have : i - c.ρ.length = 0 := by
    have := (List.getElem?_eq_some_iff.1 hi).1
    simp at this; omega
   rw [this] at hi
   simp at hi
   exact ⟨by omega, hi.symm⟩
 refine ⟨⟨h1.hB, by simp [h.len], fun i b hi => ?_, fun i j b hi hj' => ?_, h.toks, fun t i ht => ?_, h.disj, h1.inv⟩, hk, rfl, rfl, rfl, hj.below⟩
 ·rcases hnew i b hi with hi | ⟨rfl, rfl⟩
  ·obtain ⟨a, o0, hh0, vs0, f1, f2⟩ := h.box i b hi
   have hold : (w.alloc o).heap[b]? = w.heap[b]? := Below.heap_alloc _ _ _ (h.lt hi)
   refine ⟨a, o0, by rw [hold]; exact hh0, vs0, ?_, f2.keep hk⟩
   show (S.boxes ++ [vs])[i]? = _
   rw [List.getElem?_append_left (List.getElem?_eq_some_iff.1 f1).1]; exact f1
  ·refine ⟨h.hB.2, o, heap_alloc_new w _, vs, ?_, hv.keep hk⟩
   show (S.boxes ++ [vs])[c.ρ.length]? = _
   rw [← h.len]; simp
 ·rcases hnew i b hi with hi | ⟨rfl, rfl⟩ <;> rcases hnew j _ hj' with hj' | ⟨rfl, e⟩
  ·exact h.inj i j b hi hj'
  ·have := h.lt hi; omega
  ·have := h.lt hj'; omega
  ·rfl
 ·obtain ⟨a1, a2, a3, a4, a5⟩ := h1.tok t i ht
  refine ⟨a1, a2, a3, a4, fun hn g off ha => ?_⟩
  obtain ⟨b1, b2, r⟩ := a5 hn g off ha
  obtain ⟨_, _, cur, T', fz, hh, _⟩ := (h.tok t i ht).2.2.2.2 hn g off ha
  refine ⟨b1, ?_, r⟩
  simp only [List.mem_append, List.mem_singleton, not_or]
  refine ⟨b2, fun e => ?_⟩
  have := (Array.getElem?_eq_some_iff.1 hh).1
  omega
theorem Rep.box_new {c : Cx} {w : World} {S : Mem} (h : Rep c w S) (cs : Array Value) (T : TypeId) (vs : List V) (hsz : cs.size = vs.length) (hv : ∀ j (h : j < vs.length), VR c w vs[j] (cs.getD j undef) ∧ (cs.getD j undef).oneCell' = true) :
 Rep { c with ρ := c.ρ ++ [w.heap.size] } (w.alloc (.cells cs T)) { S with boxes := S.boxes ++ [vs] } ∧ Ext c w { c with ρ := c.ρ ++ [w.heap.size] } (w.alloc (.cells cs T)) :=
 h.new_box _ vs (.cells cs T vs hsz hv)
theorem OfTy.new {w : World} (cs : Array Value) (T : TypeId) : OfTy (w.alloc (.cells cs T)) w.heap.size T := ⟨cs, (0, 0), heap_alloc_new w _⟩
theorem setRow_cell (w : World) (g : Nat) (cs : Array Value) {b k : Nat} (h : b ≠ g) : (w.setRow g cs).cell? ⟨b, k, none⟩ = w.cell? ⟨b, k, none⟩ :=
 World.cell?_of_block (a := ⟨b, k, none⟩) (setRow_other w g b cs h)
theorem OfTy.setRow {w : World} {b T : Nat} (h : OfTy w b T) (g : Nat) (cs : Array Value) : OfTy (w.setRow g cs) b T := by
 by_cases e : b = g
 ·subst e
  obtain ⟨cs0, fz, h⟩ := h
  exact ⟨cs, fz, setRow_heap w b cs0 cs T fz h⟩
 ·exact h.of_block (setRow_other w g b cs e)
theorem setRow_size (w : World) (g : Nat) (cs : Array Value) : (w.setRow g cs).heap.size = w.heap.size := by simp [World.setRow]
theorem below_setRow (B : Nat) (w : World) (g : Nat) (cs : Array Value) (h : B ≤ g) : Below B w (w.setRow g cs) :=
 ⟨rfl, rfl, rfl, by rw [setRow_size]; exact Nat.le_refl _, fun k hk => setRow_other w g k cs (by omega)⟩
theorem Rep.setObj {c : Cx} {w w' : World} {S : Mem} (h : Rep c w S) {i b : Nat} (hi : c.ρ[i]? = some b) (o : Obj) (vs : List V) (hv : BoxR c w o vs) (hnew : w'.heap[b]? = some o) (hoth : ∀ k, k ≠ b → w'.heap[k]? = w.heap[k]?) (hsz : w'.heap.size = w.heap.size) (hb : Below c.B w w')
 (hty : ∀ T, OfTy w b T → OfTy w' b T) : Rep c w' { S with boxes := S.boxes.set i vs } ∧ Ext c w c w' := by
 obtain ⟨hBb, o0, hh0, vs0, f1, f2⟩ := h.box i b hi
 have hk : Keeps c w c w' := ⟨fun g k v hm hv => ⟨hm, by rw [World.cell?_of_block (a := ⟨g, k, none⟩) (hoth g (fun (e : g = b) => hm (.inl (.inr (mem_ρ.2 ⟨i, by rw [e]; exact hi⟩)))))]; exact hv⟩, fun _ _ h => h, fun _ i h => ⟨i, h, rfl, Nat.le_refl _, fun _ => rfl⟩, rfl, fun g T hT => by
  by_cases e : g = b
  ·subst e; exact hty T hT
  ·exact hT.of_block (hoth g e)⟩
 refine ⟨⟨⟨h.hB.1, by rw [hsz]; exact h.hB.2⟩, by simp [h.len], fun i' b' hi' => ?_, h.inj, h.toks, fun t i ht => ?_, h.disj, fun w' hw' => h.inv w' (hb.trans hw')⟩, hk, rfl, rfl, rfl, hb⟩
 ·obtain ⟨a, o1, hh1, vs1, e1, e2⟩ := h.box i' b' hi'
  by_cases hne : i' = i
  ·subst hne
   rw [hi] at hi'
   obtain rfl := Option.some.inj hi'
   refine ⟨a, o, hnew, vs, ?_, hv.keep hk⟩
   show (S.boxes.set i' vs)[i']? = some vs
   rw [List.getElem?_set_self (List.getElem?_eq_some_iff.1 f1).1]
  ·have hbb : b' ≠ b := fun e => hne (h.inj i' i b (e ▸ hi') hi)
   refine ⟨a, o1, by rw [hoth _ hbb]; exact hh1, vs1, ?_, e2.keep hk⟩
   show (S.boxes.set i vs)[i']? = some vs1
   rw [List.getElem?_set_ne (fun e => hne e.symm)]; exact e1
 ·obtain ⟨a1, a2, a3, a4, a5⟩ := h.tok t i ht
  refine ⟨a1, a2, a3, a4, fun hn g off ha => ?_⟩
  obtain ⟨b1, b2, cur, T, fz, hh, r⟩ := a5 hn g off ha
  refine ⟨b1, b2, cur, T, fz, ?_, r⟩
  rw [hoth _ (fun (e : g = b) => b2 (mem_ρ.2 ⟨_, by rw [e]; exact hi⟩))]; exact hh
theorem Rep.setBox {c : Cx} {w : World} {S : Mem} (h : Rep c w S) {i b : Nat} (hi : c.ρ[i]? = some b) (hT : ∃ T, OfTy w b T) (cs : Array Value) (vs : List V) (hsz : cs.size = vs.length) (hv : ∀ j (h : j < vs.length), VR c w vs[j] (cs.getD j undef) ∧ (cs.getD j undef).oneCell' = true) :
 Rep c (w.setRow b cs) { S with boxes := S.boxes.set i vs } ∧ Ext c w c (w.setRow b cs) := by
 obtain ⟨hBb, o0, hh0, vs0, f1, f2⟩ := h.box i b hi
 obtain ⟨cs0, T0, hh, _⟩ := f2.of_ty hh0 hT
 exact h.setObj hi _ vs (.cells cs T0 vs hsz hv) (setRow_heap w b cs0 cs T0 _ hh) (fun k hk => setRow_other w b k cs hk) (setRow_size _ _ _) (below_setRow _ _ _ _ hBb) (fun T h => h.setRow b cs)
theorem div_row {j q sz : Nat} (hq : q < sz) : (j * sz + q) / sz = j ∧ (j * sz + q) % sz = q := by
 have hs : 0 < sz := by omega
 rw [Nat.mul_comm]
 exact ⟨by rw [Nat.mul_add_div hs, Nat.div_eq_of_lt hq]; omega, by rw [Nat.mul_add_mod, Nat.mod_eq_of_lt hq]⟩
theorem row_lt {j n q sz : Nat} (hj : j < n) (hq : q < sz) : j * sz + q < n * sz := by
 have := Nat.mul_le_mul_right sz (show j + 1 ≤ n by omega)
 rw [Nat.add_mul] at this
 omega
theorem DR.flat {M : Nat → Nat → Prop} {w : World} {rows : List (List D)} {a : Option Addr} {n cap : Nat} (h : DR M w (.sl rows) (.slice a n cap)) (sz : Nat) (hsz : ∀ r ∈ rows, r.length = sz) :
 n = rows.length ∧ n ≤ cap ∧ cap ≤ 9223372036854775807 ∧ ∃ F : Nat → Value, (rows ≠ [] → 0 < sz ∧ ∃ g off, a = some ⟨g, off, none⟩ ∧ ∀ k, k < rows.length * sz → ¬ M g (off + k) ∧ w.cell? ⟨g, off + k, none⟩ = some (F k)) ∧
  ∀ j (h : j < rows.length) q (hq : q < (rows[j]).length), DR M w (rows[j])[q] (F (j * sz + q)) := by
 cases h with
 | sl _ sz' _ _ f h0 hr hc hm hs hd =>
  refine ⟨rfl, hc, hm, fun k => f (k / sz) (k % sz), fun hne => ?_, fun j hj q hq => ?_⟩
  ·obtain ⟨r, l, rfl⟩ := List.exists_cons_of_ne_nil hne
   have e : sz' = sz := by rw [← hr r (by simp), hsz r (by simp)]
   subst e
   obtain ⟨g, off, ha, hcl⟩ := hs hne
   refine ⟨h0, g, off, ha, fun k hk => ?_⟩
   have hj : k / sz' < (r :: l).length := Nat.div_lt_of_lt_mul (by rw [Nat.mul_comm]; exact hk)
   have hq : k % sz' < ((r :: l)[k / sz']).length := by rw [hsz _ (List.getElem_mem hj)]; exact Nat.mod_lt _ h0
   have := hcl _ hj _ hq
   rw [Nat.add_assoc, show k / sz' * sz' + k % sz' = k by rw [Nat.mul_comm]; exact Nat.div_add_mod k sz'] at this
   exact this
  ·have hq' : q < sz := by rw [← hsz _ (List.getElem_mem hj)]; exact hq
   simp only [(div_row hq').1, (div_row hq').2]
   exact hd j hj q hq
theorem DR.of_flat {M : Nat → Nat → Prop} {w : World} (rows : List (List D)) (sz : Nat) (h0 : 0 < sz) (hsz : ∀ r ∈ rows, r.length = sz) (a : Option Addr) (cap : Nat) (hc : rows.length ≤ cap) (hm : cap ≤ 9223372036854775807) (F : Nat → Value)
 (hs : rows ≠ [] → ∃ g off, a = some ⟨g, off, none⟩ ∧ ∀ k, k < rows.length * sz → ¬ M g (off + k) ∧ w.cell? ⟨g, off + k, none⟩ = some (F k))
 (hd : ∀ j (h : j < rows.length) q (hq : q < (rows[j]).length), DR M w (rows[j])[q] (F (j * sz + q))) : DR M w (.sl rows) (.slice a rows.length cap) := by
 refine .sl rows sz a cap (fun j q => F (j * sz + q)) h0 hsz hc hm (fun hne => ?_) hd
 obtain ⟨g, off, ha, hcl⟩ := hs hne
 refine ⟨g, off, ha, fun j hj q hq => ?_⟩
 have hq' : q < sz := by rw [← hsz _ (List.getElem_mem hj)]; exact hq
 have := hcl (j * sz + q) (row_lt hj hq')
 rw [← Nat.add_assoc] at this
 exact this
theorem run_first {P : Program} {M : Nat → Nat → Prop} {w : World} {rows : List (List D)} {a : Option Addr} {n cap sz : Nat} {F : Nat → Value} (hn : n = rows.length)
 (hs : rows ≠ [] → 0 < sz ∧ ∃ g off, a = some ⟨g, off, none⟩ ∧ ∀ k, k < rows.length * sz → ¬ M g (off + k) ∧ w.cell? ⟨g, off + k, none⟩ = some (F k)) (W : World) (hW : W.heap = w.heap) :
 (Builtin.firstCells sz n (.slice a n cap)).run P W = .ok ((List.range (n * sz)).map F).toArray W := by
 subst hn
 by_cases he : rows = []
 ·subst he
  cases a with
  | none => simp [Builtin.firstCells]
  | some p =>
   have := run_firstCells_some (P := P) W sz 0 p 0 cap [] (by simp) (fun j v hv => by simp at hv)
   simpa using this
 ·obtain ⟨h0, g, off, rfl, hcl⟩ := hs he
  refine run_firstCells_some (P := P) W sz rows.length ⟨g, off, none⟩ rows.length cap ((List.range (rows.length * sz)).map F) (by simp) (fun j v hv => ?_)
  rw [Addr.add_plain]
  have hj : j < rows.length * sz := by
   have := (List.getElem?_eq_some_iff.1 hv).1
   simpa using this
  rw [List.getElem?_map, List.getElem?_range hj] at hv
  obtain rfl := Option.some.inj hv
  have := (hcl j hj).2
  simpa [World.cell?, hW] using this
theorem getElem?_snoc {α : Type} {l : List α} {x y : α} {t : Nat} (h : (l ++ [x])[t]? = some y) : l[t]? = some y ∨ (t = l.length ∧ y = x) := by
 rcases Nat.lt_or_ge t l.length with h' | h'
 ·left; rwa [List.getElem?_append_left h'] at h
 ·right
  rw [List.getElem?_append_right h'] at h
  have : t - l.length = 0 := by
   have := (List.getElem?_eq_some_iff.1 h).1
   simp at this; omega
  rw [this] at h
  simp at h
  exact ⟨by omega, h.symm⟩
theorem getElem?_old {α : Type} {l : List α} {x y : α} {t : Nat} (h : l[t]? = some y) : (l ++ [x])[t]? = some y := by
 rw [List.getElem?_append_left (List.getElem?_eq_some_iff.1 h).1]; exact h
theorem Rep.token {c : Cx} {w : World} {S : Mem} (h : Rep c w S) {rows : List (List D)} {v : Value} (hv : VR c w (.sl rows .full) v) (sz : Nat) (h0 : 0 < sz) (hsz : ∀ r ∈ rows, r.length = sz) :
 ∃ c', Rep c' w { S with toks := S.toks ++ [(rows.length, sz)] } ∧ Ext c w c' w ∧ VR c' w (.sl rows (.own S.toks.length)) v := by
 cases hv with
 | full _ a hd ha =>
  let i : TI := ⟨a.map fun p => (p.block, p.off), rows.length, rows.length, sz⟩
  let c' : Cx := { c with τ := c.τ ++ [i] }
  have hM : ∀ g k, c'.M g k ↔ c.M g k := by
   intro g k
   constructor
   ·rintro (h' | ⟨t, j, off, ht, e1, e2, e3⟩)
    ·exact .inl h'
    ·rcases getElem?_snoc ht with ht | ⟨_, rfl⟩
     ·exact .inr ⟨t, j, off, ht, e1, e2, e3⟩
     ·exact absurd e3 (by simp only [i] at e2 ⊢; omega)
   ·rintro (h' | ⟨t, j, off, ht, e⟩)
    ·exact .inl h'
    ·exact .inr ⟨t, j, off, getElem?_old ht, e⟩
  have hk : Keeps c w c' w := ⟨fun g k v hm hv => ⟨fun h' => hm ((hM g k).1 h'), hv⟩, fun _ _ h => h, fun t j h => ⟨j, getElem?_old h, rfl, Nat.le_refl _, fun _ => rfl⟩, rfl, fun _ _ h => h⟩
  have hmax : rows.length ≤ 9223372036854775807 := (hd.flat sz hsz).2.2.1
  refine ⟨c', ⟨h.hB, h.len, fun i b hi => ?_, h.inj, by simp [c', h.toks, i], fun t j ht => ?_, fun t t' j j' g off off' ht ht' a1 a2 a3 a4 => ?_, h.inv⟩, ⟨hk, rfl, rfl, rfl, .refl _ _⟩, ?_⟩
  ·obtain ⟨a, o1, hh1, vs1, e1, e2⟩ := h.box i b hi
   exact ⟨a, o1, hh1, vs1, e1, e2.keep hk⟩
  ·rcases getElem?_snoc ht with ht | ⟨_, rfl⟩
   ·exact h.tok t j ht
   ·refine ⟨Nat.le_refl _, hmax, h0, fun e => ?_, fun hlt => absurd hlt (Nat.lt_irrefl _)⟩
    have e0 : a = none := by simpa [i] using e
    subst e0
    by_cases hr : rows = []
    ·subst hr; rfl
    ·obtain ⟨_, _, _, F, hs, _⟩ := hd.flat sz hsz
     obtain ⟨_, g, off, e, _⟩ := hs hr
     cases e
  ·rcases getElem?_snoc ht with ht | ⟨_, rfl⟩
   ·rcases getElem?_snoc ht' with ht' | ⟨_, rfl⟩
    ·exact h.disj t t' j j' g off off' ht ht' a1 a2 a3 a4
    ·exact absurd a4 (Nat.lt_irrefl _)
   ·exact absurd a3 (Nat.lt_irrefl _)
  ·have hlen : S.toks.length = c.τ.length := by rw [h.toks]; simp
   refine .own rows _ a rows.length i (hd.keep hk) (by rw [hlen]; exact List.getElem?_concat_length) hsz (Nat.le_refl _) (fun _ => ⟨rfl, ?_⟩)
   cases a with
   | none => rfl
   | some p =>
    obtain ⟨b, o, s⟩ := p
    have : s = none := (ha ⟨b, o, s⟩ rfl).1
    subst this
    rfl
theorem set_get {α : Type} {l : List α} {x y z : α} {t t' : Nat} (h : l[t]? = some z) (h' : (l.set t x)[t']? = some y) : (t' = t ∧ y = x) ∨ (t' ≠ t ∧ l[t']? = some y) := by
 by_cases e : t' = t
 ·subst e
  rw [List.getElem?_set_self (List.getElem?_eq_some_iff.1 h).1] at h'
  exact .inl ⟨rfl, (Option.some.inj h').symm⟩
 ·rw [List.getElem?_set_ne (fun h => e h.symm)] at h'
  exact .inr ⟨e, h'⟩
theorem get_set {α : Type} {l : List α} {x z : α} {t : Nat} (h : l[t]? = some z) : (l.set t x)[t]? = some x := List.getElem?_set_self (List.getElem?_eq_some_iff.1 h).1
theorem get_set_ne {α : Type} {l : List α} {x y : α} {t t' : Nat} (e : t' ≠ t) (h : l[t']? = some y) : (l.set t x)[t']? = some y := by
 rw [List.getElem?_set_ne (fun h => e h.symm)]; exact h
theorem map_set' {α β : Type} (f : α → β) (l : List α) (t : Nat) (x : α) : (l.set t x).map f = (l.map f).set t (f x) := by
 rw [List.map_set]
section
variable {P : Program}
structure SlTy (P : Program) (t e sz bytes : Nat) : Prop where
 under : P.underlying t = some (.slice e)
 info : ∃ i z, P.info? e = some i ∧ i.zero = some z ∧ i.size = sz ∧ i.bytes = bytes ∧ z.cells.size = sz
theorem run_app_zero {w : World} {t u ty e sz bytes : Nat} (T : SlTy P t e sz bytes) (hu : ∃ d, P.underlying u = some d ∧ ∀ k, d ≠ .int k) (a : Option Addr) (n cap : Nat) (hn : n ≤ cap) (x : Value)
 (hlen : ∀ W, (Builtin.lenOf x).run P W = .ok 0 W) (hfirst : ∀ W : World, W.heap = w.heap → (Builtin.firstCells sz 0 x).run P W = .ok #[] W) :
 (Builtin.append_ #[t, u] ty #[.slice a n cap, x]).run P w = .ok (.slice a n cap) w := by
 obtain ⟨i, z, hi, hz, rfl, rfl, hzs⟩ := T.info
 obtain ⟨d, hud, hdi⟩ := hu
 have hfw := hfirst w rfl
 cases a with
 | none => simp [Builtin.append_, run_underlying T.under, run_underlying hud, sizeOf, typeInfo, hi, hlen, hfw, hn]
 | some p => simp [Builtin.append_, run_underlying T.under, run_underlying hud, sizeOf, typeInfo, hi, hlen, hfw, hn, storeCells]
theorem run_app_in {w w' : World} {t u ty e sz bytes : Nat} (T : SlTy P t e sz bytes) (hu : ∃ d, P.underlying u = some d ∧ ∀ k, d ≠ .int k) (g off n cap m : Nat) (hroom : n + m ≤ cap) (x : Value) (news : List Value)
 (hlen : ∀ W, (Builtin.lenOf x).run P W = .ok m W) (hfirst : ∀ W : World, W.heap = w.heap → (Builtin.firstCells sz m x).run P W = .ok news.toArray W)
 (hst : (storeCells ⟨g, off + n * sz, none⟩ news).run P w = .ok () w') :
 (Builtin.append_ #[t, u] ty #[.slice (some ⟨g, off, none⟩) n cap, x]).run P w = .ok (.slice (some ⟨g, off, none⟩) (n + m) cap) w' := by
 obtain ⟨i, z, hi, hz, rfl, rfl, hzs⟩ := T.info
 obtain ⟨d, hud, hdi⟩ := hu
 have hfw := hfirst w rfl
 simp [Builtin.append_, run_underlying T.under, run_underlying hud, sizeOf, typeInfo, hi, hlen, hroom, hfw, Addr.add_plain, hst]
def grownWorld (w : World) (e n m cap : Nat) (xs news : List Value) (z : Value) : World :=
 w.drew.alloc (.cells (xs.toArray ++ news.toArray ++ Builtin.zeroCells z.cells (grownCap w (n + m) cap e - (n + m))) e)
theorem run_app_grow {w : World} {t u ty e sz bytes : Nat} (T : SlTy P t e sz bytes) (hu : ∃ d, P.underlying u = some d ∧ ∀ k, d ≠ .int k) (a : Option Addr) (n cap m : Nat) (hroom : ¬ n + m ≤ cap) (x : Value) (xs news : List Value)
 (hlen : ∀ W, (Builtin.lenOf x).run P W = .ok m W) (hfirst : ∀ W : World, W.heap = w.heap → (Builtin.firstCells sz m x).run P W = .ok news.toArray W)
 (hold : ∀ W : World, W.heap = w.heap → (Builtin.firstCells sz n (.slice a n cap)).run P W = .ok xs.toArray W)
 (h63 : n + m ≤ 9223372036854775807) (hbytes : (n + m) * bytes ≤ 140737488355328) :
 ∃ (i : TypeInfo) (z : Value), P.info? e = some i ∧ i.zero = some z ∧ z.cells.size = sz ∧ (Builtin.append_ #[t, u] ty #[.slice a n cap, x]).run P w = .ok (.slice (some ⟨w.heap.size, 0, none⟩) (n + m) (grownCap w (n + m) cap e)) (grownWorld w e n m cap xs news z) := by
 obtain ⟨i, z, hi, hz, rfl, rfl, hzs⟩ := T.info
 obtain ⟨d, hud, hdi⟩ := hu
 refine ⟨i, z, hi, hz, hzs, ?_⟩
 have hfd := hfirst w.drew rfl
 have hfo := hold w.drew rfl
 have h48 := growslice_fits (need := n + m) (old := cap) (bytes := i.bytes) (by omega) hbytes
 have h63' : ¬ (9223372036854775807 < ((n : Int) + (m : Int))) := by omega
 have h48' : ¬ (281474976710656 < Builtin.nextslicecap (n + m) cap * i.bytes) := by omega
 simp [Builtin.append_, run_underlying T.under, run_underlying hud, sizeOf, typeInfo, zeroValue, hi, hz, hlen, hroom, h63', h48', Question.forced, hfo, hfd, newRow, grownCap, grownWorld]
 congr 2
 apply Array.ext'
 simp [List.append_assoc]
end
theorem DR.append {M : Nat → Nat → Prop} {w : World} (rows nrows : List (List D)) (sz : Nat) (h0 : 0 < sz) (h1 : ∀ r ∈ rows, r.length = sz) (h2 : ∀ r ∈ nrows, r.length = sz) (g off cap : Nat) (hc : rows.length + nrows.length ≤ cap) (hm : cap ≤ 9223372036854775807) (F G : Nat → Value)
 (hs : ∀ k, k < rows.length * sz → ¬ M g (off + k) ∧ w.cell? ⟨g, off + k, none⟩ = some (F k))
 (hn : ∀ k, k < nrows.length * sz → ¬ M g (off + rows.length * sz + k) ∧ w.cell? ⟨g, off + rows.length * sz + k, none⟩ = some (G k))
 (hd : ∀ j (h : j < rows.length) q (hq : q < (rows[j]).length), DR M w (rows[j])[q] (F (j * sz + q)))
 (he : ∀ j (h : j < nrows.length) q (hq : q < (nrows[j]).length), DR M w (nrows[j])[q] (G (j * sz + q))) : DR M w (.sl (rows ++ nrows)) (.slice (some ⟨g, off, none⟩) (rows.length + nrows.length) cap) := by
 rw [← List.length_append]
 refine DR.of_flat (rows ++ nrows) sz h0 (fun r hr => ?_) _ cap (by simpa using hc) hm (fun k => if k < rows.length * sz then F k else G (k - rows.length * sz)) (fun _ => ⟨g, off, rfl, fun k hk => ?_⟩) (fun j hj q hq => ?_)
 ·rcases List.mem_append.1 hr with h | h
  ·exact h1 r h
  ·exact h2 r h
 ·by_cases hlt : k < rows.length * sz
  ·simp only [if_pos hlt]; exact hs k hlt
  ·simp only [if_neg hlt]
   have := hn (k - rows.length * sz) (by rw [List.length_append, Nat.add_mul] at hk; omega)
   rw [show off + rows.length * sz + (k - rows.length * sz) = off + k by omega] at this
   exact this
 ·by_cases hlt : j < rows.length
  ·have hg : (rows ++ nrows)[j] = rows[j] := List.getElem_append_left hlt
   have hq' : q < sz := by rw [hg, h1 _ (List.getElem_mem hlt)] at hq; exact hq
   simp only [if_pos (row_lt hlt hq')]
   have := hd j hlt q (by rw [hg] at hq; exact hq)
   simp only [hg]
   exact this
  ·have hlt' : j - rows.length < nrows.length := by rw [List.length_append] at hj; omega
   have hg : (rows ++ nrows)[j] = nrows[j - rows.length] := List.getElem_append_right (by omega)
   have hq' : q < sz := by rw [hg, h2 _ (List.getElem_mem hlt')] at hq; exact hq
   have hge : rows.length * sz ≤ j * sz := Nat.mul_le_mul_right sz (by omega)
   simp only [if_neg (show ¬ j * sz + q < rows.length * sz by omega)]
   have := he (j - rows.length) hlt' q (by rw [hg] at hq; exact hq)
   rw [show (j - rows.length) * sz + q = j * sz + q - rows.length * sz by rw [Nat.sub_mul]; omega] at this
   simp only [hg]
   exact this
def AppT (B : Nat) (w' : World) (e m : Nat) (v v' : Value) : Prop := ∀ a n cap, v = .slice a n cap → ∃ a' cap', v' = .slice a' (n + m) cap' ∧ ((a' = a ∧ cap' = cap) ∨ ∃ g, a' = some ⟨g, 0, none⟩ ∧ B ≤ g ∧ OfTy w' g e)
theorem Rep.appX {P : Program} {c : Cx} {w : World} {S : Mem} (h : Rep c w S) {rows nrows : List (List D)} {t sz bytes ts us ty e : Nat} {v x : Value} (hv : VR c w (.sl rows (.own t)) v) (ht : S.toks[t]? = some (rows.length, sz)) (T : SlTy P ts e sz bytes) (hu : ∃ d, P.underlying us = some d ∧ ∀ k, d ≠ .int k)
 (hnr : ∀ r ∈ nrows, r.length = sz) (F : Nat → Value) (hlen : ∀ W, (Builtin.lenOf x).run P W = .ok nrows.length W)
 (hfirst : ∀ W : World, W.heap = w.heap → (Builtin.firstCells sz nrows.length x).run P W = .ok ((List.range (nrows.length * sz)).map F).toArray W)
 (hd : ∀ j (h : j < nrows.length) q (hq : q < (nrows[j]).length), DR c.M w (nrows[j])[q] (F (j * sz + q)))
 (hbytes : (rows.length + nrows.length) * bytes ≤ 140737488355328) (hb1 : 1 ≤ bytes) :
 ∃ v' w' c', (Builtin.append_ #[ts, us] ty #[v, x]).run P w = .ok v' w' ∧ Rep c' w' { S with toks := S.toks.set t (rows.length + nrows.length, sz) } ∧ Ext c w c' w' ∧ VR c' w' (.sl (rows ++ nrows) (.own t)) v' ∧ AppT c.B w' e nrows.length v v' := by
 cases hv with
 | own _ _ a cap i hdr hti hr hn hl =>
  have hti' : S.toks[t]? = some (i.n, i.sz) := by rw [h.toks, List.getElem?_map, hti]; rfl
  rw [ht] at hti'
  obtain ⟨e1, e2⟩ := Prod.mk.inj (Option.some.inj hti')
  obtain ⟨hcap, ha⟩ := hl e1
  obtain ⟨t1, t2, t3, t4, t5⟩ := h.tok t i hti
  subst hcap
  have hsz0 : 0 < sz := by omega
  rw [← e2] at hr
  obtain ⟨_, _, hcapm, F0, hs0, hd0⟩ := hdr.flat sz hr
  have hmul : rows.length + nrows.length ≤ (rows.length + nrows.length) * bytes := Nat.le_mul_of_pos_right _ (by omega)
  by_cases hz : nrows = []
  ·subst hz
   refine ⟨_, w, c, run_app_zero T hu a rows.length i.cap (by omega) x hlen (by simpa using hfirst), ?_, .refl _ _, ?_, fun a0 n0 c0 h0 => by
    obtain ⟨rfl, rfl, rfl⟩ := Value.slice.inj h0
    exact ⟨_, _, rfl, .inl ⟨rfl, rfl⟩⟩⟩
   ·have : S.toks.set t (rows.length + ([] : List (List D)).length, sz) = S.toks := by
     apply List.ext_getElem?
     intro k
     by_cases hk : k = t
     ·subst hk; rw [get_set ht, ht]; rfl
     ·rw [List.getElem?_set_ne (fun e => hk e.symm)]
    rw [this]; exact h
   ·rw [List.append_nil]
    exact .own rows t a i.cap i hdr hti (by rw [← e2]; exact hr) hn hl
  ·have hm0 : 0 < nrows.length := List.length_pos_iff.2 hz
   have hnsz : 0 < nrows.length * sz := Nat.mul_pos hm0 hsz0
   by_cases hroom : rows.length + nrows.length ≤ i.cap
   ·have hlt : i.n < i.cap := by omega
    cases haddr : i.addr with
    | none => have := t4 haddr; omega
    | some p =>
     obtain ⟨g, off⟩ := p
     rw [haddr] at ha
     simp only [Option.map_some] at ha
     subst ha
     obtain ⟨hBg, hgρ, cur, T0, fz, hh, hfit, hfz⟩ := t5 hlt g off haddr
     have hroom2 : (rows.length + nrows.length) * sz ≤ i.cap * sz := Nat.mul_le_mul_right sz hroom
     rw [Nat.add_mul] at hroom2
     rw [← e2] at hfit hfz
     have hst := storeCells_at (P := P) g (off + rows.length * sz) T0 fz ((List.range (nrows.length * sz)).map F) 0 cur w hh (by simp; omega) (by simp; omega) (by
      intro u hu
      obtain ⟨k, hk, rfl⟩ := List.mem_map.1 hu
      have hk' : k < nrows.length * sz := by simpa using hk
      have hj : k / sz < nrows.length := Nat.div_lt_of_lt_mul (by rw [Nat.mul_comm]; exact hk')
      have hq : k % sz < (nrows[k / sz]).length := by rw [hnr _ (List.getElem_mem hj)]; exact Nat.mod_lt _ hsz0
      have := (hd _ hj _ hq).one
      rw [show k / sz * sz + k % sz = k by rw [Nat.mul_comm]; exact Nat.div_add_mod k sz] at this
      exact this)
     have hrun := run_app_in (ty := ty) T hu g off rows.length i.cap nrows.length hroom x _ hlen hfirst hst
     generalize hnew : (cur.toList.take (off + rows.length * sz + 0) ++ (List.range (nrows.length * sz)).map F ++ cur.toList.drop (off + rows.length * sz + 0 + ((List.range (nrows.length * sz)).map F).length)).toArray = cur' at hst hrun
     let i' : TI := { i with n := rows.length + nrows.length }
     let c' : Cx := { c with τ := c.τ.set t i' }
     have hcs : cur'.size = cur.size := by rw [← hnew]; simp; omega
     have hcell : ∀ k, k < off + rows.length * sz ∨ off + (rows.length + nrows.length) * sz ≤ k → cur'[k]? = cur[k]? := by
      intro k hk
      rw [← hnew]
      rw [Nat.add_mul] at hk
      simp only [List.getElem?_toArray, List.append_assoc, Nat.add_zero, List.length_map, List.length_range]
      rcases hk with hk | hk
      ·rw [List.getElem?_append_left (by simp; omega), List.getElem?_take, if_pos hk, Array.getElem?_toList]
      ·rw [List.getElem?_append_right (by simp; omega), List.getElem?_append_right (by simp; omega), List.getElem?_drop, Array.getElem?_toList]
       congr 1
       simp; omega
     have hcelln : ∀ k, k < nrows.length * sz → cur'[off + rows.length * sz + k]? = some (F k) := by
      intro k hk
      rw [← hnew]
      simp only [List.getElem?_toArray, List.append_assoc, Nat.add_zero]
      rw [List.getElem?_append_right (by simp; omega), List.getElem?_append_left (by simp; omega), List.getElem?_map, List.getElem?_range (by simp; omega)]
      simp; congr 1; omega
     have hnewcell : ∀ q, (w.setRow g cur').cell? ⟨g, q, none⟩ = cur'[q]? := by
      intro q
      simp [World.cell?, setRow_heap w g cur cur' T0 fz hh]
     have holdcell : ∀ q, w.cell? ⟨g, q, none⟩ = cur[q]? := by
      intro q
      simp [World.cell?, hh]
     have hMM : ∀ b k, c'.M b k → c.M b k := by
      rintro b k (h' | ⟨t', j, o, ht', a1, a2, a3⟩)
      ·exact .inl h'
      ·rcases set_get hti ht' with ⟨rfl, rfl⟩ | ⟨_, ht'⟩
       ·refine .inr ⟨t', i, o, hti, a1, ?_, a3⟩
        have : i.n * i.sz ≤ i'.n * i.sz := Nat.mul_le_mul_right _ (by show i.n ≤ rows.length + nrows.length; omega)
        have a2' : o + i'.n * i.sz ≤ k := a2
        omega
       ·exact .inr ⟨t', j, o, ht', a1, a2, a3⟩
     have hk : Keeps c w c' (w.setRow g cur') := by
      refine ⟨fun b k u hm hu => ⟨fun h' => hm (hMM b k h'), ?_⟩, fun _ _ h => h, fun t' j hj => ?_, rfl, fun _ _ h => h.setRow g cur'⟩
      ·by_cases hb : b = g
       ·subst hb
        rw [hnewcell, hcell k ?_, ← holdcell]
        ·exact hu
        ·rcases Nat.lt_or_ge k (off + rows.length * sz) with h1 | h1
         ·exact .inl h1
         ·rcases Nat.lt_or_ge k (off + (rows.length + nrows.length) * sz) with h2 | h2
          ·refine absurd (Or.inr ⟨t, i, off, hti, haddr, ?_, ?_⟩) hm
           ·rw [← e1, ← e2]; exact h1
           ·rw [← e2]; rw [Nat.add_mul] at h2; omega
          ·exact .inr h2
       ·rw [setRow_cell _ _ _ hb]; exact hu
      ·by_cases hne : t' = t
       ·subst hne
        rw [hti] at hj
        obtain rfl := Option.some.inj hj
        exact ⟨i', get_set hti, rfl, by show i.n ≤ rows.length + nrows.length; omega, fun e => absurd e (by show rows.length + nrows.length ≠ i.n; omega)⟩
       ·exact ⟨j, get_set_ne hne hj, rfl, Nat.le_refl _, fun _ => rfl⟩
     have hbel : Below c.B w (w.setRow g cur') := below_setRow _ _ _ _ hBg
     refine ⟨_, _, c', hrun, ⟨⟨h.hB.1, by rw [setRow_size]; exact h.hB.2⟩, h.len, fun i2 b hi => ?_, h.inj, ?_, fun t' j hj => ?_, fun t' t'' j j' b o o' hj hj' a1 a2 a3 a4 => ?_, fun w' hw' => h.inv w' (hbel.trans hw')⟩, ⟨hk, rfl, rfl, rfl, hbel⟩,?_, fun a0 n0 c0 h0 => by
      obtain ⟨rfl, rfl, rfl⟩ := Value.slice.inj h0
      exact ⟨_, _, rfl, .inl ⟨rfl, rfl⟩⟩⟩
     ·obtain ⟨a, o1, hh1, vs1, f1, f2⟩ := h.box i2 b hi
      refine ⟨a, o1, ?_, vs1, f1, f2.keep hk⟩
      rw [setRow_other _ _ _ _ (fun (e : b = g) => hgρ (mem_ρ.2 ⟨_, by rw [← e]; exact hi⟩))]; exact hh1
     ·show S.toks.set t _ = (c.τ.set t i').map _
      rw [map_set', h.toks]
      show _ = List.set _ t (rows.length + nrows.length, i.sz)
      rw [e2]
     ·rcases set_get hti hj with ⟨rfl, rfl⟩ | ⟨hne, hj⟩
      ·refine ⟨hroom, t2, t3, t4, fun hlt2 g2 o2 ha2 => ?_⟩
       have : some (g2, o2) = some (g, off) := by rw [← haddr]; exact ha2.symm
       obtain ⟨rfl, rfl⟩ := Prod.mk.inj (Option.some.inj this)
       exact ⟨hBg, hgρ, cur', T0, fz, setRow_heap w g2 cur cur' T0 fz hh, by rw [hcs, ← e2]; exact hfit, by rw [← e2]; exact hfz⟩
      ·obtain ⟨u1, u2, u3, u4, u5⟩ := h.tok t' j hj
       refine ⟨u1, u2, u3, u4, fun hlt2 g2 o2 ha2 => ?_⟩
       obtain ⟨x1, x2, cur2, T2, fz2, hh2, x3⟩ := u5 hlt2 g2 o2 ha2
       refine ⟨x1, x2, cur2, T2, fz2, ?_, x3⟩
       rw [setRow_other _ _ _ _ (fun (e : g2 = g) => hne (h.disj t' t j i g o2 off hj hti (by rw [← e]; exact ha2) haddr hlt2 hlt))]; exact hh2
     ·have q1 : ∀ {t' : Nat} {j : TI}, (c.τ.set t i')[t']? = some j → j.n < j.cap → ∃ j0, c.τ[t']? = some j0 ∧ j0.addr = j.addr ∧ j0.n < j0.cap := by
       intro t' j hj hlt2
       rcases set_get hti hj with ⟨rfl, rfl⟩ | ⟨_, hj⟩
       ·exact ⟨i, hti, rfl, hlt⟩
       ·exact ⟨j, hj, rfl, hlt2⟩
      obtain ⟨j0, r1, r2, r3⟩ := q1 hj a3
      obtain ⟨j1, s1, s2, s3⟩ := q1 hj' a4
      exact h.disj t' t'' j0 j1 b o o' r1 s1 (r2.trans a1) (s2.trans a2) r3 s3
     ·have hold : rows ≠ [] → ∀ k, k < rows.length * sz → ¬ c.M g (off + k) ∧ w.cell? ⟨g, off + k, none⟩ = some (F0 k) := by
       intro hne k hk
       obtain ⟨_, g', off', e, hcl⟩ := hs0 hne
       obtain ⟨rfl, rfl, _⟩ := Addr.mk.inj (Option.some.inj e)
       exact hcl k hk
      have hDR : DR c'.M (w.setRow g cur') (.sl (rows ++ nrows)) (.slice (some ⟨g, off, none⟩) (rows.length + nrows.length) i.cap) := by
       refine DR.append rows nrows sz hsz0 hr hnr g off i.cap hroom t2 F0 F (fun k hkk => ?_) (fun k hkk => ⟨?_, ?_⟩) (fun j hj q hq => (hd0 j hj q hq).keep hk) (fun j hj q hq => (hd j hj q hq).keep hk)
       ·have hne : rows ≠ [] := by rintro rfl; simp at hkk
        obtain ⟨x1, x2⟩ := hold hne k hkk
        exact hk.cell _ _ _ x1 x2
       ·rintro ((h' | h') | ⟨t', j, o, ht', a1, a2, a3⟩)
        ·have := (c.hX _ _ h').2
         omega
        ·exact hgρ h'
        ·rcases set_get hti ht' with ⟨rfl, rfl⟩ | ⟨hne, ht'⟩
         ·have : some (g, o) = some (g, off) := by rw [← haddr]; exact a1.symm
          obtain ⟨_, rfl⟩ := Prod.mk.inj (Option.some.inj this)
          have a2' : o + (rows.length + nrows.length) * i.sz ≤ o + rows.length * sz + k := a2
          rw [← e2, Nat.add_mul] at a2'
          omega
         ·have : j.n < j.cap := by
           rcases Nat.lt_or_ge j.n j.cap with h' | h'
           ·exact h'
           ·have := Nat.mul_le_mul_right j.sz h'
            omega
          exact hne (h.disj t' t j i g o off ht' hti a1 haddr this hlt)
       ·rw [hnewcell, hcelln k hkk]
      have := VR.own (c := c') (w := w.setRow g cur') (rows ++ nrows) t (some ⟨g, off, none⟩) i.cap i' (by rw [List.length_append]; exact hDR) (get_set hti) (fun r hr' => by
       show r.length = i.sz
       rw [← e2]
       rcases List.mem_append.1 hr' with h | h
       ·exact hr r h
       ·exact hnr r h) (by rw [List.length_append]; exact Nat.le_refl _) (fun _ => ⟨rfl, by show _ = i.addr.map _; rw [haddr]; rfl⟩)
      rw [List.length_append] at this
      exact this
   ·obtain ⟨_, z, _, _, hzs, hrun⟩ := run_app_grow (P := P) (w := w) (ty := ty) T hu a rows.length i.cap nrows.length hroom x ((List.range (rows.length * sz)).map F0) ((List.range (nrows.length * sz)).map F) hlen hfirst
     (fun W hW => run_first rfl hs0 W hW) (by omega) hbytes
    have hge := grownCap_ge w (rows.length + nrows.length) i.cap e
    have hcm : grownCap w (rows.length + nrows.length) i.cap e ≤ 9223372036854775807 := grownCap_le_maxLen w (rows.length + nrows.length) i.cap e (by unfold maxLen; omega)
    unfold grownWorld at hrun
    generalize grownCap w (rows.length + nrows.length) i.cap e = cap' at hrun hge hcm
    generalize harr : ((List.range (rows.length * sz)).map F0).toArray ++ ((List.range (nrows.length * sz)).map F).toArray ++ Builtin.zeroCells z.cells (cap' - (rows.length + nrows.length)) = arr at hrun
    have hsize : arr.size = cap' * sz := by
     rw [← harr]
     simp only [Array.size_append, List.size_toArray, List.length_map, List.length_range, size_zeroCells, hzs, ← Nat.add_mul]
     congr 1; omega
    have hmulle : (rows.length + nrows.length) * sz ≤ cap' * sz := Nat.mul_le_mul_right sz hge
    have hc1 : ∀ k, k < rows.length * sz → arr[k]? = some (F0 k) := by
     intro k hk
     rw [← harr, Array.getElem?_append_left (by simp; omega), Array.getElem?_append_left (by simpa using hk)]
     simp only [List.getElem?_toArray, List.getElem?_map, List.getElem?_range hk, Option.map_some]
    have hc2 : ∀ k, k < nrows.length * sz → arr[rows.length * sz + k]? = some (F k) := by
     intro k hk
     rw [← harr, Array.getElem?_append_left (by simp; omega), Array.getElem?_append_right (by simp)]
     simp only [List.size_toArray, List.length_map, List.length_range, Nat.add_sub_cancel_left, List.getElem?_toArray, List.getElem?_map, List.getElem?_range hk, Option.map_some]
    let i' : TI := ⟨some (w.heap.size, 0), cap', rows.length + nrows.length, i.sz⟩
    let c' : Cx := { c with τ := c.τ.set t i' }
    let w' : World := w.drew.alloc (.cells arr e)
    have hnewb : w'.heap[w.heap.size]? = some (.cells arr e (0, 0)) := heap_alloc_new w.drew _
    have holdb : ∀ b, b < w.heap.size → w'.heap[b]? = w.heap[b]? := fun b hb => Below.heap_alloc w.drew _ b hb
    have hbel : Below c.B w w' := ((Below.refl _ _).drew).alloc h.hB.2 _
    have hMM : ∀ b k, b < w.heap.size → c'.M b k → c.M b k := by
     rintro b k hb (h' | ⟨t', j, o, ht', a1, a2, a3⟩)
     ·exact .inl h'
     ·rcases set_get hti ht' with ⟨rfl, rfl⟩ | ⟨_, ht'⟩
      ·have : some (w.heap.size, 0) = some (b, o) := a1
       obtain ⟨rfl, _⟩ := Prod.mk.inj (Option.some.inj this)
       omega
      ·exact .inr ⟨t', j, o, ht', a1, a2, a3⟩
    have hk : Keeps c w c' w' := by
     refine ⟨fun b k u hm hu => ⟨fun h' => hm (hMM b k (cell_lt hu) h'), ?_⟩, fun _ _ h => h, fun t' j hj => ?_, rfl, fun b _ h => h.of_block (holdb b h.lt)⟩
     ·have := World.cell?_of_block (w := w) (w' := w') (a := ⟨b, k, none⟩) (holdb b (cell_lt hu))
      rw [this]; exact hu
     ·by_cases hne : t' = t
      ·subst hne
       rw [hti] at hj
       obtain rfl := Option.some.inj hj
       exact ⟨i', get_set hti, rfl, by show i.n ≤ rows.length + nrows.length; omega, fun e => absurd e (by show rows.length + nrows.length ≠ i.n; omega)⟩
      ·exact ⟨j, get_set_ne hne hj, rfl, Nat.le_refl _, fun _ => rfl⟩
    have hsp : ∀ (t' : Nat) (j : TI) (g o : Nat), c.τ[t']? = some j → j.addr = some (g, o) → j.n < j.cap → g < w.heap.size := by
     intro t' j g o hj ha hlt
     obtain ⟨_, _, cur, T0, fz, hh, _⟩ := (h.tok t' j hj).2.2.2.2 hlt g o ha
     exact (Array.getElem?_eq_some_iff.1 hh).1
    refine ⟨_, w', c', hrun, ⟨⟨h.hB.1, Nat.le_trans h.hB.2 hbel.size⟩, h.len, fun i2 b hi => ?_, h.inj, ?_, fun t' j hj => ?_, fun t' t'' j j' b o o' hj hj' a1 a2 a3 a4 => ?_, fun w2 hw' => h.inv w2 (hbel.trans hw')⟩, ⟨hk, rfl, rfl, rfl, hbel⟩,?_, fun a0 n0 c0 h0 => by
     obtain ⟨rfl, rfl, rfl⟩ := Value.slice.inj h0
     exact ⟨_, _, rfl, .inr ⟨_, rfl, h.hB.2, _, _, hnewb⟩⟩⟩
    ·obtain ⟨a, o1, hh1, vs1, f1, f2⟩ := h.box i2 b hi
     exact ⟨a, o1, by rw [holdb b (h.lt hi)]; exact hh1, vs1, f1, f2.keep hk⟩
    ·show S.toks.set t _ = (c.τ.set t i').map _
     rw [map_set', h.toks]
     show _ = List.set _ t (rows.length + nrows.length, i.sz)
     rw [e2]
    ·rcases set_get hti hj with ⟨rfl, rfl⟩ | ⟨hne, hj⟩
     ·refine ⟨hge, hcm, t3, (fun e => by cases e), fun hlt2 g2 o2 ha2 => ?_⟩
      have : some (w.heap.size, 0) = some (g2, o2) := ha2
      obtain ⟨rfl, rfl⟩ := Prod.mk.inj (Option.some.inj this)
      refine ⟨h.hB.2, fun hm => ?_, arr, e, (0, 0), hnewb, ?_, .inr rfl⟩
      ·obtain ⟨q, hq⟩ := mem_ρ.1 hm
       have := h.lt hq; omega
      ·show 0 + cap' * i.sz ≤ arr.size
       rw [hsize, ← e2]; omega
     ·obtain ⟨u1, u2, u3, u4, u5⟩ := h.tok t' j hj
      refine ⟨u1, u2, u3, u4, fun hlt2 g2 o2 ha2 => ?_⟩
      obtain ⟨x1, x2, cur2, T2, fz2, hh2, x3⟩ := u5 hlt2 g2 o2 ha2
      exact ⟨x1, x2, cur2, T2, fz2, by rw [holdb g2 (hsp t' j g2 o2 hj ha2 hlt2)]; exact hh2, x3⟩
    ·rcases set_get hti hj with ⟨rfl, rfl⟩ | ⟨hne, hj0⟩ <;> rcases set_get hti hj' with ⟨rfl, rfl⟩ | ⟨hne', hj1⟩
     ·rfl
     ·have : some (w.heap.size, 0) = some (b, o) := a1
      obtain ⟨rfl, _⟩ := Prod.mk.inj (Option.some.inj this)
      have := hsp _ _ _ _ hj1 a2 a4; omega
     ·have : some (w.heap.size, 0) = some (b, o') := a2
      obtain ⟨rfl, _⟩ := Prod.mk.inj (Option.some.inj this)
      have := hsp _ _ _ _ hj0 a1 a3; omega
     ·exact h.disj t' t'' j j' b o o' hj0 hj1 a1 a2 a3 a4
    ·have hnc : ∀ q, w'.cell? ⟨w.heap.size, q, none⟩ = arr[q]? := by
      intro q
      simp [World.cell?, hnewb]
     have hnM : ∀ q, q < (rows.length + nrows.length) * sz → ¬ c'.M w.heap.size q := by
      rintro q hq ((h' | h') | ⟨t', j, o, ht', a1, a2, a3⟩)
      ·have := (c.hX _ _ h').2
       have := h.hB.2
       omega
      ·obtain ⟨p, hp⟩ := mem_ρ.1 h'
       have := h.lt hp; omega
      ·rcases set_get hti ht' with ⟨rfl, rfl⟩ | ⟨hne, ht'⟩
       ·have : some (w.heap.size, 0) = some (w.heap.size, o) := a1
        obtain ⟨_, rfl⟩ := Prod.mk.inj (Option.some.inj this)
        have a2' : 0 + (rows.length + nrows.length) * i.sz ≤ q := a2
        rw [← e2] at a2'
        omega
       ·have : j.n < j.cap := by
         rcases Nat.lt_or_ge j.n j.cap with h' | h'
         ·exact h'
         ·have := Nat.mul_le_mul_right j.sz h'
          omega
        have := hsp _ _ _ _ ht' a1 this; omega
     have hDR : DR c'.M w' (.sl (rows ++ nrows)) (.slice (some ⟨w.heap.size, 0, none⟩) (rows.length + nrows.length) cap') := by
      refine DR.append rows nrows sz hsz0 hr hnr w.heap.size 0 cap' hge hcm F0 F (fun k hkk => ?_) (fun k hkk => ?_) (fun j hj q hq => (hd0 j hj q hq).keep hk) (fun j hj q hq => (hd j hj q hq).keep hk)
      ·rw [Nat.zero_add]
       exact ⟨hnM k (by rw [Nat.add_mul]; omega), by rw [hnc, hc1 k hkk]⟩
      ·rw [Nat.zero_add]
       exact ⟨hnM _ (by rw [Nat.add_mul]; omega), by rw [hnc, hc2 k hkk]⟩
     have := VR.own (c := c') (w := w') (rows ++ nrows) t (some ⟨w.heap.size, 0, none⟩) cap' i' (by rw [List.length_append]; exact hDR) (get_set hti) (fun r hr' => by
      show r.length = i.sz
      rw [← e2]
      rcases List.mem_append.1 hr' with h | h
      ·exact hr r h
      ·exact hnr r h) (by rw [List.length_append]; exact Nat.le_refl _) (fun _ => ⟨rfl, rfl⟩)
     rw [List.length_append] at this
     exact this
theorem Rep.app {P : Program} {c : Cx} {w : World} {S : Mem} (h : Rep c w S) {rows nrows : List (List D)} {t sz bytes ts us ty e : Nat} {v x : Value} (hv : VR c w (.sl rows (.own t)) v) (ht : S.toks[t]? = some (rows.length, sz)) (T : SlTy P ts e sz bytes) (hu : ∃ d, P.underlying us = some d ∧ ∀ k, d ≠ .int k)
 (hnr : ∀ r ∈ nrows, r.length = sz) (F : Nat → Value) (hlen : ∀ W, (Builtin.lenOf x).run P W = .ok nrows.length W)
 (hfirst : ∀ W : World, W.heap = w.heap → (Builtin.firstCells sz nrows.length x).run P W = .ok ((List.range (nrows.length * sz)).map F).toArray W)
 (hd : ∀ j (h : j < nrows.length) q (hq : q < (nrows[j]).length), DR c.M w (nrows[j])[q] (F (j * sz + q)))
 (hbytes : (rows.length + nrows.length) * bytes ≤ 140737488355328) (hb1 : 1 ≤ bytes) :
 ∃ v' w' c', (Builtin.append_ #[ts, us] ty #[v, x]).run P w = .ok v' w' ∧ Rep c' w' { S with toks := S.toks.set t (rows.length + nrows.length, sz) } ∧ Ext c w c' w' ∧ VR c' w' (.sl (rows ++ nrows) (.own t)) v' := by
 obtain ⟨v', w', c', h1, h2, h3, h4, _⟩ := h.appX hv ht T hu hnr F hlen hfirst hd hbytes hb1
 exact ⟨v', w', c', h1, h2, h3, h4⟩
inductive TD where
 | int (k : IntKind)
 | bool
 | string
 | slice (e : Nat)
 | struct (fs : List (Nat × Nat))
 | array (n e : Nat)
 | pointer
 | map (k e : Nat)
 | other
structure TyI where
 d : TD
 size : Nat
 bytes : Nat
 agg : Bool
 zero : List V
def ofVal1 : Value → V
 | .int k n => .d (.int k n)
 | .bool b => .d (.bool b)
 | .string s => if s.data.toList.length ≤ 9223372036854775807 then .d (.str s.data.toList) else .undef
 | .slice none 0 0 => .sl [] .full
 | .pointer none => .nilp
 | .nilFunc => .nilf
 | _ => .undef
def ofVal : Value → V
 | .agg cs => if cs.toList.all Value.oneCell' then .agg (cs.toList.map ofVal1) else .undef
 | v => ofVal1 v
def sizeAt (P : Program) (t : TypeId) : Nat := match P.info? t with | some i => i.size | none => 0
def tdOf (P : Program) : TypeDesc → TD
 | .int k => .int k
 | .bool => .bool
 | .string => .string
 | .slice e => .slice e
 | .struct fs => if fs.toList.all (fun f => (P.info? f.type).isSome) then .struct (fs.toList.map fun f => (f.offset, sizeAt P f.type)) else .other
 | .array n e => .array n e
 | .pointer _ => .pointer
 | .map k e => .map k e
 | _ => .other
def isAggD : TypeDesc → Bool
 | .struct _ | .array _ _ => true
 | _ => false
def tyOf (P : Program) (t : TypeId) : Option TyI :=
 match P.info? t, P.underlying t with
 | some i, some d => match i.zero with
  | some z => if z.cells.size = i.size ∧ z.cells.toList.all Value.oneCell' = true then some ⟨tdOf P d, i.size, i.bytes, isAggD d, z.cells.toList.map ofVal1⟩ else none
  | none => none
 | _, _ => none
theorem VR_nilslice (c : Cx) (w : World) : VR c w (.sl [] .full) (.slice none 0 0) :=
 .full [] none (.sl [] 1 none 0 (fun _ _ => undef) (by omega) (by simp) (by simp) (by omega) (fun h => absurd rfl h) (fun j h => by simp at h)) (fun p h => by cases h)
theorem VR_ofVal1 (c : Cx) (w : World) (v : Value) : VR c w (ofVal1 v) v := by
 unfold ofVal1
 split
 ·exact .d _ _ (.int _ _)
 ·exact .d _ _ (.bool _)
 ·rename_i s
  split
  ·rename_i h
   have := DR.str (M := c.M) (w := w) s.data.toList h
   exact .d _ _ this
  ·exact .undef _
 ·exact VR_nilslice c w
 ·exact .nilp
 ·exact .nilf
 ·exact .undef _
theorem VR_ofVal (c : Cx) (w : World) (v : Value) : VR c w (ofVal v) v := by
 unfold ofVal
 split
 ·rename_i cs
  split
  ·rename_i h
   refine .agg _ _ (by simp) (fun j hj => ?_) (fun j hj => ?_)
   ·have hj' : j < cs.size := by simpa using hj
    simp only [List.getElem_map, Array.getElem_toList]
    have : cs.getD j undef = cs[j] := by simp [Array.getD, hj']
    rw [this]
    exact VR_ofVal1 c w _
   ·have hj' : j < cs.size := by simpa using hj
    have : cs.getD j undef = cs[j] := by simp [Array.getD, hj']
    rw [this]
    rw [List.all_eq_true] at h
    exact h _ (by simp)
  ·exact .undef _
 ·exact VR_ofVal1 c w v
def EnvR (c : Cx) (w : World) (env : List V) (tmps : Array Value) : Prop := tmps.size = env.length ∧ ∀ t (h : t < env.length), VR c w env[t] (tmps.getD t undef)
theorem EnvR.ext {c c' : Cx} {w w' : World} (hk : Ext c w c' w') {env : List V} {tmps : Array Value} (h : EnvR c w env tmps) : EnvR c' w' env tmps := ⟨h.1, fun t ht => (h.2 t ht).ext hk⟩
theorem EnvR.get {c : Cx} {w : World} {env : List V} {tmps : Array Value} (h : EnvR c w env tmps) (t : Nat) : VR c w (env.getD t .undef) (tmps.getD t undef) := by
 by_cases ht : t < env.length
 ·have : env.getD t .undef = env[t] := by simp [List.getD, ht]
  rw [this]; exact h.2 t ht
 ·have : env.getD t .undef = .undef := by simp [List.getD, ht]
  rw [this]; exact .undef _
def globV : Option (List D) → V
 | some row => .eptr row 0
 | none => .undef
def evalV (I : Inv) (env : List V) : Operand → V
 | .tmp t => env.getD t .undef
 | .const v => ofVal v
 | .global g => globV (I.glob g)
 | .func f => .func f [] []
theorem EnvR.eval {c : Cx} {w : World} {S : Mem} {env : List V} {a : Act} (hr : Rep c w S) (h : EnvR c w env a.tmps) (x : Operand) : VR c w (evalV c.I env x) (a.eval x) := by
 cases x with
 | tmp t => exact h.get t
 | const v => exact VR_ofVal c w v
 | global g =>
  show VR c w (globV (c.I.glob g)) (.pointer (some ⟨g, 0, none⟩))
  cases hg : c.I.glob g with
  | none => exact .undef _
  | some row => exact hr.glob hg
 | func f => exact .func f [] [] #[] #[] rfl rfl (fun j h => by simp at h) (fun j h => by simp at h)
theorem EnvR.put {c : Cx} {w : World} {env : List V} {a : Act} (h : EnvR c w env a.tmps) (d : Option Tmp) {v : V} {x : Value} (hv : VR c w v x) : EnvR c w (match d with | some t => env.set t v | none => env) (a.put d x).tmps := by
 cases d with
 | none => exact h
 | some t =>
  refine ⟨by simp [Act.put, h.1], fun q hq => ?_⟩
  have hq' : q < env.length := by simpa using hq
  have hs : q < a.tmps.size := by rw [h.1]; exact hq'
  have := h.2 q hq'
  by_cases e : t = q
  ·subst e
   have e2 : ((a.put (some t) x).tmps.getD t undef) = x := by simp [Act.put, Array.getD, hs]
   rw [e2]
   simpa using hv
  ·have e2 : ((a.put (some t) x).tmps.getD q undef) = a.tmps.getD q undef := by simp [Act.put, Array.getD, hs, e]
   rw [e2]
   simpa [e] using this
def cellsV : V → Option (List V)
 | .agg vs => some vs
 | .tup _ => none
 | .undef => none
 | v => some [v]
theorem VR_cells {c : Cx} {w : World} {v : V} {x : Value} (h : VR c w v x) {vs : List V} (hv : cellsV v = some vs) : x.cells.size = vs.length ∧ ∀ j (h : j < vs.length), VR c w vs[j] (x.cells.getD j undef) ∧ (x.cells.getD j undef).oneCell' = true := by
 have one : ∀ (v : V) (x : Value), VR c w v x → x.cells = #[x] → x.oneCell' = true → ([v] : List V) = vs → x.cells.size = vs.length ∧ ∀ j (h : j < vs.length), VR c w vs[j] (x.cells.getD j undef) ∧ (x.cells.getD j undef).oneCell' = true := by
  rintro v x h hc h1 rfl
  rw [hc]
  refine ⟨rfl, fun j hj => ?_⟩
  have : j = 0 := by simp at hj; exact hj
  subst this
  exact ⟨h, h1⟩
 have h' := h
 cases h with
 | undef v => cases hv
 | d x v h => exact one _ _ h' h.cells h.one (Option.some.inj hv)
 | full rows a h ha => exact one _ _ h' rfl rfl (Option.some.inj hv)
 | own rows t a cap i h ht hr hn hl => exact one _ _ h' rfl rfl (Option.some.inj hv)
 | ptr i k b h hT => exact one _ _ h' rfl rfl (Option.some.inj hv)
 | eptr row k g o f h => exact one _ _ h' rfl rfl (Option.some.inj hv)
 | bx i n cap b h hn hm hT => exact one _ _ h' rfl rfl (Option.some.inj hv)
 | mp i b h => exact one _ _ h' rfl rfl (Option.some.inj hv)
 | buf rows t T v h hT =>
  have h1 : x.cells = #[x] ∧ x.oneCell' = true := by cases h with | own => exact ⟨rfl, rfl⟩
  exact one _ _ h' h1.1 h1.2 (Option.some.inj hv)
 | self i T b v h hT hq => exact one _ _ h' (by rcases hq with rfl | rfl <;> rfl) (by rcases hq with rfl | rfl <;> rfl) (Option.some.inj hv)
 | nilp => exact one _ _ h' rfl rfl (Option.some.inj hv)
 | func f first caps cf cc h1 h2 h3 h4 => exact one _ _ h' rfl rfl (Option.some.inj hv)
 | nilf => exact one _ _ h' rfl rfl (Option.some.inj hv)
 | agg us cs h1 h2 h3 =>
  obtain rfl := Option.some.inj hv
  exact ⟨h1, fun j hj => ⟨h2 j hj, h3 j hj⟩⟩
 | tup us cs h1 h2 => cases hv
def toD : V → Option D
 | .d x => some x
 | .sl rows _ => some (.sl rows)
 | .buf rows _ _ => some (.sl rows)
 | _ => none
theorem VR_toD {c : Cx} {w : World} {v : V} {x : Value} (h : VR c w v x) {d : D} (hd : toD v = some d) : DR c.M w d x := by
 cases h with
 | d x v h => obtain rfl := Option.some.inj hd; exact h
 | full rows a h ha => obtain rfl := Option.some.inj hd; exact h
 | own rows t a cap i h ht hr hn hl => obtain rfl := Option.some.inj hd; exact h
 | buf rows t T v h hT =>
  obtain rfl := Option.some.inj hd
  cases h with
  | own _ _ a cap i h ht hr hn hl => exact h
 | _ => cases hd
section
variable {P : Program}
theorem tyOf_info {t : TypeId} {i : TyI} (h : tyOf P t = some i) : ∃ (f : TypeInfo) (d : TypeDesc) (z : Value), P.info? t = some f ∧ P.underlying t = some d ∧ f.zero = some z ∧ f.size = i.size ∧ f.bytes = i.bytes ∧ tdOf P d = i.d ∧ isAggD d = i.agg ∧ z.cells.size = i.size ∧ i.zero = z.cells.toList.map ofVal1 ∧ (∀ u ∈ z.cells.toList, u.oneCell' = true) := by
 unfold tyOf at h
 cases hf : P.info? t with
 | none => simp [hf] at h
 | some f =>
  cases hd : P.underlying t with
  | none => simp [hf, hd] at h
  | some d =>
   cases hz : f.zero with
   | none => simp [hf, hd, hz] at h
   | some z =>
    simp only [hf, hd, hz] at h
    split at h
    ·rename_i hc
     obtain rfl := Option.some.inj h
     exact ⟨f, d, z, rfl, rfl, hz, rfl, rfl, rfl, rfl, hc.1, rfl, fun u hu => List.all_eq_true.1 hc.2 u hu⟩
    ·cases h
theorem run_isAgg {t : TypeId} {d : TypeDesc} (h : P.underlying t = some d) (w : World) : (isAgg t).run P w = .ok (isAggD d) w := by
 unfold isAgg
 rw [Sem.run_bind, run_underlying h w]
 cases d <;> rfl
theorem run_sizeOf {t : TypeId} {i : TypeInfo} (h : P.info? t = some i) (w : World) : (sizeOf t).run P w = .ok i.size w := by simp [sizeOf, typeInfo, h]
theorem run_load_at {t : TypeId} {i : TyI} (ht : tyOf P t = some i) (w : World) (g o : Nat) (cs : Nat → Value) (hc : ∀ j, j < (if i.agg then i.size else 1) → w.cell? ⟨g, o + j, none⟩ = some (cs j)) :
 (Instr.loadAt t (.pointer (some ⟨g, o, none⟩))).run P w = .ok (if i.agg then .agg ((List.range i.size).map cs).toArray else cs 0) w := by
 obtain ⟨f, d, z, h1, h2, h3, h4, h5, h6, h7, h8, h9, _⟩ := tyOf_info ht
 rw [← h7] at hc ⊢
 simp only [Instr.loadAt, Instr.sureAddr, loadVar, Sem.run_bind, Sem.run_pure, Result.andThen_ok, run_isAgg h2]
 cases hd : isAggD d with
 | true =>
  simp only [hd, if_true] at hc ⊢
  rw [← h4] at hc ⊢
  have := run_loadCells (P := P) w ⟨g, o, none⟩ f.size cs (fun j hj => by rw [Addr.add_plain]; exact hc j hj)
  simp only [Sem.run_bind, run_sizeOf h1, Result.andThen_ok, this, Sem.run_pure]
 | false =>
  simp only [hd, Bool.false_eq_true, if_false] at hc ⊢
  have := hc 0 (by omega)
  rw [Nat.add_zero] at this
  simp [run_load, this]
end
def TyK (P : Program) : List (Nat × Option TyI) → Prop
 | [] => True
 | x :: l => tyOf P x.1 = x.2 ∧ TyK P l
theorem TyK_map (P : Program) : ∀ l : List Nat, TyK P (l.map fun k => (k, tyOf P k))
 | [] => trivial
 | _ :: l => ⟨rfl, TyK_map P l⟩
theorem TyK_of (P : Program) (l : List Nat) {t : List (Nat × Option TyI)} (h : (l.map fun k => (k, tyOf P k)) = t) : TyK P t := h ▸ TyK_map P l
end Go.Ab
namespace Go.Proofs.YtkgbbcnjkojocaaGreatDoor
open Go.RowKit Go.Av Go.Ab
set_option maxRecDepth 100000
set_option linter.defProp false
def tys := by
 have c := TyK_of Tryz.prog [1, 2, 3, 4, 5, 6, 7, 8, 9, 10, 11, 12, 13, 14, 15, 16, 17, 18, 19, 21, 22, 23, 24, 25, 26, 27, 28, 29, 30, 32, 34, 35, 37, 39, 40, 41, 42, 43, 44, 45, 46, 47, 48, 49, 50, 51, 52, 53, 54, 55, 56, 57, 59, 60, 61, 62, 63, 64, 65, 66, 67, 68, 69, 70, 71, 72, 73, 74, 75, 76, 77, 78, 79, 80, 81, 82, 83, 84, 85, 86, 87, 88, 89, 90, 91, 92, 93, 94, 95, 96, 97, 98, 99, 100, 101, 102, 103, 104, 105, 106, 108, 109, 110, 111, 112, 113, 114, 115, 116, 117, 118, 119, 120, 121, 123, 124, 125, 126, 127, 128, 129, 130, 131, 132, 133, 134, 135, 136, 137, 138, 139, 140, 141, 142, 143, 144, 146, 148, 150, 151, 152, 153, 155, 156, 157, 158, 159, 160, 161, 162, 164, 165, 166, 167, 169, 170, 171, 172, 174, 175, 176, 177, 178, 179, 180, 181, 182, 183, 185, 186, 187, 188, 190, 191, 192, 193, 194, 195, 196, 197, 198, 199, 200] (by conv => lhs; cbv)
 dsimp only [TyK] at c
 exact c
end Go.Proofs.YtkgbbcnjkojocaaGreatDoor
namespace Go.Proofs.YtkgbbcnjkojocaaGreatDoor
open Go.RowKit
set_option maxRecDepth 100000 in
set_option maxHeartbeats 400000 in
theorem indexByte0 (s : ByteArray) (c : UInt8) (w : World) : Calls Tryz.prog 103 #[.string s, .int .u8 (c.toNat : Int)] w fun e w' => e = .returned (.int .i64 (Lib.indexByte s.data.toList c)) ∧ w = w' := by
 go_enter Tryz.func103, Tryz.ntmps103
 go_wp2
 rw [run_callFunc_extern Tryz.func114 (by kernel_rfl) (by kernel_rfl) (by kernel_rfl) (e := Extern.BytealgIndexByte.indexByte) (by kernel_rfl), Lib.run_indexByteString]
 simp only [Result.andThen]
 rw [Oper.upon_value]
 go_wp2
 go_ret
 exact ⟨by simp, rfl⟩
def hasPre (l p : List UInt8) : Bool := p.isPrefixOf l
end Go.Proofs.YtkgbbcnjkojocaaGreatDoor
namespace Go.Av
def letterB (c : UInt8) : Bool := decide (97 ≤ c.toNat ∧ c.toNat ≤ 122 ∨ 65 ≤ c.toNat ∧ c.toNat ≤ 90 ∨ c.toNat = 95)
def digitB (c : UInt8) : Bool := decide (48 ≤ c.toNat ∧ c.toNat ≤ 57)
def whiteB (c : UInt8) : Bool := decide (c.toNat = 32 ∨ c.toNat = 9 ∨ c.toNat = 10 ∨ c.toNat = 13)
def skipM : Bool → List UInt8 → List UInt8
 | _, [] => []
 | true, c :: r => if c.toNat = 10 then skipM false r else skipM true r
 | false, c :: r => if whiteB c = true then skipM false r else if c.toNat = 47 ∧ r.head? = some 47 then skipM true r else c :: r
def whiteAt (bs : List UInt8) (k : Nat) : Nat := bs.length - (skipM false (bs.drop k)).length
def runAt (p : UInt8 → Bool) (bs : List UInt8) (k : Nat) : Nat := k + ((bs.drop k).takeWhile p).length
theorem drop_cons_of {bs : List UInt8} {k : Nat} {c : UInt8} (h : bs[k]? = some c) : bs.drop k = c :: bs.drop (k + 1) := by
 obtain ⟨hlt, rfl⟩ := List.getElem?_eq_some_iff.1 h
 exact List.drop_eq_getElem_cons hlt
def RdB (B : Nat) (w : World) (v : Value) (bs : List UInt8) : Prop :=
 (v = .slice none 0 0 ∧ bs = []) ∨ ∃ (g off cap : Nat), v = .slice (some ⟨g, off, none⟩) bs.length cap ∧ g < B ∧ bs.length ≤ cap ∧ cap ≤ maxLen ∧ ∀ j u, (bv bs)[j]? = some u → w.cell? ⟨g, off + j, none⟩ = some u
theorem RdB.below {B : Nat} {w w' : World} {v : Value} {bs : List UInt8} (h : RdB B w v bs) (hb : RowKit.Below B w w') : RdB B w' v bs := by
 rcases h with h | ⟨g, off, cap, hv, hg, h1, h2, hc⟩
 ·exact .inl h
 ·exact .inr ⟨g, off, cap, hv, hg, h1, h2, fun j u hu => by rw [hb.cell (p := ⟨g, off + j, none⟩) hg]; exact hc j u hu⟩
theorem RdB.mono {B B' : Nat} {w : World} {v : Value} {bs : List UInt8} (h : RdB B w v bs) (hB : B ≤ B') : RdB B' w v bs := by
 rcases h with h | ⟨g, off, cap, hv, hg, h1, h2, hc⟩
 ·exact .inl h
 ·exact .inr ⟨g, off, cap, hv, by omega, h1, h2, hc⟩
end Go.Av
namespace Go.Proofs.YtkgbbcnjkojocaaGreatDoor
open Go.RowKit Go.Av
def wordB (c : UInt8) : Bool := letterB c || digitB c
def keysL : List (List UInt8) := [[97, 112, 112, 101, 110, 100], [98, 111, 111, 108], [98, 121, 116, 101], [99, 97, 115, 101], [100, 101, 102, 97, 117, 108, 116], [101, 108, 115, 101], [102, 97, 108, 115, 101], [102, 111, 114], [102, 117, 110, 99], [105, 102], [105, 110, 116], [105, 110, 116, 51, 50], [108, 101, 110], [112, 97, 99, 107, 97, 103, 101], [114, 101, 116, 117, 114, 110], [115, 116, 114, 117, 99, 116], [115, 119, 105, 116, 99, 104], [116, 114, 117, 101], [116, 121, 112, 101], [117, 105, 110, 116, 51, 50], [117, 105, 110, 116, 54, 52], [118, 97, 114]]
def signsL : List (List UInt8) := [[38, 38], [124, 124], [61, 61], [33, 61], [60, 61], [62, 61], [60, 60], [62, 62], [40], [41], [123], [125], [91], [93], [44], [46], [58], [61], [60], [62], [43], [45], [42], [47], [37], [38], [124], [94], [33]]
def reservedS (s : List UInt8) : Bool := keysL.any (s == ·)
def valD (l : List UInt8) : Nat := l.foldl (fun n c => n * 10 + (c.toNat - 48)) 0
def maxU : Nat := 18446744073709551615
structure WordS where
 kind : Nat
 text : List UInt8
 int : Nat
 at' : Nat
 next : Nat
def WordS.zero : WordS := ⟨0, [], 0, 0, 0⟩
def WordS.cells (x : WordS) : Array Value := #[.int .i64 (x.kind : Int), .string ⟨x.text.toArray⟩, .int .u64 (x.int : Int), .int .i64 (x.at' : Int), .int .i64 (x.next : Int)]
def digitsAt (bs : List UInt8) (k : Nat) : List UInt8 := (bs.drop k).take (runAt digitB bs k - k)
def numberOk (bs : List UInt8) (k : Nat) : Bool :=
 decide (valD (digitsAt bs k) ≤ maxU) && !(decide (runAt digitB bs k < bs.length) && letterB (bs.getD (runAt digitB bs k) 0)) && !(decide (k + 1 < runAt digitB bs k) && decide (bs.getD k 0 = 48))
def numberW (bs : List UInt8) (k : Nat) : WordS := ⟨2, digitsAt bs k, valD (digitsAt bs k), k, runAt digitB bs k⟩
def NumPost (bs : List UInt8) (k : Nat) (w : World) (e : Ending) (w' : World) : Prop :=
 e = .returned (.tuple #[.agg (if numberOk bs k = true then numberW bs k else WordS.zero).cells, .bool (numberOk bs k)]) ∧ Below w.heap.size w w'
theorem NumPost.no {bs : List UInt8} {k : Nat} {w w' : World} (h : numberOk bs k = false) (hb : Below w.heap.size w w') : NumPost bs k w (.returned (.tuple #[.agg #[.int .i64 0, .string ⟨#[]⟩, .int .u64 0, .int .i64 0, .int .i64 0], .bool false])) w' := by
 unfold NumPost
 rw [h]
 exact ⟨rfl, hb⟩
def signAt (l : List UInt8) : Option (List UInt8) := signsL.find? fun s => hasPre l s
def textAt (bs : List UInt8) (p e : Nat) : List UInt8 := (bs.drop p).take (e - p)
def takeAt (bs : List UInt8) (p : Nat) : WordS × Nat :=
 if p = bs.length then (⟨0, [], 0, p, p⟩, 0)
 else if letterB (bs.getD p 0) = true then (⟨if reservedS (textAt bs p (runAt wordB bs p)) = true then 4 else 1, textAt bs p (runAt wordB bs p), 0, p, runAt wordB bs p⟩, 0)
 else if digitB (bs.getD p 0) = true then (if numberOk bs p = true then (numberW bs p, 0) else (WordS.zero, 50))
 else match signAt (bs.drop p) with
  | some s => (⟨3, s, 0, p, p + s.length⟩, 0)
  | none => (WordS.zero, 50)
def takeS (bs : List UInt8) (i : Int) : WordS × Nat := if i < 0 ∨ i > bs.length then (WordS.zero, 2) else takeAt bs (whiteAt bs i.toNat)
def identS (s : List UInt8) : Bool := decide (s.length ≤ 300) && decide ((takeS s 0).2 = 0) && decide ((takeS s 0).1.kind = 1) && ((takeS s 0).1.text == s)
inductive TyT where
 | mk (kind : Int) (name : List UInt8) (elem : List TyT)
def TyT.kind : TyT → Int | .mk k _ _ => k
def TyT.name : TyT → List UInt8 | .mk _ n _ => n
def TyT.elem : TyT → List TyT | .mk _ _ es => es
inductive ExT where
 | mk (kind : Int) (text : List UInt8) (int : Int) (type : TyT) (names : List (List UInt8)) (kids : List ExT)
def ExT.kind : ExT → Int | .mk k _ _ _ _ _ => k
def ExT.text : ExT → List UInt8 | .mk _ t _ _ _ _ => t
def ExT.int : ExT → Int | .mk _ _ i _ _ _ => i
def ExT.type : ExT → TyT | .mk _ _ _ t _ _ => t
def ExT.names : ExT → List (List UInt8) | .mk _ _ _ _ n _ => n
def ExT.kids : ExT → List ExT | .mk _ _ _ _ _ k => k
def partOk (d p : Int) : Bool := decide (p + 1 ≤ 60000) && decide (d ≤ 60)
def tyS (idn : List UInt8 → Bool) : TyT → Int → Int → Bool × Int
 | .mk k n es, d, p =>
  if partOk d p = false then (false, p + 1)
  else if 1 ≤ k ∧ k ≤ 6 then (decide (n = []) && decide (es.length = 0), p + 1)
  else if k = 7 then (idn n && decide (es.length = 0), p + 1)
  else match es with
   | [e] => if k = 8 ∧ n = [] then tyS idn e (d + 1) (p + 1) else (false, p + 1)
   | _ => (false, p + 1)
def tyRest (idn : List UInt8 → Bool) (k : Int) (n : List UInt8) (d p : Int) : List TyT → Bool × Int
 | [e] => if k = 8 ∧ n = [] then tyS idn e (d + 1) (p + 1) else (false, p + 1)
 | _ => (false, p + 1)
theorem tyS_go (idn : List UInt8 → Bool) (k : Int) (n : List UInt8) (es : List TyT) (d p : Int) (hk : ¬ partOk d p = false) : tyS idn (.mk k n es) d p = (if 1 ≤ k ∧ k ≤ 6 then (decide (n = []) && decide (es.length = 0), p + 1)
 else if k = 7 then (idn n && decide (es.length = 0), p + 1) else tyRest idn k n d p es) := by
 match es with
 | [] => conv => lhs; unfold tyS
         rw [if_neg hk]; rfl
 | [e] => conv => lhs; unfold tyS
          rw [if_neg hk]; rfl
 | e :: f :: l => conv => lhs; unfold tyS
                  rw [if_neg hk]; rfl
def zeroS (t : TyT) : Bool := decide (t.kind = 0) && decide (t.name = []) && decide (t.elem.length = 0)
def manyS (k : Int) : Int := if k = 1 ∨ k = 2 ∨ k = 3 then 0 else if k = 4 ∨ k = 5 ∨ k = 8 ∨ k = 9 ∨ k = 12 then 1 else if k = 6 ∨ k = 10 ∨ k = 13 then 2 else if k = 11 then 3 else if k = 7 ∨ k = 14 ∨ k = 15 then -1 else -2
def hasS (l : List (List UInt8)) (s : List UInt8) : Bool := l.contains s
def diffS : Nat → List (List UInt8) → Bool
 | 0, _ => true
 | n + 1, l => diffS n l && identS (l.getD n []) && !hasS (l.take n) (l.getD n [])
def rankT : List (List UInt8 × Int) := [([42], 5), ([47], 5), ([37], 5), ([60, 60], 5), ([62, 62], 5), ([38], 5), ([43], 4), ([45], 4), ([124], 4), ([94], 4), ([61, 61], 3), ([33, 61], 3), ([60], 3), ([60, 61], 3), ([62], 3), ([62, 61], 3), ([38, 38], 2), ([124, 124], 1)]
def rankS (s : List UInt8) : Int := ((rankT.find? fun x => x.1 == s).map (·.2)).getD 0
def bareT (x : ExT) (d p : Int) : Bool × Int :=
 if x.kind = 8 then (if 2 ≤ x.type.kind ∧ x.type.kind ≤ 6 then tyS identS x.type (d + 1) p else (false, p))
 else if x.kind = 14 then (if x.type.kind = 7 then (if (tyS identS x.type (d + 1) p).1 = true then (decide (x.names.length = x.kids.length) && diffS x.names.length x.names, (tyS identS x.type (d + 1) p).2) else (false, (tyS identS x.type (d + 1) p).2)) else (false, p))
 else if x.kind = 15 then (if x.type.kind = 8 then tyS identS x.type (d + 1) p else (false, p))
 else (if x.kind = 1 ∨ x.kind = 7 ∨ x.kind = 9 then identS x.text else if x.kind = 6 then decide (0 < rankS x.text) else if x.kind = 3 then decide (x.int ≤ 1) else true, p)
def bareS (x : ExT) (d p : Int) : Bool × Int :=
 ((bareT x d p).1 && !(if x.kind = 1 ∨ x.kind = 7 ∨ x.kind = 9 ∨ x.kind = 6 then false else !(x.text == [])) && !(if x.kind = 2 ∨ x.kind = 3 then false else (x.int != 0)) &&
   !(if x.kind = 8 ∨ x.kind = 14 ∨ x.kind = 15 then false else !(zeroS x.type)) && !(if x.kind = 14 then false else decide (0 < x.names.length)), (bareT x d p).2)
theorem tyS_ok (idn : List UInt8 → Bool) : ∀ (t : TyT) (d p : Int), (tyS idn t d p).1 = true → p + 1 ≤ (tyS idn t d p).2 ∧ (tyS idn t d p).2 ≤ 60000
 | .mk k n es, d, p, h => by
  by_cases hk : partOk d p = false
  ·exfalso
   unfold tyS at h
   rw [if_pos hk] at h
   cases h
  ·have hp : p + 1 ≤ 60000 := by
    have h2 : partOk d p = true := by simpa using hk
    unfold partOk at h2
    rw [Bool.and_eq_true, decide_eq_true_iff, decide_eq_true_iff] at h2
    exact h2.1
   rw [tyS_go idn k n es d p hk] at h ⊢
   by_cases h1 : 1 ≤ k ∧ k ≤ 6
   ·rw [if_pos h1]
    exact ⟨Int.le_refl _, hp⟩
   ·rw [if_neg h1] at h ⊢
    by_cases h7 : k = 7
    ·rw [if_pos h7]
     exact ⟨Int.le_refl _, hp⟩
    ·rw [if_neg h7] at h ⊢
     match es with
     | [] => cases h
     | e :: f :: l => cases h
     | [e] =>
      by_cases h8 : k = 8 ∧ n = []
      ·have he : tyRest idn k n d p [e] = tyS idn e (d + 1) (p + 1) := if_pos h8
       rw [he] at h ⊢
       have := tyS_ok idn e (d + 1) (p + 1) h
       omega
      ·have he : tyRest idn k n d p [e] = (false, p + 1) := if_neg h8
       rw [he] at h
       cases h
theorem bareS_ok (x : ExT) (d p : Int) (hp : p ≤ 60000) (h : (bareS x d p).1 = true) : p ≤ (bareS x d p).2 ∧ (bareS x d p).2 ≤ 60000 := by
 have ht : (bareT x d p).1 = true := by
  unfold bareS at h
  simp only [Bool.and_eq_true] at h
  exact h.1.1.1.1
 show p ≤ (bareT x d p).2 ∧ (bareT x d p).2 ≤ 60000
 revert ht
 unfold bareT
 intro ht
 have hty := tyS_ok identS x.type (d + 1) p
 by_cases h8 : x.kind = 8
 ·rw [if_pos h8] at ht ⊢
  by_cases hq : 2 ≤ x.type.kind ∧ x.type.kind ≤ 6
  ·rw [if_pos hq] at ht ⊢
   have := hty ht
   omega
  ·rw [if_neg hq] at ht
   cases ht
 ·rw [if_neg h8] at ht ⊢
  by_cases h14 : x.kind = 14
  ·rw [if_pos h14] at ht ⊢
   by_cases hq : x.type.kind = 7
   ·rw [if_pos hq] at ht ⊢
    by_cases hr : (tyS identS x.type (d + 1) p).1 = true
    ·rw [if_pos hr]
     have := hty hr
     simp only
     omega
    ·rw [if_neg hr] at ht
     cases ht
   ·rw [if_neg hq] at ht
    cases ht
  ·rw [if_neg h14] at ht ⊢
   by_cases h15 : x.kind = 15
   ·rw [if_pos h15] at ht ⊢
    by_cases hq : x.type.kind = 8
    ·rw [if_pos hq] at ht ⊢
     have := hty ht
     omega
    ·rw [if_neg hq] at ht
     cases ht
   ·rw [if_neg h15]
    simp only
    omega
def mostS (k : Int) : Int := if k = 15 then 30000 else 40
mutual
def exS : ExT → Int → Int → Bool × Int
 | .mk k t i ty ns ks, d, p =>
  if partOk d p = false then (false, p + 1)
  else if mostS k < (ks.length : Int) ∨ manyS k = -2 ∨ (0 ≤ manyS k ∧ (ks.length : Int) ≠ manyS k) then (false, p + 1)
  else if (bareS (.mk k t i ty ns ks) d (p + 1)).1 = false then (false, (bareS (.mk k t i ty ns ks) d (p + 1)).2)
  else exsS ks (d + 1) (bareS (.mk k t i ty ns ks) d (p + 1)).2
def exsS : List ExT → Int → Int → Bool × Int
 | [], _, p => (true, p)
 | x :: l, d, p => if (exS x d p).1 = false then (false, (exS x d p).2) else exsS l d (exS x d p).2
end
mutual
theorem exS_ok : ∀ (x : ExT) (d p : Int), (exS x d p).1 = true → p + 1 ≤ (exS x d p).2 ∧ (exS x d p).2 ≤ 60000
 | .mk k t i ty ns ks, d, p, h => by
  unfold exS at h ⊢
  by_cases hk : partOk d p = false
  ·rw [if_pos hk] at h; cases h
  ·have hp : p + 1 ≤ 60000 := by
    have h2 : partOk d p = true := by simpa using hk
    unfold partOk at h2
    rw [Bool.and_eq_true, decide_eq_true_iff, decide_eq_true_iff] at h2
    exact h2.1
   rw [if_neg hk] at h ⊢
   by_cases h1 : mostS k < (ks.length : Int) ∨ manyS k = -2 ∨ (0 ≤ manyS k ∧ (ks.length : Int) ≠ manyS k)
   ·rw [if_pos h1] at h; cases h
   ·rw [if_neg h1] at h ⊢
    by_cases h2 : (bareS (.mk k t i ty ns ks) d (p + 1)).1 = false
    ·rw [if_pos h2] at h; cases h
    ·rw [if_neg h2] at h ⊢
     have hb := bareS_ok (.mk k t i ty ns ks) d (p + 1) hp (by simpa using h2)
     have := exsS_ok ks (d + 1) _ hb.2 h
     omega
theorem exsS_ok : ∀ (l : List ExT) (d p : Int), p ≤ 60000 → (exsS l d p).1 = true → p ≤ (exsS l d p).2 ∧ (exsS l d p).2 ≤ 60000
 | [], d, p, hp, _ => ⟨Int.le_refl _, hp⟩
 | x :: l, d, p, hp, h => by
  unfold exsS at h ⊢
  by_cases h1 : (exS x d p).1 = false
  ·rw [if_pos h1] at h; cases h
  ·rw [if_neg h1] at h ⊢
   have hx := exS_ok x d p (by simpa using h1)
   have := exsS_ok l d _ hx.2 h
   omega
end
mutual
def tcS : TyT → Int
 | .mk _ _ es => 1 + tcsS es
def tcsS : List TyT → Int
 | [] => 0
 | e :: es => tcS e + tcsS es
end
mutual
def ecS : ExT → Int
 | .mk _ _ _ ty _ ks => 1 + (if zeroS ty = true then 0 else tcS ty) + ecsS ks
def ecsS : List ExT → Int
 | [] => 0
 | x :: l => ecS x + ecsS l
end
theorem tyS_cnt (idn : List UInt8 → Bool) : ∀ (t : TyT) (d p : Int), (tyS idn t d p).1 = true → (tyS idn t d p).2 = p + tcS t ∧ zeroS t = false
 | .mk k n es, d, p, h => by
  have hz : k ≠ 0 → zeroS (.mk k n es) = false := fun hk => by
   unfold zeroS
   rw [show (TyT.mk k n es).kind = k from rfl, decide_eq_false hk]
   rfl
  by_cases hk : partOk d p = false
  ·exfalso
   unfold tyS at h
   rw [if_pos hk] at h
   cases h
  ·rw [tyS_go idn k n es d p hk] at h ⊢
   have hnil : es.length = 0 → tcS (.mk k n es) = 1 := fun e => by
    obtain rfl := List.eq_nil_of_length_eq_zero e
    unfold tcS tcsS
    rfl
   by_cases h1 : 1 ≤ k ∧ k ≤ 6
   ·rw [if_pos h1] at h ⊢
    simp only [Bool.and_eq_true, decide_eq_true_eq] at h
    rw [hnil h.2]
    exact ⟨rfl, hz (by omega)⟩
   ·rw [if_neg h1] at h ⊢
    by_cases h7 : k = 7
    ·rw [if_pos h7] at h ⊢
     simp only [Bool.and_eq_true, decide_eq_true_eq] at h
     rw [hnil h.2]
     exact ⟨rfl, hz (by omega)⟩
    ·rw [if_neg h7] at h ⊢
     match es with
     | [] => cases h
     | e :: f :: l => cases h
     | [e] =>
      by_cases h8 : k = 8 ∧ n = []
      ·have he : tyRest idn k n d p [e] = tyS idn e (d + 1) (p + 1) := if_pos h8
       rw [he] at h ⊢
       have := (tyS_cnt idn e (d + 1) (p + 1) h).1
       have hc : tcS (.mk k n [e]) = 1 + (tcS e + 0) := by
        conv => lhs; unfold tcS tcsS tcsS
       exact ⟨by omega, hz (by omega)⟩
      ·have he : tyRest idn k n d p [e] = (false, p + 1) := if_neg h8
       rw [he] at h
       cases h
theorem bareS_cnt (x : ExT) (d p : Int) (h : (bareS x d p).1 = true) : (bareS x d p).2 = p + (if zeroS x.type = true then 0 else tcS x.type) := by
 have hty := tyS_cnt identS x.type (d + 1) p
 have hp : (bareS x d p).2 = (bareT x d p).2 := rfl
 rw [hp]
 unfold bareS at h
 simp only [Bool.and_eq_true] at h
 obtain ⟨⟨⟨⟨ht, _⟩, _⟩, hz⟩, _⟩ := h
 revert ht
 unfold bareT
 intro ht
 by_cases h8 : x.kind = 8
 ·rw [if_pos h8] at ht ⊢
  by_cases hq : 2 ≤ x.type.kind ∧ x.type.kind ≤ 6
  ·rw [if_pos hq] at ht ⊢
   obtain ⟨e1, e2⟩ := hty ht
   rw [e1, e2]
   rfl
  ·rw [if_neg hq] at ht
   cases ht
 ·rw [if_neg h8] at ht ⊢
  by_cases h14 : x.kind = 14
  ·rw [if_pos h14] at ht ⊢
   by_cases hq : x.type.kind = 7
   ·rw [if_pos hq] at ht ⊢
    by_cases hr : (tyS identS x.type (d + 1) p).1 = true
    ·obtain ⟨e1, e2⟩ := hty hr
     rw [if_pos hr, e1, e2]
     rfl
    ·rw [if_neg hr] at ht
     cases ht
   ·rw [if_neg hq] at ht
    cases ht
  ·rw [if_neg h14] at ht ⊢
   by_cases h15 : x.kind = 15
   ·rw [if_pos h15] at ht ⊢
    by_cases hq : x.type.kind = 8
    ·rw [if_pos hq] at ht ⊢
     obtain ⟨e1, e2⟩ := hty ht
     rw [e1, e2]
     rfl
    ·rw [if_neg hq] at ht
     cases ht
   ·rw [if_neg h15]
    rw [if_neg (by rintro (h | h | h); exact h8 h; exact h14 h; exact h15 h)] at hz
    have hz2 : zeroS x.type = true := by simpa using hz
    rw [if_pos hz2]
    simp
mutual
theorem exS_cnt : ∀ (x : ExT) (d p : Int), (exS x d p).1 = true → (exS x d p).2 = p + ecS x
 | .mk k t i ty ns ks, d, p, h => by
  unfold exS at h ⊢
  unfold ecS
  by_cases hk : partOk d p = false
  ·rw [if_pos hk] at h; cases h
  ·rw [if_neg hk] at h ⊢
   by_cases h1 : mostS k < (ks.length : Int) ∨ manyS k = -2 ∨ (0 ≤ manyS k ∧ (ks.length : Int) ≠ manyS k)
   ·rw [if_pos h1] at h; cases h
   ·rw [if_neg h1] at h ⊢
    by_cases h2 : (bareS (.mk k t i ty ns ks) d (p + 1)).1 = false
    ·rw [if_pos h2] at h; cases h
    ·rw [if_neg h2] at h ⊢
     have hb : (bareS (.mk k t i ty ns ks) d (p + 1)).2 = (p + 1) + (if zeroS ty = true then 0 else tcS ty) := bareS_cnt (.mk k t i ty ns ks) d (p + 1) (by simpa using h2)
     have := exsS_cnt ks (d + 1) _ h
     omega
theorem exsS_cnt : ∀ (l : List ExT) (d p : Int), (exsS l d p).1 = true → (exsS l d p).2 = p + ecsS l
 | [], d, p, _ => by unfold exsS ecsS; simp
 | x :: l, d, p, h => by
  unfold exsS at h ⊢
  unfold ecsS
  by_cases h1 : (exS x d p).1 = false
  ·rw [if_pos h1] at h; cases h
  ·rw [if_neg h1] at h ⊢
   have hx := exS_cnt x d p (by simpa using h1)
   have := exsS_cnt l d _ h
   omega
end
theorem partOk_mono {d p d' p' : Int} (h : partOk d p = true) (hd : d' ≤ d) (hp : p' ≤ p) : partOk d' p' = true := by
 unfold partOk at h ⊢
 rw [Bool.and_eq_true, decide_eq_true_iff, decide_eq_true_iff] at h ⊢
 omega
theorem tyS_mono (idn : List UInt8 → Bool) : ∀ (t : TyT) (d p d' p' : Int), (tyS idn t d p).1 = true → d' ≤ d → p' ≤ p → (tyS idn t d' p').1 = true
 | .mk k n es, d, p, d', p', h, hd, hp => by
  by_cases hk : partOk d p = false
  ·exfalso
   unfold tyS at h
   rw [if_pos hk] at h
   cases h
  ·have hk' : ¬ partOk d' p' = false := by rw [partOk_mono (by simpa using hk) hd hp]; decide
   rw [tyS_go idn k n es d p hk] at h
   rw [tyS_go idn k n es d' p' hk']
   by_cases h1 : 1 ≤ k ∧ k ≤ 6
   ·rw [if_pos h1] at h ⊢
    exact h
   ·rw [if_neg h1] at h ⊢
    by_cases h7 : k = 7
    ·rw [if_pos h7] at h ⊢
     exact h
    ·rw [if_neg h7] at h ⊢
     match es with
     | [] => cases h
     | e :: f :: l => cases h
     | [e] =>
      by_cases h8 : k = 8 ∧ n = []
      ·have he : tyRest idn k n d p [e] = tyS idn e (d + 1) (p + 1) := if_pos h8
       have he' : tyRest idn k n d' p' [e] = tyS idn e (d' + 1) (p' + 1) := if_pos h8
       rw [he] at h
       rw [he']
       exact tyS_mono idn e _ _ _ _ h (by omega) (by omega)
      ·have he : tyRest idn k n d p [e] = (false, p + 1) := if_neg h8
       rw [he] at h
       cases h
theorem bareT_mono (x : ExT) (d p d' p' : Int) (h : (bareT x d p).1 = true) (hd : d' ≤ d) (hp : p' ≤ p) : (bareT x d' p').1 = true := by
 have hty := fun hh => tyS_mono identS x.type (d + 1) p (d' + 1) p' hh (by omega) hp
 unfold bareT at h ⊢
 by_cases h8 : x.kind = 8
 ·rw [if_pos h8] at h ⊢
  by_cases hq : 2 ≤ x.type.kind ∧ x.type.kind ≤ 6
  ·rw [if_pos hq] at h ⊢
   exact hty h
  ·rw [if_neg hq] at h
   cases h
 ·rw [if_neg h8] at h ⊢
  by_cases h14 : x.kind = 14
  ·rw [if_pos h14] at h ⊢
   by_cases hq : x.type.kind = 7
   ·rw [if_pos hq] at h ⊢
    by_cases hr : (tyS identS x.type (d + 1) p).1 = true
    ·rw [if_pos hr] at h
     rw [if_pos (hty hr)]
     exact h
    ·rw [if_neg hr] at h
     cases h
   ·rw [if_neg hq] at h
    cases h
  ·rw [if_neg h14] at h ⊢
   by_cases h15 : x.kind = 15
   ·rw [if_pos h15] at h ⊢
    by_cases hq : x.type.kind = 8
    ·rw [if_pos hq] at h ⊢
     exact hty h
    ·rw [if_neg hq] at h
     cases h
   ·rw [if_neg h15] at h ⊢
    exact h
theorem bareS_mono (x : ExT) (d p d' p' : Int) (h : (bareS x d p).1 = true) (hd : d' ≤ d) (hp : p' ≤ p) : (bareS x d' p').1 = true := by
 unfold bareS at h ⊢
 simp only [Bool.and_eq_true] at h ⊢
 exact ⟨⟨⟨⟨bareT_mono x d p d' p' h.1.1.1.1 hd hp, h.1.1.1.2⟩, h.1.1.2⟩, h.1.2⟩, h.2⟩
mutual
theorem exS_mono : ∀ (x : ExT) (d p d' p' : Int), (exS x d p).1 = true → d' ≤ d → p' ≤ p → (exS x d' p').1 = true
 | .mk k t i ty ns ks, d, p, d', p', h, hd, hp => by
  unfold exS at h ⊢
  by_cases hk : partOk d p = false
  ·rw [if_pos hk] at h; cases h
  ·have hk' : ¬ partOk d' p' = false := by rw [partOk_mono (by simpa using hk) hd hp]; decide
   rw [if_neg hk] at h
   rw [if_neg hk']
   by_cases h1 : mostS k < (ks.length : Int) ∨ manyS k = -2 ∨ (0 ≤ manyS k ∧ (ks.length : Int) ≠ manyS k)
   ·rw [if_pos h1] at h; cases h
   ·rw [if_neg h1] at h ⊢
    by_cases h2 : (bareS (.mk k t i ty ns ks) d (p + 1)).1 = false
    ·rw [if_pos h2] at h; cases h
    ·have hb : (bareS (.mk k t i ty ns ks) d (p + 1)).1 = true := by simpa using h2
     have hb' := bareS_mono _ d (p + 1) d' (p' + 1) hb hd (by omega)
     rw [if_neg h2] at h
     rw [if_neg (by rw [hb']; decide)]
     have c1 := bareS_cnt _ _ _ hb
     have c2 := bareS_cnt _ _ _ hb'
     exact exsS_mono ks _ _ _ _ h (by omega) (by omega)
theorem exsS_mono : ∀ (l : List ExT) (d p d' p' : Int), (exsS l d p).1 = true → d' ≤ d → p' ≤ p → (exsS l d' p').1 = true
 | [], d, p, d', p', _, _, _ => by unfold exsS; rfl
 | x :: l, d, p, d', p', h, hd, hp => by
  unfold exsS at h ⊢
  by_cases h1 : (exS x d p).1 = false
  ·rw [if_pos h1] at h; cases h
  ·have hx : (exS x d p).1 = true := by simpa using h1
   have hx' := exS_mono x d p d' p' hx hd hp
   rw [if_neg h1] at h
   rw [if_neg (by rw [hx']; decide)]
   have c1 := exS_cnt x d p hx
   have c2 := exS_cnt x d' p' hx'
   exact exsS_mono l _ _ _ _ h hd (by omega)
end
mutual
inductive StT where
 | mk (kind : Int) (names : List (List UInt8)) (type : TyT) (lefts exprs : List ExT) (body els : List StT) (cases : List CaT)
inductive CaT where
 | mk (int : Int) (body : List StT)
end
def StT.kind : StT → Int | .mk k _ _ _ _ _ _ _ => k
def StT.names : StT → List (List UInt8) | .mk _ n _ _ _ _ _ _ => n
def StT.type : StT → TyT | .mk _ _ t _ _ _ _ _ => t
def StT.lefts : StT → List ExT | .mk _ _ _ l _ _ _ _ => l
def StT.exprs : StT → List ExT | .mk _ _ _ _ e _ _ _ => e
def StT.body : StT → List StT | .mk _ _ _ _ _ b _ _ => b
def StT.els : StT → List StT | .mk _ _ _ _ _ _ b _ => b
def StT.cases : StT → List CaT | .mk _ _ _ _ _ _ _ c => c
def CaT.int : CaT → Int | .mk i _ => i
def CaT.body : CaT → List StT | .mk _ b => b
structure PaT where
 name : List UInt8
 type : TyT
structure SuT where
 name : List UInt8
 fields : List PaT
structure FuT where
 name : List UInt8
 params : List PaT
 results : List TyT
 body : List StT
structure PrT where
 structs : List SuT
 funcs : List FuT
structure Cnts (f : Int → Bool × Int) (n : Int) : Prop where
 adds : ∀ p, (f p).1 = true → (f p).2 = p + n
 up : ∀ p, (f p).1 = true → p ≤ (f p).2
 mono : ∀ p p', (f p).1 = true → p' ≤ p → (f p').1 = true
def andS (f g : Int → Bool × Int) (p : Int) : Bool × Int := if (f p).1 = false then (false, (f p).2) else g (f p).2
def allowS (b : Bool) (p : Int) : Bool × Int := (b, p)
def partS (d p : Int) : Bool × Int := (partOk d p, p + 1)
def rowS {α : Type} (f : α → Int → Bool × Int) : List α → Int → Bool × Int
 | [], p => (true, p)
 | x :: l, p => andS (f x) (rowS f l) p
def sumS {α : Type} (c : α → Int) : List α → Int
 | [] => 0
 | x :: l => c x + sumS c l
theorem Cnts.and {f g : Int → Bool × Int} {n m : Int} (hf : Cnts f n) (hg : Cnts g m) : Cnts (andS f g) (n + m) := by
 have op : ∀ p, (andS f g p).1 = true → (f p).1 = true ∧ andS f g p = g (f p).2 := by
  intro p h
  unfold andS at h ⊢
  by_cases h1 : (f p).1 = false
  ·rw [if_pos h1] at h; cases h
  ·rw [if_neg h1]
   exact ⟨by simpa using h1, rfl⟩
 refine ⟨fun p h => ?_, fun p h => ?_, fun p p' h hp => ?_⟩
 ·obtain ⟨h1, h2⟩ := op p h
  rw [h2] at h ⊢
  rw [hg.adds _ h, hf.adds _ h1]
  omega
 ·obtain ⟨h1, h2⟩ := op p h
  rw [h2] at h ⊢
  exact Int.le_trans (hf.up _ h1) (hg.up _ h)
 ·obtain ⟨h1, h2⟩ := op p h
  have h3 := hf.mono p p' h1 hp
  rw [h2] at h
  have h4 : andS f g p' = g (f p').2 := by
   unfold andS
   rw [if_neg (by rw [h3]; decide)]
  rw [h4]
  exact hg.mono _ _ h (by rw [hf.adds _ h1, hf.adds _ h3]; omega)
theorem Cnts.allow (b : Bool) : Cnts (allowS b) 0 := ⟨fun p _ => by simp [allowS], fun p _ => Int.le_refl _, fun p p' h _ => h⟩
theorem Cnts.part (d : Int) : Cnts (partS d) 1 := ⟨fun p _ => rfl, fun p _ => by show p ≤ p + 1; omega, fun p p' h hp => partOk_mono h (Int.le_refl _) hp⟩
theorem Cnts.row {α : Type} {f : α → Int → Bool × Int} {c : α → Int} : ∀ (l : List α), (∀ x ∈ l, Cnts (f x) (c x)) → Cnts (rowS f l) (sumS c l)
 | [], _ => ⟨fun p _ => by simp [rowS, sumS], fun p _ => Int.le_refl _, fun p p' h _ => rfl⟩
 | x :: l, h => by
  have hr := Cnts.row l fun y hy => h y (List.mem_cons_of_mem _ hy)
  have := (h x List.mem_cons_self).and hr
  exact this
theorem Cnts.ty (t : TyT) (d : Int) : Cnts (fun p => tyS identS t d p) (tcS t) :=
 ⟨fun p h => (tyS_cnt identS t d p h).1, fun p h => by have := tyS_ok identS t d p h; show p ≤ (tyS identS t d p).2; omega, fun p p' h hp => tyS_mono identS t d p d p' h (Int.le_refl _) hp⟩
theorem exsS_up : ∀ (l : List ExT) (d p : Int), (exsS l d p).1 = true → p ≤ (exsS l d p).2
 | [], d, p, _ => by unfold exsS; exact Int.le_refl _
 | x :: l, d, p, h => by
  unfold exsS at h ⊢
  by_cases h1 : (exS x d p).1 = false
  ·rw [if_pos h1] at h; cases h
  ·rw [if_neg h1] at h ⊢
   have hx := exS_ok x d p (by simpa using h1)
   have := (exsS_ok l d _ hx.2 h).1
   omega
theorem Cnts.exs (l : List ExT) (d : Int) : Cnts (fun p => exsS l d p) (ecsS l) :=
 ⟨fun p h => exsS_cnt l d p h, fun p h => exsS_up l d p h, fun p p' h hp => exsS_mono l d p d p' h (Int.le_refl _) hp⟩
mutual
def headS : ExT → Bool
 | .mk k _ _ _ _ ks => decide (k ≠ 14) && decide (k ≠ 15) && headsS ks
def headsS : List ExT → Bool
 | [] => true
 | x :: l => headS x && headsS l
end
def placeS : ExT → Bool
 | .mk k _ _ _ _ ks => match ks with
  | [y] => if k = 9 then placeS y else decide (k = 1)
  | _ => decide (k = 1)
def sizedS (s : StT) : Bool :=
 let plain := decide (s.names = []) && zeroS s.type
 let lefts := decide (s.lefts = [])
 let body := decide (s.body.length = 0)
 let other := decide (s.els.length = 0)
 let cases := decide (s.cases.length = 0)
 if s.kind = 1 then decide (s.exprs.length = 0) && (match s.names with | [x] => identS x | _ => false) && lefts && body && other && cases
 else if s.kind = 2 then decide (0 < s.lefts.length) && (decide (s.exprs.length = s.lefts.length) || (match s.exprs with | [x] => decide (x.kind = 7) | _ => false)) && s.lefts.all placeS && plain && body && other && cases
 else if s.kind = 3 then plain && lefts && (match s.exprs with | [x] => headS x | _ => false) && cases
 else if s.kind = 4 then plain && lefts && (match s.exprs with | [x] => headS x | _ => false) && other && cases
 else if s.kind = 5 then plain && lefts && (match s.exprs with | [x] => headS x | _ => false) && body
 else if s.kind = 6 then plain && lefts && decide (0 < s.exprs.length) && body && other && cases
 else false
def exs40 (l : List ExT) (d : Int) : Int → Bool × Int := andS (fun p => exsS l d p) (allowS (decide (l.length ≤ 40)))
def casS (R : StT → Int → Int → Bool × Int) (d : Int) : List Int → List CaT → Int → Bool × Int
 | _, [], p => (true, p)
 | seen, c :: l, p => andS (partS (d + 1)) (andS (allowS (!seen.contains c.int)) (andS (rowS (fun s => R s (d + 2)) c.body) (casS R d (seen ++ [c.int]) l))) p
def stS : Nat → StT → Int → Int → Bool × Int
 | 0, _, _ => allowS false
 | n + 1, s, d => andS (partS d) (andS (allowS (sizedS s && decide (s.cases.length ≤ 40))) (andS (if s.kind = 1 then fun p => tyS identS s.type (d + 1) p else allowS true)
  (andS (casS (stS n) d [] s.cases) (andS (exs40 s.lefts (d + 1)) (andS (exs40 s.exprs (d + 1)) (andS (rowS (fun x => stS n x (d + 1)) s.body) (rowS (fun x => stS n x (d + 1)) s.els)))))))
def stC : Nat → StT → Int
 | 0, _ => 0
 | n + 1, s => 1 + (if s.kind = 1 then tcS s.type else 0) + sumS (fun c : CaT => 1 + sumS (stC n) c.body) s.cases + ecsS s.lefts + ecsS s.exprs + sumS (stC n) s.body + sumS (stC n) s.els
theorem Cnts.eq {f : Int → Bool × Int} {n m : Int} (h : Cnts f n) (e : n = m) : Cnts f m := e ▸ h
theorem Cnts.exs40 (l : List ExT) (d : Int) : Cnts (exs40 l d) (ecsS l) := ((Cnts.exs l d).and (Cnts.allow _)).eq (by omega)
theorem Cnts.cas {R : StT → Int → Int → Bool × Int} {c : StT → Int} (hR : ∀ s d, Cnts (R s d) (c s)) (d : Int) : ∀ (l : List CaT) (seen : List Int), Cnts (casS R d seen l) (sumS (fun k : CaT => 1 + sumS c k.body) l)
 | [], _ => ⟨fun p _ => by simp [casS, sumS], fun p _ => Int.le_refl _, fun p p' h _ => rfl⟩
 | k :: l, seen => by
  have h := (Cnts.part (d + 1)).and ((Cnts.allow (!seen.contains k.int)).and ((Cnts.row (f := fun s => R s (d + 2)) (c := c) k.body fun s _ => hR s (d + 2)).and (Cnts.cas hR d l (seen ++ [k.int]))))
  exact Cnts.eq (f := casS R d seen (k :: l)) h (by simp only [sumS]; omega)
theorem Cnts.st : ∀ (n : Nat) (s : StT) (d : Int), Cnts (stS n s d) (stC n s)
 | 0, s, d => ⟨fun p h => (by cases h), fun p h => (by cases h), fun p p' h _ => (by cases h)⟩
 | n + 1, s, d => by
  have ih := Cnts.st n
  have hb := Cnts.row (f := fun x => stS n x (d + 1)) (c := stC n) s.body fun x _ => ih x (d + 1)
  have he := Cnts.row (f := fun x => stS n x (d + 1)) (c := stC n) s.els fun x _ => ih x (d + 1)
  have hty : Cnts (if s.kind = 1 then fun p => tyS identS s.type (d + 1) p else allowS true) (if s.kind = 1 then tcS s.type else 0) := by
   by_cases hk : s.kind = 1
   ·rw [if_pos hk, if_pos hk]; exact Cnts.ty s.type (d + 1)
   ·rw [if_neg hk, if_neg hk]; exact Cnts.allow true
  have h := (Cnts.part d).and ((Cnts.allow (sizedS s && decide (s.cases.length ≤ 40))).and (hty.and ((Cnts.cas (fun s d => ih s d) d s.cases []).and ((Cnts.exs40 s.lefts (d + 1)).and ((Cnts.exs40 s.exprs (d + 1)).and (hb.and he))))))
  exact Cnts.eq (f := stS (n + 1) s d) h (by simp only [stC]; omega)
def paS (most : Nat) (l : List PaT) : Int → Bool × Int :=
 andS (rowS (fun x : PaT => andS (partS 0) (fun p => tyS identS x.type 0 p)) l) (allowS (decide (l.length ≤ most) && diffS l.length (l.map PaT.name)))
def paC (l : List PaT) : Int := sumS (fun x : PaT => 1 + tcS x.type) l
def suS (s : SuT) : Int → Bool × Int := andS (partS 0) (andS (allowS (identS s.name)) (paS 60 s.fields))
def suC (s : SuT) : Int := 1 + paC s.fields
def fuS (n : Nat) (f : FuT) : Int → Bool × Int :=
 andS (partS 0) (andS (allowS (identS f.name)) (andS (paS 20 f.params) (andS (allowS (decide (1 ≤ f.results.length) && decide (f.results.length ≤ 20))) (andS (rowS (fun t p => tyS identS t 0 p) f.results) (rowS (fun s => stS n s 0) f.body)))))
def fuC (n : Nat) (f : FuT) : Int := 1 + paC f.params + sumS tcS f.results + sumS (stC n) f.body
def prS (n : Nat) (p : PrT) : Int → Bool × Int := andS (rowS suS p.structs) (rowS (fuS n) p.funcs)
def prC (n : Nat) (p : PrT) : Int := sumS suC p.structs + sumS (fuC n) p.funcs
theorem Cnts.pa (most : Nat) (l : List PaT) : Cnts (paS most l) (paC l) :=
 ((Cnts.row (f := fun x : PaT => andS (partS 0) (fun p => tyS identS x.type 0 p)) (c := fun x : PaT => 1 + tcS x.type) l fun x _ => (Cnts.part 0).and (Cnts.ty x.type 0)).and (Cnts.allow _)).eq (by unfold paC; omega)
theorem Cnts.su (s : SuT) : Cnts (suS s) (suC s) :=
 ((Cnts.part 0).and ((Cnts.allow (identS s.name)).and (Cnts.pa 60 s.fields))).eq (by unfold suC; omega)
theorem Cnts.fu (n : Nat) (f : FuT) : Cnts (fuS n f) (fuC n f) :=
 ((Cnts.part 0).and ((Cnts.allow (identS f.name)).and ((Cnts.pa 20 f.params).and ((Cnts.allow (decide (1 ≤ f.results.length) && decide (f.results.length ≤ 20))).and ((Cnts.row (f := fun t p => tyS identS t 0 p) (c := tcS) f.results fun t _ => Cnts.ty t 0).and
   (Cnts.row (f := fun s => stS n s 0) (c := stC n) f.body fun s _ => Cnts.st n s 0)))))).eq (by unfold fuC; omega)
theorem Cnts.pr (n : Nat) (p : PrT) : Cnts (prS n p) (prC n p) :=
 (Cnts.row (f := suS) (c := suC) p.structs fun s _ => Cnts.su s).and (Cnts.row (f := fuS n) (c := fuC n) p.funcs fun f _ => Cnts.fu n f)
theorem andS_true {f g : Int → Bool × Int} {p : Int} (h : (andS f g p).1 = true) : (f p).1 = true ∧ (g (f p).2).1 = true := by
 unfold andS at h
 by_cases h1 : (f p).1 = false
 ·rw [if_pos h1] at h; cases h
 ·rw [if_neg h1] at h
  exact ⟨by simpa using h1, h⟩
def Bnds (f : Int → Bool × Int) : Prop := ∀ p, p ≤ 60000 → (f p).1 = true → (f p).2 ≤ 60000
theorem Bnds.and {f g : Int → Bool × Int} (hf : Bnds f) (hg : Bnds g) : Bnds (andS f g) := by
 intro p hp h
 obtain ⟨h1, h2⟩ := andS_true h
 unfold andS
 rw [if_neg (by rw [h1]; decide)]
 exact hg _ (hf p hp h1) h2
theorem Bnds.allow (b : Bool) : Bnds (allowS b) := fun _ hp _ => hp
theorem Bnds.part (d : Int) : Bnds (partS d) := fun p _ h => by
 have h' : partOk d p = true := h
 unfold partOk at h'
 rw [Bool.and_eq_true, decide_eq_true_iff] at h'
 exact h'.1
theorem Bnds.row {α : Type} {f : α → Int → Bool × Int} (hf : ∀ x, Bnds (f x)) : ∀ l : List α, Bnds (rowS f l)
 | [] => fun _ hp _ => hp
 | x :: l => (hf x).and (Bnds.row hf l)
theorem Bnds.ty (t : TyT) (d : Int) : Bnds (fun p => tyS identS t d p) := fun p _ h => (tyS_ok identS t d p h).2
theorem Bnds.exs (l : List ExT) (d : Int) : Bnds (fun p => exsS l d p) := fun p hp h => (exsS_ok l d p hp h).2
theorem Bnds.exs40 (l : List ExT) (d : Int) : Bnds (exs40 l d) := (Bnds.exs l d).and (Bnds.allow _)
theorem Bnds.cas {R : StT → Int → Int → Bool × Int} (hR : ∀ s d, Bnds (R s d)) (d : Int) : ∀ (l : List CaT) (seen : List Int), Bnds (casS R d seen l)
 | [], _ => fun _ hp _ => hp
 | k :: l, seen => (Bnds.part (d + 1)).and ((Bnds.allow (!seen.contains k.int)).and ((Bnds.row (f := fun s => R s (d + 2)) (fun s => hR s (d + 2)) k.body).and (Bnds.cas hR d l (seen ++ [k.int]))))
theorem Bnds.st : ∀ (n : Nat) (s : StT) (d : Int), Bnds (stS n s d)
 | 0, _, _ => fun _ _ h => (by cases h)
 | n + 1, s, d => by
  have ih := Bnds.st n
  have hty : Bnds (if s.kind = 1 then fun p => tyS identS s.type (d + 1) p else allowS true) := by
   by_cases hk : s.kind = 1
   ·rw [if_pos hk]; exact Bnds.ty s.type (d + 1)
   ·rw [if_neg hk]; exact Bnds.allow true
  exact (Bnds.part d).and ((Bnds.allow (sizedS s && decide (s.cases.length ≤ 40))).and (hty.and ((Bnds.cas (fun s d => ih s d) d s.cases []).and ((Bnds.exs40 s.lefts (d + 1)).and ((Bnds.exs40 s.exprs (d + 1)).and
   ((Bnds.row (f := fun x => stS n x (d + 1)) (fun x => ih x (d + 1)) s.body).and (Bnds.row (f := fun x => stS n x (d + 1)) (fun x => ih x (d + 1)) s.els)))))))
theorem Bnds.pa (most : Nat) (l : List PaT) : Bnds (paS most l) :=
 (Bnds.row (f := fun x : PaT => andS (partS 0) (fun p => tyS identS x.type 0 p)) (fun x => (Bnds.part 0).and (Bnds.ty x.type 0)) l).and (Bnds.allow _)
theorem Bnds.su (s : SuT) : Bnds (suS s) := (Bnds.part 0).and ((Bnds.allow (identS s.name)).and (Bnds.pa 60 s.fields))
theorem Bnds.fu (n : Nat) (f : FuT) : Bnds (fuS n f) :=
 (Bnds.part 0).and ((Bnds.allow (identS f.name)).and ((Bnds.pa 20 f.params).and ((Bnds.allow (decide (1 ≤ f.results.length) && decide (f.results.length ≤ 20))).and
  ((Bnds.row (f := fun t p => tyS identS t 0 p) (fun t => Bnds.ty t 0) f.results).and (Bnds.row (f := fun s => stS n s 0) (fun s => Bnds.st n s 0) f.body)))))
theorem Bnds.pr (n : Nat) (p : PrT) : Bnds (prS n p) := (Bnds.row Bnds.su p.structs).and (Bnds.row (Bnds.fu n) p.funcs)
end Go.Proofs.YtkgbbcnjkojocaaGreatDoor
namespace Go.Ab
open Go.RowKit Go.Av
def OpOk (P : Program) (c : Cx) (w : World) (s : Sem Next) (r : Option (V × Mem)) : Prop :=
 ∀ v S', r = some (v, S') → ∃ x w' c', (s.run P w = .ok (.value x) w' ∨ (s.run P w = .ok .skip w' ∧ v = .undef)) ∧ Rep c' w' S' ∧ Ext c w c' w' ∧ VR c' w' v x
theorem OpOk.pure {P : Program} {c : Cx} {w : World} {S : Mem} (h : Rep c w S) {s : Sem Value} {r : Option V} (hs : ∀ v, r = some v → ∃ x, s.run P w = .ok x w ∧ VR c w v x) :
 OpOk P c w (do Pure.pure (.value (← s))) (r.map fun v => (v, S)) := by
 intro v S' hr
 cases r with
 | none => cases hr
 | some v0 =>
  obtain ⟨rfl, rfl⟩ := Prod.mk.inj (Option.some.inj hr)
  obtain ⟨x, hx, hv⟩ := hs v0 rfl
  exact ⟨x, w, c, .inl (by simp [hx]), h, .refl _ _, hv⟩
def loadV (i : TyI) (vs : List V) (k : Nat) : Option V := if i.agg then (if k + i.size ≤ vs.length then some (.agg ((vs.drop k).take i.size)) else none) else vs[k]?
def loadD (i : TyI) (row : List D) (k : Nat) : Option V := if i.agg then (if k + i.size ≤ row.length then some (.agg (((row.drop k).take i.size).map .d)) else none) else (row[k]?).map .d
def opLoad (P : Program) (S : Mem) (t : TypeId) : V → Option V
 | .ptr i k => match tyOf P t, S.boxes[i]? with
  | some ti, some vs => loadV ti vs k
  | _, _ => none
 | .eptr row k => match tyOf P t with
  | some ti => loadD ti row k
  | none => none
 | _ => none
theorem getD_arr {cs : Array Value} {j : Nat} (h : j < cs.size) : cs.getD j undef = cs[j] := by simp [Array.getD, h]
theorem getD_list_arr {l : List Value} {j : Nat} (h : j < l.length) : l.toArray.getD j undef = l[j] := by simp [Array.getD, h]
theorem Rep.boxCells {c : Cx} {w : World} {S : Mem} (h : Rep c w S) {i b : Nat} (hi : c.ρ[i]? = some b) (hT : ∃ T, OfTy w b T) {vs : List V} (hv : S.boxes[i]? = some vs) : ∃ (cs : Array Value) (T : TypeId), w.heap[b]? = some (.cells cs T (0, 0)) ∧ cs.size = vs.length ∧
 ∀ j (h : j < vs.length), w.cell? ⟨b, j, none⟩ = some (cs.getD j undef) ∧ VR c w vs[j] (cs.getD j undef) ∧ (cs.getD j undef).oneCell' = true := by
 obtain ⟨_, o, ho, vs', e1, e2⟩ := h.box i b hi
 rw [hv] at e1
 obtain rfl := Option.some.inj e1
 obtain ⟨cs, T, hh, e2, e3⟩ := e2.of_ty ho hT
 refine ⟨cs, T, hh, e2, fun j hj => ⟨?_, e3 j hj⟩⟩
 have : j < cs.size := by omega
 simp [World.cell?, hh, Array.getD, this]
theorem Rep.tyOfBox {c : Cx} {w : World} {S : Mem} (h : Rep c w S) {i b : Nat} (hi : c.ρ[i]? = some b) {vs : List V} (hv : S.boxes[i]? = some vs) (hn : NoKv vs) : ∃ T, OfTy w b T := by
 obtain ⟨_, o, ho, vs', e1, e2⟩ := h.box i b hi
 rw [hv] at e1
 obtain rfl := Option.some.inj e1
 obtain ⟨cs, T, rfl, _⟩ := e2.of_kv hn
 exact ⟨T, cs, _, ho⟩
section
variable {P : Program} {c : Cx} {w : World} {S : Mem}
theorem load_ok (h : Rep c w S) (t : TypeId) {a : V} {x : Value} (ha : VR c w a x) {v : V} (hv : opLoad P S t a = some v) : ∃ y, (Instr.loadAt t x).run P w = .ok y w ∧ VR c w v y := by
 unfold opLoad at hv
 cases ha with
 | ptr i k b hi hT =>
  cases ht : tyOf P t with
  | none => simp [ht] at hv
  | some ti =>
   cases hb : S.boxes[i]? with
   | none => simp [ht, hb] at hv
   | some vs =>
    simp only [ht, hb, loadV] at hv
    obtain ⟨cs, T, hh, hsz, hc⟩ := h.boxCells hi hT hb
    cases hagg : ti.agg with
    | true =>
     simp only [hagg, if_true] at hv
     split at hv
     ·rename_i hle
      obtain rfl := Option.some.inj hv
      refine ⟨_, run_load_at ht w b k (fun j => cs.getD (k + j) undef) (fun j hj => (hc (k + j) (by rw [hagg] at hj; simp at hj; omega)).1), ?_⟩
      simp only [hagg, if_true]
      refine .agg _ _ (by simp; omega) (fun j hj => ?_) (fun j hj => ?_)
      ·have hj' : j < ti.size := by simp at hj; omega
       simp only [List.getElem_take, List.getElem_drop]
       rw [getD_list_arr (by simpa using hj')]
       simp only [List.getElem_map, List.getElem_range]
       exact (hc (k + j) (by omega)).2.1
      ·have hj' : j < ti.size := by simp at hj; omega
       rw [getD_list_arr (by simpa using hj')]
       simp only [List.getElem_map, List.getElem_range]
       exact (hc (k + j) (by omega)).2.2
     ·cases hv
    | false =>
     simp only [hagg, Bool.false_eq_true, if_false] at hv
     obtain ⟨hk, rfl⟩ := List.getElem?_eq_some_iff.1 hv
     refine ⟨_, run_load_at ht w b k (fun j => cs.getD (k + j) undef) (fun j hj => ?_), ?_⟩
     ·have : j = 0 := by rw [hagg] at hj; simpa using hj
      subst this
      exact (hc (k + 0) hk).1
     ·simp only [hagg, Bool.false_eq_true, if_false]
      exact (hc (k + 0) hk).2.1
 | eptr row k g o f hc =>
  cases ht : tyOf P t with
  | none => simp [ht] at hv
  | some ti =>
   simp only [ht, loadD] at hv
   cases hagg : ti.agg with
   | true =>
    simp only [hagg, if_true] at hv
    split at hv
    ·rename_i hle
     obtain rfl := Option.some.inj hv
     refine ⟨_, run_load_at ht w g (o + k) (fun j => f (k + j)) (fun j hj => ?_), ?_⟩
     ·rw [Nat.add_assoc]; exact (hc (k + j) (by rw [hagg] at hj; simp at hj; omega)).2.1
     ·simp only [hagg, if_true]
      refine .agg _ _ (by simp; omega) (fun j hj => ?_) (fun j hj => ?_)
      ·have hj' : j < ti.size := by simp at hj; omega
       simp only [List.getElem_map, List.getElem_take, List.getElem_drop]
       rw [getD_list_arr (by simpa using hj')]
       simp only [List.getElem_map, List.getElem_range]
       exact .d _ _ (hc (k + j) (by omega)).2.2
      ·have hj' : j < ti.size := by simp at hj; omega
       rw [getD_list_arr (by simpa using hj')]
       simp only [List.getElem_map, List.getElem_range]
       exact (hc (k + j) (by omega)).2.2.one
    ·cases hv
   | false =>
    simp only [hagg, Bool.false_eq_true, if_false] at hv
    obtain ⟨d, hd, rfl⟩ := Option.map_eq_some_iff.1 hv
    obtain ⟨hk, rfl⟩ := List.getElem?_eq_some_iff.1 hd
    refine ⟨_, run_load_at ht w g (o + k) (fun j => f (k + j)) (fun j hj => ?_), ?_⟩
    ·have : j = 0 := by rw [hagg] at hj; simpa using hj
     subst this
     rw [Nat.add_assoc]; exact (hc (k + 0) hk).2.1
    ·simp only [hagg, Bool.false_eq_true, if_false]
     exact .d _ _ (hc (k + 0) hk).2.2
 | _ => cases hv
theorem alloc_ok (h : Rep c w S) (t : TypeId) {i : TyI} (ht : tyOf P t = some i) : ∃ x w' c', (Instr.alloc t true (.tuple #[])).run P w = .ok x w' ∧ Rep c' w' { S with boxes := S.boxes ++ [i.zero] } ∧ Ext c w c' w' ∧ VR c' w' (.ptr S.boxes.length 0) x := by
 obtain ⟨f, d, z, h1, h2, h3, h4, h5, h6, h7, h8, h9, h10⟩ := tyOf_info ht
 have hn := h.box_new z.cells t i.zero (by rw [h9]; simp) (fun j hj => by
  have hj' : j < z.cells.size := by rw [h9] at hj; simpa using hj
  rw [getD_arr hj']
  refine ⟨?_, h10 _ (by simp)⟩
  simp only [h9, List.getElem_map, Array.getElem_toList]
  exact VR_ofVal1 c w _)
 refine ⟨_, _, _, ?_, hn.1, hn.2, .ptr _ 0 w.heap.size ?_ ⟨_, OfTy.new _ _⟩⟩
 ·simp [Instr.alloc, zeroValue, typeInfo, h1, h3, newVar, newRow]
 ·show (c.ρ ++ [w.heap.size])[S.boxes.length]? = _
  rw [h.len]; simp
theorem box_ok (h : Rep c w S) (t : TypeId) {v : V} {x : Value} (hv : VR c w v x) {vs : List V} (hc : cellsV v = some vs) : ∃ y w' c', (Instr.box t x).run P w = .ok y w' ∧ Rep c' w' { S with boxes := S.boxes ++ [vs] } ∧ Ext c w c' w' ∧ VR c' w' (.ptr S.boxes.length 0) y := by
 obtain ⟨h1, h2⟩ := VR_cells hv hc
 have hn := h.box_new x.cells t vs h1 h2
 refine ⟨_, _, _, ?_, hn.1, hn.2, .ptr _ 0 w.heap.size ?_ ⟨_, OfTy.new _ _⟩⟩
 ·simp [Instr.box, newVar, newRow]
 ·show (c.ρ ++ [w.heap.size])[S.boxes.length]? = _
  rw [h.len]; simp
theorem store_ok (h : Rep c w S) (t : TypeId) {ti : TyI} (ht : tyOf P t = some ti) {i k : Nat} {p x : Value} (hp : VR c w (.ptr i k) p) {v : V} (hv : VR c w v x) {us vs : List V} (hu : S.boxes[i]? = some us) (hc : cellsV v = some vs) (hs : vs.length = ti.size) (hfit : k + ti.size ≤ us.length) :
 ∃ w' , (Instr.storeAt t p x).run P w = .ok () w' ∧ Rep c w' { S with boxes := S.boxes.set i (us.take k ++ vs ++ us.drop (k + vs.length)) } ∧ Ext c w c w' := by
 obtain ⟨h1, h2⟩ := VR_cells hv hc
 obtain ⟨f, d, z, g1, g2, g3, g4, g5, g6, g7, g8, g9, g10⟩ := tyOf_info ht
 cases hp with
 | ptr _ _ b hi hT =>
  obtain ⟨cs, T, hh, hsz, hcs⟩ := h.boxCells hi hT hu
  have hst := storeCells_at (P := P) b k T (0, 0) x.cells.toList 0 cs w hh (by simp; omega) (by simp) (fun u hu => by
   obtain ⟨j, hj, rfl⟩ := List.mem_iff_getElem.1 hu
   have hj' : j < x.cells.size := by simpa using hj
   have := (h2 j (by omega)).2
   rw [getD_arr hj'] at this
   simpa using this)
  have hsize : x.cells.size = f.size := by omega
  refine ⟨_, ?_, h.setBox hi hT (cs.toList.take (k + 0) ++ x.cells.toList ++ cs.toList.drop (k + 0 + x.cells.toList.length)).toArray _ ?_ (fun j hj => ?_)⟩
  ·simp only [Instr.storeAt, Instr.sureAddr, Sem.run_bind, Sem.run_pure, Result.andThen_ok, storeVar, run_sizeOf g1, Sem.run_ite]
   rw [if_neg (by simp [hsize])]
   exact hst
  ·simp only [Nat.add_zero, List.size_toArray, List.length_append, List.length_take, List.length_drop, Array.length_toList, hsz, h1]
  ·simp only [Nat.add_zero]
   rw [getD_list_arr (by simp at hj ⊢; omega)]
   rcases Nat.lt_or_ge j k with hlt | hge
   ·have e1 : (us.take k ++ vs ++ us.drop (k + vs.length))[j] = us[j]'(by omega) := by
     rw [List.getElem_append_left (by simp; omega), List.getElem_append_left (by simp; omega)]; simp
    have e2 : (cs.toList.take k ++ x.cells.toList ++ cs.toList.drop (k + x.cells.toList.length))[j]'(by simp at hj ⊢; omega) = cs[j]'(by omega) := by
     rw [List.getElem_append_left (by simp; omega), List.getElem_append_left (by simp; omega)]; simp
    rw [e1, e2, ← getD_arr]
    exact (hcs j (by omega)).2
   ·rcases Nat.lt_or_ge j (k + vs.length) with hlt2 | hge2
    ·have e1 : (us.take k ++ vs ++ us.drop (k + vs.length))[j] = vs[j - k]'(by omega) := by
      rw [List.getElem_append_left (by simp; omega), List.getElem_append_right (by simp; omega)]
      congr 1; simp; omega
     have e2 : (cs.toList.take k ++ x.cells.toList ++ cs.toList.drop (k + x.cells.toList.length))[j]'(by simp at hj ⊢; omega) = x.cells[j - k]'(by omega) := by
      rw [List.getElem_append_left (by simp; omega), List.getElem_append_right (by simp; omega)]
      simp only [Array.getElem_toList]
      congr 1; simp; omega
     rw [e1, e2, ← getD_arr]
     exact h2 (j - k) (by omega)
    ·have hj' : j < us.length := by simp at hj; omega
     have e1 : (us.take k ++ vs ++ us.drop (k + vs.length))[j] = us[j]'hj' := by
      rw [List.getElem_append_right (by simp; omega)]
      simp only [List.getElem_drop]
      congr 1; simp; omega
     have e2 : (cs.toList.take k ++ x.cells.toList ++ cs.toList.drop (k + x.cells.toList.length))[j]'(by simp at hj ⊢; omega) = cs[j]'(by omega) := by
      rw [List.getElem_append_right (by simp; omega)]
      simp only [List.getElem_drop, Array.getElem_toList]
      congr 1; simp; omega
     rw [e1, e2, ← getD_arr]
     exact (hcs j (by omega)).2
end
def moveV (off : Nat) : V → Option V
 | .ptr i k => some (.ptr i (k + off))
 | .eptr row k => some (.eptr row (k + off))
 | _ => none
def opField (P : Program) (s : TypeId) (f : Nat) (a : V) : Option V :=
 match tyOf P s with
 | some i => match i.d with
  | .struct fs => match fs[f]? with
   | some (off, sz) => if sz = 0 then none else moveV off a
   | none => none
  | _ => none
 | none => none
def opIdxB (P : Program) (ti : TyI) (x : V) (n : Int) : Option V :=
 match x with
 | .bx b len _ => match ti.d with
  | .slice e => match tyOf P e with
   | some te => if 0 ≤ n ∧ n < (len : Int) then some (.ptr b (n.toNat * te.size)) else none
   | none => none
  | _ => none
 | _ => none
def opIndexAddr (P : Program) (t : TypeId) (x i : V) : Option V :=
 match tyOf P t, toD x, i with
 | some ti, some (.sl rows), .d (.int _ n) => match ti.d with
  | .slice e => match tyOf P e, rows[n.toNat]? with
   | some te, some r => if 0 ≤ n ∧ r.length = te.size then some (.eptr r 0) else none
   | _, _ => none
  | _ => none
 | some ti, none, .d (.int _ n) => opIdxB P ti x n
 | _, _, _ => none
def opLenB (ti : TyI) (x : V) : Option V :=
 match x with
 | .bx _ len _ => match ti.d with
  | .slice _ => some (.d (.int .i64 (len : Int)))
  | _ => none
 | _ => none
def opLen (P : Program) (t : TypeId) (x : V) : Option V :=
 match tyOf P t, toD x with
 | some ti, none => opLenB ti x
 | some ti, some (.sl rows) => match ti.d with
  | .slice _ => some (.d (.int .i64 (rows.length : Int)))
  | _ => none
 | some ti, some (.str s) => match ti.d with
  | .string => some (.d (.int .i64 (s.length : Int)))
  | _ => none
 | _, _ => none
def fillV (place : Nat → Option (Nat × Nat)) (cells : List V) : List (Nat × V) → Option (List V)
 | [] => some cells
 | (i, v) :: rest => match place i, cellsV v with
  | some (off, size), some vs => if vs.length = size ∧ off + size ≤ cells.length then fillV place (cells.take off ++ vs ++ cells.drop (off + size)) rest else none
  | _, _ => none
def opBuild (P : Program) (t : TypeId) (parts : List (Nat × V)) : Option V :=
 match tyOf P t with
 | some i => match i.d with
  | .struct fs => (fillV (fun k => fs[k]?) i.zero parts).map .agg
  | _ => none
 | none => none
def rep : Nat → List V → List V
 | 0, _ => []
 | n + 1, z => z ++ rep n z
def chunk : Nat → Nat → List V → Option (List (List D))
 | 0, _, _ => some []
 | n + 1, s, l => match (l.take s).mapM toD, chunk n s (l.drop s) with
  | some r, some rs => some (r :: rs)
  | _, _ => none
def opBuildSlice (P : Program) (t : TypeId) (len : Nat) (parts : List (Nat × V)) : Option V :=
 match tyOf P t with
 | some i => match i.d with
  | .slice e => match tyOf P e with
   | some te => if 0 < te.size ∧ len * te.size ≤ 16777216 then
    match fillV (fun k => some (k * te.size, te.size)) (rep len te.zero) parts with
    | some flat => (chunk len te.size flat).map fun rows => .sl rows .full
    | none => none
    else none
   | none => none
  | _ => none
 | none => none
section
variable {P : Program} {c : Cx} {w : World} {S : Mem}
theorem tdOf_struct {d : TypeDesc} {fs : List (Nat × Nat)} (h : tdOf P d = .struct fs) : ∃ Fs : Array Field, d = .struct Fs ∧ (∀ f ∈ Fs.toList, ∃ i, P.info? f.type = some i) ∧ fs = Fs.toList.map fun f => (f.offset, sizeAt P f.type) := by
 cases d <;> simp only [tdOf] at h <;> try cases h
 rename_i Fs
 split at h
 ·rename_i hall
  refine ⟨Fs, rfl, fun f hf => ?_, (TD.struct.inj h).symm⟩
  rw [List.all_eq_true] at hall
  exact Option.isSome_iff_exists.1 (hall f hf)
 ·cases h
theorem tdOf_slice {d : TypeDesc} {e : Nat} (h : tdOf P d = .slice e) : d = .slice e := by
 cases d <;> simp only [tdOf] at h <;> try cases h
 ·rfl
 ·split at h <;> cases h
theorem tdOf_array {d : TypeDesc} {n e : Nat} (h : tdOf P d = .array n e) : d = .array n e := by
 cases d <;> simp only [tdOf] at h <;> try cases h
 all_goals first
  | rfl
  | (split at h <;> cases h)
theorem tdOf_pointer {d : TypeDesc} (h : tdOf P d = .pointer) : ∃ e, d = .pointer e := by
 cases d <;> simp only [tdOf] at h <;> try cases h
 all_goals first
  | exact ⟨_, rfl⟩
  | (split at h <;> cases h)
theorem tdOf_string {d : TypeDesc} (h : tdOf P d = .string) : d = .string := by
 cases d <;> simp only [tdOf] at h <;> try cases h
 ·rfl
 ·split at h <;> cases h
theorem tdOf_int {d : TypeDesc} {k : IntKind} (h : tdOf P d = .int k) : d = .int k := by
 cases d <;> simp only [tdOf] at h <;> try cases h
 ·rfl
 ·split at h <;> cases h
theorem tdOf_bool {d : TypeDesc} (h : tdOf P d = .bool) : d = .bool := by
 cases d <;> simp only [tdOf] at h <;> try cases h
 ·rfl
 ·split at h <;> cases h
theorem move_ok {off : Nat} {a v : V} {x : Value} (ha : VR c w a x) (hv : moveV off a = some v) : ∃ g o, x = .pointer (some ⟨g, o, none⟩) ∧ VR c w v (.pointer (some ⟨g, o + off, none⟩)) := by
 cases ha with
 | ptr i k b hi hT =>
  obtain rfl := Option.some.inj hv
  exact ⟨b, k, rfl, .ptr i _ b hi hT⟩
 | eptr row k g o f hc =>
  obtain rfl := Option.some.inj hv
  refine ⟨g, o + k, rfl, ?_⟩
  rw [Nat.add_assoc]
  exact .eptr row _ g o f hc
 | _ => cases hv
theorem field_ok {s : TypeId} {f : Nat} {a v : V} {x : Value} (ha : VR c w a x) (hv : opField P s f a = some v) : ∃ y, (Instr.fieldAt s x f).run P w = .ok y w ∧ VR c w v y := by
 unfold opField at hv
 split at hv
 case h_2 => cases hv
 rename_i i hi
 obtain ⟨fi, d, z, h1, h2, h3, h4, h5, h6, h7, h8, h9, h10⟩ := tyOf_info hi
 split at hv
 case h_2 => cases hv
 rename_i fs hfs
 rw [hfs] at h6
 obtain ⟨Fs, rfl, hall, rfl⟩ := tdOf_struct h6
 split at hv
 case h_2 => cases hv
 rename_i off sz hf
 rw [List.getElem?_map] at hf
 obtain ⟨F, hF, he⟩ := Option.map_eq_some_iff.1 hf
 obtain ⟨fi2, hfi2⟩ := hall F (List.mem_of_getElem? hF)
 obtain ⟨rfl, rfl⟩ := Prod.mk.inj he
 have hsa : sizeAt P F.type = fi2.size := by simp [sizeAt, hfi2]
 by_cases hsz : fi2.size = 0
 ·rw [if_pos (by rw [hsa]; exact hsz)] at hv; cases hv
 rw [if_neg (by rw [hsa]; exact hsz)] at hv
 obtain ⟨g, o, rfl, hr⟩ := move_ok ha hv
 refine ⟨_, ?_, hr⟩
 have hF' : Fs[f]? = some F := by simpa using hF
 simp [Instr.fieldAt, run_underlying h2, hF', Instr.sureAddr, fieldPlace, run_sizeOf hfi2, hsz, Addr.add_plain]
theorem indexAddr_ok {t : TypeId} {x i v : V} {X I : Value} (hx : VR c w x X) (hi : VR c w i I) (hv : opIndexAddr P t x i = some v) : ∃ y, (Instr.indexAt t X I).run P w = .ok y w ∧ VR c w v y := by
 unfold opIndexAddr at hv
 split at hv
 case h_3 => cases hv
 case h_2 =>
  rename_i ti k n ht hd
  unfold opIdxB at hv
  split at hv
  case h_2 => cases hv
  rename_i bb len cap
  split at hv
  case h_2 => cases hv
  rename_i e he
  split at hv
  case h_2 => cases hv
  rename_i te hte
  split at hv
  case isFalse => cases hv
  rename_i hc0
  obtain ⟨hn0, hnl⟩ := hc0
  obtain rfl := Option.some.inj hv
  obtain ⟨fi, d, z, h1, h2, h3, h4, h5, h6, h7, h8, h9, h10⟩ := tyOf_info ht
  obtain ⟨gi, d2, z2, g1, g2, g3, g4, _⟩ := tyOf_info hte
  rw [he] at h6
  obtain rfl := tdOf_slice h6
  cases hi with
  | d _ _ hi => cases hi with
   | int _ _ =>
    cases hx with
    | bx _ _ _ b hb _ _ hT =>
     refine ⟨.pointer (some ⟨b, 0 + n.toNat * te.size, none⟩), ?_, ?_⟩
     ·simp [Instr.indexAt, asIntOf, run_underlying h2, hn0, hnl, run_sizeOf g1, g4, Addr.add_plain]
     ·rw [Nat.zero_add]; exact .ptr _ _ b hb hT
 rename_i ti rows k n ht hd
 split at hv
 case h_2 => cases hv
 rename_i e he
 split at hv
 case h_2 => cases hv
 rename_i te r hte hr
 split at hv
 case isFalse => cases hv
 rename_i hc0
 obtain ⟨hn0, hrl⟩ := hc0
 obtain rfl := Option.some.inj hv
 obtain ⟨fi, d, z, h1, h2, h3, h4, h5, h6, h7, h8, h9, h10⟩ := tyOf_info ht
 obtain ⟨gi, d2, z2, g1, g2, g3, g4, _⟩ := tyOf_info hte
 rw [he] at h6
 obtain rfl := tdOf_slice h6
 cases hi with
 | d _ _ hi => cases hi with
  | int _ _ =>
   have hD := VR_toD hx hd
   obtain ⟨hlt, rfl⟩ := List.getElem?_eq_some_iff.1 hr
   cases hD with
   | sl _ sz a cap f hsz hrr hcc hm hs hdd =>
    have esz : sz = te.size := by rw [← hrl]; exact (hrr _ (List.getElem_mem hlt)).symm
    subst esz
    obtain ⟨g, off, rfl, hcl⟩ := hs (by intro h0; rw [h0] at hlt; simp at hlt)
    have hlt' : n < (rows.length : Int) := by omega
    refine ⟨.pointer (some ⟨g, off + n.toNat * te.size + 0, none⟩), ?_, .eptr _ 0 g (off + n.toNat * te.size) (fun q => f n.toNat q) (fun q hq => ⟨(hcl _ hlt q hq).1, (hcl _ hlt q hq).2, hdd _ hlt q hq⟩)⟩
    simp [Instr.indexAt, asIntOf, run_underlying h2, hn0, hlt', run_sizeOf g1, g4, Addr.add_plain]
theorem len_ok {t ty : TypeId} {x v : V} {X : Value} (hx : VR c w x X) (hv : opLen P t x = some v) : ∃ y, (Builtin.len_ #[t] ty #[X]).run P w = .ok y w ∧ VR c w v y := by
 unfold opLen at hv
 split at hv
 case h_4 => cases hv
 ·rename_i ti ht hd
  unfold opLenB at hv
  split at hv
  case h_2 => cases hv
  rename_i bb len cap
  split at hv
  case h_2 => cases hv
  rename_i e he
  obtain rfl := Option.some.inj hv
  obtain ⟨fi, d, z, h1, h2, h3, h4, h5, h6, _⟩ := tyOf_info ht
  rw [he] at h6
  obtain rfl := tdOf_slice h6
  cases hx with
  | bx _ _ _ b hb _ _ hT =>
   refine ⟨.int .i64 len, ?_, .d _ _ (.int _ _)⟩
   simp [Builtin.len_, run_underlying h2, goInt]
 ·rename_i ti rows ht hd
  split at hv
  case h_2 => cases hv
  rename_i e he
  obtain rfl := Option.some.inj hv
  obtain ⟨fi, d, z, h1, h2, h3, h4, h5, h6, _⟩ := tyOf_info ht
  rw [he] at h6
  obtain rfl := tdOf_slice h6
  have hD := VR_toD hx hd
  cases hD with
  | sl _ sz a cap f hsz hrr hcc hm hs hdd =>
   refine ⟨.int .i64 rows.length, ?_, .d _ _ (.int _ _)⟩
   simp [Builtin.len_, run_underlying h2, goInt]
 ·rename_i ti s ht hd
  split at hv
  case h_2 => cases hv
  rename_i he
  obtain rfl := Option.some.inj hv
  obtain ⟨fi, d, z, h1, h2, h3, h4, h5, h6, _⟩ := tyOf_info ht
  rw [he] at h6
  obtain rfl := tdOf_string h6
  have hD := VR_toD hx hd
  cases hD with
  | str _ hl =>
   refine ⟨.int .i64 s.length, ?_, .d _ _ (.int _ _)⟩
   exact run_len_string w t ty ⟨s.toArray⟩ h2
def CellsR (c : Cx) (w : World) (vs : List V) (cs : Array Value) : Prop := cs.size = vs.length ∧ ∀ (j : Nat) (v : V), vs[j]? = some v → ∃ x, cs[j]? = some x ∧ VR c w v x ∧ x.oneCell' = true
theorem CellsR.agg {vs : List V} {cs : Array Value} (h : CellsR c w vs cs) : VR c w (.agg vs) (.agg cs) := by
 refine .agg vs cs h.1 (fun j hj => ?_) (fun j hj => ?_)
 ·obtain ⟨x, hx, hv, _⟩ := h.2 j vs[j] (List.getElem?_eq_getElem hj)
  rw [show cs.getD j undef = x by simp [Array.getD_eq_getD_getElem?, hx]]
  exact hv
 ·obtain ⟨x, hx, _, ho⟩ := h.2 j vs[j] (List.getElem?_eq_getElem hj)
  rw [show cs.getD j undef = x by simp [Array.getD_eq_getD_getElem?, hx]]
  exact ho
theorem CellsR.of {v : V} {x : Value} (h : VR c w v x) {vs : List V} (hv : cellsV v = some vs) : CellsR c w vs x.cells := by
 obtain ⟨h1, h2⟩ := VR_cells h hv
 refine ⟨h1, fun j u hu => ?_⟩
 obtain ⟨hj, rfl⟩ := List.getElem?_eq_some_iff.1 hu
 refine ⟨x.cells[j]'(by omega), by simp, ?_⟩
 have := h2 j hj
 rw [getD_arr (by omega)] at this
 exact this
theorem setAll (off : Nat) : ∀ (l : List Value) (s : Nat) (cs : Array Value), off + s + l.length ≤ cs.size →
 ((l.zipIdx s).foldl (fun cs (p : Value × Nat) => cs.setIfInBounds (off + p.2) p.1) cs).size = cs.size ∧ ∀ k, ((l.zipIdx s).foldl (fun cs (p : Value × Nat) => cs.setIfInBounds (off + p.2) p.1) cs)[k]? = if off + s ≤ k ∧ k < off + s + l.length then l[k - (off + s)]? else cs[k]?
 | [], s, cs, _ => ⟨rfl, fun k => by simp; intro h1 h2; omega⟩
 | x :: l, s, cs, h => by
  have ih := setAll off l (s + 1) (cs.setIfInBounds (off + s) x) (by simp at h ⊢; omega)
  simp only [List.zipIdx_cons, List.foldl_cons]
  refine ⟨by rw [ih.1]; simp, fun k => ?_⟩
  rw [ih.2 k]
  simp only [List.length_cons] at h ⊢
  by_cases h1 : off + (s + 1) ≤ k ∧ k < off + (s + 1) + l.length
  ·rw [if_pos h1, if_pos (by omega), show k - (off + s) = (k - (off + (s + 1))) + 1 by omega]
   simp
  ·rw [if_neg h1]
   by_cases h2 : k = off + s
   ·subst h2
    rw [if_pos (by omega), Nat.sub_self]
    rw [Array.getElem?_setIfInBounds_self_of_lt (by omega)]
    rfl
   ·rw [if_neg (by omega)]
    rw [Array.getElem?_setIfInBounds, if_neg (by omega)]
theorem fill_ok (place : Nat → Option (Nat × Nat)) : ∀ (parts : List (Nat × V)) (ps : List (Nat × Value)) (vs : List V) (cs : Array Value) (us : List V), CellsR c w vs cs → ps.length = parts.length → (∀ (j i : Nat) (v : V), parts[j]? = some (i, v) → ∃ x, ps[j]? = some (i, x) ∧ VR c w v x) → fillV place vs parts = some us → ∃ ds, Instr.fill place cs ps = some ds ∧ CellsR c w us ds
 | [], ps, vs, cs, us, hc, hl, _, hf => by
  have : ps = [] := List.eq_nil_of_length_eq_zero hl
  subst this
  obtain rfl := Option.some.inj hf
  exact ⟨cs, rfl, hc⟩
 | (i, v) :: parts, ps, vs, cs, us, hc, hl, hr, hf => by
  cases ps with
  | nil => cases hl
  | cons p ps =>
   obtain ⟨x, hp, hx⟩ := hr 0 i v rfl
   obtain rfl := Option.some.inj hp
   simp only [fillV] at hf
   split at hf
   case h_2 => cases hf
   rename_i off size ys hpl hcv
   split at hf
   case isFalse => cases hf
   rename_i hcond
   obtain ⟨rfl, hle⟩ := hcond
   have hxc := CellsR.of hx hcv
   obtain ⟨s1, s2⟩ := setAll off x.cells.toList 0 cs (by simp [hxc.1]; rw [hc.1]; exact hle)
   have hnew : CellsR c w (vs.take off ++ ys ++ vs.drop (off + ys.length)) ((x.cells.toList.zipIdx 0).foldl (fun cs (p : Value × Nat) => cs.setIfInBounds (off + p.2) p.1) cs) := by
    refine ⟨by rw [s1, hc.1]; simp; omega, fun j u hu => ?_⟩
    rw [s2 j]
    simp only [Nat.add_zero, Array.length_toList, hxc.1]
    by_cases hin : off ≤ j ∧ j < off + ys.length
    ·rw [if_pos hin]
     rw [List.append_assoc, List.getElem?_append_right (by simp; omega), List.getElem?_append_left (by simp; omega)] at hu
     have e : j - (vs.take off).length = j - off := by simp; omega
     rw [e] at hu
     obtain ⟨y, h1, h2⟩ := hxc.2 _ _ hu
     exact ⟨y, by simpa using h1, h2⟩
    ·rw [if_neg hin]
     rcases Nat.lt_or_ge j off with h1 | h1
     ·rw [List.append_assoc, List.getElem?_append_left (by simp; omega), List.getElem?_take, if_pos h1] at hu
      exact hc.2 _ _ hu
     ·rw [List.getElem?_append_right (by simp; omega), List.getElem?_drop] at hu
      have e : off + ys.length + (j - (vs.take off ++ ys).length) = j := by simp; omega
      rw [e] at hu
      exact hc.2 _ _ hu
   have ih := fill_ok place parts ps _ _ us hnew (by simpa using hl) (fun j i v hj => by
    obtain ⟨x, h1, h2⟩ := hr (j + 1) i v hj
    exact ⟨x, h1, h2⟩) hf
   obtain ⟨ds, h1, h2⟩ := ih
   refine ⟨ds, ?_, h2⟩
   simp only [Instr.fill, hpl]
   rw [if_neg (by simp [hxc.1]; rw [hc.1]; omega)]
   rw [← Array.foldl_toList, Array.toList_zipIdx]
   exact h1
theorem zero_cells {t : TypeId} {i : TyI} (h : tyOf P t = some i) : ∃ (f : TypeInfo) (z : Value), P.info? t = some f ∧ f.zero = some z ∧ CellsR c w i.zero z.cells := by
 obtain ⟨f, d, z, h1, h2, h3, h4, h5, h6, h7, h8, h9, h10⟩ := tyOf_info h
 refine ⟨f, z, h1, h3, by rw [h9]; simp, fun j v hv => ?_⟩
 rw [h9, List.getElem?_map] at hv
 obtain ⟨x, hx, rfl⟩ := Option.map_eq_some_iff.1 hv
 exact ⟨x, by simpa using hx, VR_ofVal1 c w x, h10 x (List.mem_of_getElem? hx)⟩
theorem run_places : ∀ (l : List Field), (∀ f ∈ l, ∃ i, P.info? f.type = some i) → ∀ w : World, (l.mapM (fun f => Prod.mk f.offset <$> sizeOf f.type) : Sem (List (Nat × Nat))).run P w = .ok (l.map fun f => (f.offset, sizeAt P f.type)) w
 | [], _, w => by simp
 | f :: l, h, w => by
  obtain ⟨i, hi⟩ := h f (by simp)
  have ih := run_places l (fun g hg => h g (by simp [hg])) w
  have hs : sizeAt P f.type = i.size := by simp [sizeAt, hi]
  simp [List.mapM_cons, run_sizeOf hi, ih, hs]
theorem build_ok {t : TypeId} {parts : List (Nat × V)} {ps : Array (Nat × Value)} (hl : ps.size = parts.length) (hr : ∀ (j i : Nat) (v : V), parts[j]? = some (i, v) → ∃ x, ps[j]? = some (i, x) ∧ VR c w v x) {v : V} (hv : opBuild P t parts = some v) : ∃ y, (Instr.build t ps).run P w = .ok y w ∧ VR c w v y := by
 unfold opBuild at hv
 split at hv
 case h_2 => cases hv
 rename_i i hi
 split at hv
 case h_2 => cases hv
 rename_i fs hfs
 obtain ⟨us, hf, rfl⟩ := Option.map_eq_some_iff.1 hv
 obtain ⟨f, d, z, h1, h2, h3, h4, h5, h6, h7, h8, h9, h10⟩ := tyOf_info hi
 obtain ⟨f', z', k1, k2, hz⟩ := zero_cells (c := c) (w := w) hi
 rw [h1] at k1
 obtain rfl := Option.some.inj k1
 rw [h3] at k2
 obtain rfl := Option.some.inj k2
 rw [hfs] at h6
 obtain ⟨Fs, rfl, hall, rfl⟩ := tdOf_struct h6
 obtain ⟨ds, e1, e2⟩ := fill_ok _ parts ps.toList _ _ us hz (by simpa using hl) (fun j i v hj => by
  obtain ⟨x, h1, h2⟩ := hr j i v hj
  exact ⟨x, by simpa using h1, h2⟩) hf
 refine ⟨.agg ds, ?_, e2.agg⟩
 have hp := run_places (P := P) Fs.toList hall w
 simp [Instr.build, zeroValue, typeInfo, h1, h3, run_underlying h2]
 rw [Array.mapM_eq_mapM_toList]
 simp [hp]
 have e1' : Instr.fill (fun x => Option.map (fun f => (f.offset, sizeAt P f.type)) Fs[x]?) z.cells ps.toList = some ds := by
  rw [← e1]
  congr 1
  funext x
  simp
 rw [e1']
 rfl
theorem mapM_toD : ∀ (l : List V) (r : List D), l.mapM toD = some r → r.length = l.length ∧ ∀ (q : Nat) (d : D), r[q]? = some d → ∃ v, l[q]? = some v ∧ toD v = some d
 | [], r, h => by
  have : r = [] := by simpa using h.symm
  subst this
  exact ⟨rfl, fun q d h => by simp at h⟩
 | v :: l, r, h => by
  rw [List.mapM_cons] at h
  cases hv : toD v with
  | none => simp [hv] at h
  | some d0 =>
   cases hl : l.mapM toD with
   | none => simp [hv, hl] at h
   | some r0 =>
    have hr : d0 :: r0 = r := by simpa [hv, hl] using h
    subst hr
    obtain ⟨h1, h2⟩ := mapM_toD l r0 hl
    refine ⟨by simp [h1], fun q d hq => ?_⟩
    cases q with
    | zero => exact ⟨v, rfl, by rw [hv]; simpa using hq⟩
    | succ q => exact h2 q d (by simpa using hq)
theorem chunk_ok : ∀ (n s : Nat) (l : List V) (rows : List (List D)), chunk n s l = some rows → l.length = n * s → rows.length = n ∧ (∀ r ∈ rows, r.length = s) ∧ ∀ (j q : Nat) (r : List D) (d : D), rows[j]? = some r → r[q]? = some d → ∃ v, l[j * s + q]? = some v ∧ toD v = some d
 | 0, s, l, rows, h, hl => by
  obtain rfl := Option.some.inj h
  exact ⟨rfl, by simp, fun j q r d h => by simp at h⟩
 | n + 1, s, l, rows, h, hl => by
  simp only [chunk] at h
  split at h
  case h_2 => cases h
  rename_i r rs h1 h2
  obtain rfl := Option.some.inj h
  obtain ⟨a1, a2⟩ := mapM_toD _ _ h1
  have hl' : (l.drop s).length = n * s := by rw [List.length_drop, hl, Nat.add_mul]; omega
  obtain ⟨b1, b2, b3⟩ := chunk_ok n s _ rs h2 hl'
  have hs : s ≤ l.length := by rw [hl, Nat.add_mul]; omega
  have hr : r.length = s := by rw [a1]; simp; omega
  refine ⟨by simp [b1], fun x hx => ?_, fun j q x d hj hq => ?_⟩
  ·rcases List.mem_cons.1 hx with rfl | hx
   ·exact hr
   ·exact b2 x hx
  ·cases j with
   | zero =>
    have : r = x := by simpa using hj
    subst this
    obtain ⟨v, h3, h4⟩ := a2 q d hq
    refine ⟨v, ?_, h4⟩
    rw [Nat.zero_mul, Nat.zero_add]
    rw [List.getElem?_take] at h3
    split at h3
    ·exact h3
    ·cases h3
   | succ j =>
    obtain ⟨v, h3, h4⟩ := b3 j q x d (by simpa using hj) hq
    refine ⟨v, ?_, h4⟩
    rw [List.getElem?_drop] at h3
    rw [Nat.add_mul, Nat.one_mul, show j * s + s + q = s + (j * s + q) by omega]
    exact h3
theorem rep_ok (z : List V) (zc : Array Value) (hz : CellsR c w z zc) : ∀ n, CellsR c w (rep n z) ((Array.range (n * z.length)).map (zc[· % zc.size]!)) := by
 have hlen : ∀ n, (rep n z).length = n * z.length := by
  intro n
  induction n with
  | zero => simp [rep]
  | succ n ih => simp [rep, ih, Nat.add_mul]; omega
 have hget : ∀ n (j : Nat) (v : V), (rep n z)[j]? = some v → z[j % z.length]? = some v := by
  intro n
  induction n with
  | zero => intro j v h; simp [rep] at h
  | succ n ih =>
   intro j v h
   simp only [rep] at h
   rcases Nat.lt_or_ge j z.length with h1 | h1
   ·rw [List.getElem?_append_left h1] at h
    rw [Nat.mod_eq_of_lt h1]; exact h
   ·rw [List.getElem?_append_right h1] at h
    have := ih _ _ h
    rw [Nat.mod_eq_sub_mod h1]; exact this
 intro n
 refine ⟨by simp [hlen], fun j v hv => ?_⟩
 have hj : j < n * z.length := by rw [← hlen]; exact (List.getElem?_eq_some_iff.1 hv).1
 obtain ⟨x, hx, h2⟩ := hz.2 _ _ (hget n j v hv)
 refine ⟨x, ?_, h2⟩
 obtain ⟨hlt, hxe⟩ := Array.getElem?_eq_some_iff.1 hx
 rw [Array.getElem?_map]
 rw [Array.getElem?_range, if_pos hj]
 simp only [Option.map_some, hz.1]
 rw [getElem!_pos zc (j % z.length) hlt, hxe]
theorem new_rows (h : Rep c w S) (rows : List (List D)) (sz : Nat) (h0 : 0 < sz) (hr : ∀ r ∈ rows, r.length = sz) (hmax : rows.length ≤ 9223372036854775807) (e : TypeId) (cs : Array Value)
 (hd : ∀ (j q : Nat) (r : List D) (d : D), rows[j]? = some r → r[q]? = some d → ∃ x, cs[j * sz + q]? = some x ∧ DR c.M w d x) :
 Rep c (w.alloc (.cells cs e)) S ∧ Ext c w c (w.alloc (.cells cs e)) ∧ VR c (w.alloc (.cells cs e)) (.sl rows .full) (.slice (some ⟨w.heap.size, 0, none⟩) rows.length rows.length) := by
 obtain ⟨h1, h2⟩ := h.junk (.cells cs e)
 refine ⟨h1, h2, .full rows _ ?_ (fun p hp => by obtain rfl := Option.some.inj hp; exact ⟨rfl, h.hB.2⟩)⟩
 have hcell : ∀ k, (w.alloc (.cells cs e)).cell? ⟨w.heap.size, k, none⟩ = cs[k]? := by
  intro k
  have hb := heap_alloc_new w (.cells cs e)
  simp only [World.cell?, hb]
  rfl
 refine .sl rows sz _ rows.length (fun j q => cs.getD (j * sz + q) undef) h0 hr (Nat.le_refl _) hmax (fun _ => ⟨w.heap.size, 0, rfl, fun j hj q hq => ⟨h.notM_new (Nat.le_refl _), ?_⟩⟩) (fun j hj q hq => ?_)
 ·obtain ⟨x, hx, _⟩ := hd j q _ _ (List.getElem?_eq_getElem hj) (List.getElem?_eq_getElem hq)
  rw [Nat.zero_add, hcell, hx]
  simp [Array.getD_eq_getD_getElem?, hx]
 ·obtain ⟨x, hx, hdr⟩ := hd j q _ _ (List.getElem?_eq_getElem hj) (List.getElem?_eq_getElem hq)
  rw [show cs.getD (j * sz + q) undef = x by simp [Array.getD_eq_getD_getElem?, hx]]
  exact hdr.keep h2.keeps
theorem buildSlice_ok (h : Rep c w S) {t : TypeId} {len : Nat} {parts : List (Nat × V)} {ps : Array (Nat × Value)} (hl : ps.size = parts.length) (hr : ∀ (j i : Nat) (v : V), parts[j]? = some (i, v) → ∃ x, ps[j]? = some (i, x) ∧ VR c w v x) {v : V} (hv : opBuildSlice P t len parts = some v) :
 ∃ y w', (Instr.buildSlice t len ps).run P w = .ok y w' ∧ Rep c w' S ∧ Ext c w c w' ∧ VR c w' v y := by
 unfold opBuildSlice at hv
 split at hv
 case h_2 => cases hv
 rename_i i hi
 split at hv
 case h_2 => cases hv
 rename_i e he
 split at hv
 case h_2 => cases hv
 rename_i te hte
 split at hv
 case isFalse => cases hv
 rename_i hcond
 obtain ⟨hs0, hs1⟩ := hcond
 split at hv
 case h_2 => cases hv
 rename_i flat hflat
 obtain ⟨rows, hrows, rfl⟩ := Option.map_eq_some_iff.1 hv
 obtain ⟨fi, d, z, h1, h2, h3, h4, h5, h6, h7, h8, h9, h10⟩ := tyOf_info hi
 rw [he] at h6
 obtain rfl := tdOf_slice h6
 obtain ⟨gi, d2, z2, g1, g2, g3, g4, g5, g6, g7, g8, g9, g10⟩ := tyOf_info hte
 obtain ⟨f', z', k1, k2, hz⟩ := zero_cells (c := c) (w := w) hte
 rw [g1] at k1
 obtain rfl := Option.some.inj k1
 rw [g3] at k2
 obtain rfl := Option.some.inj k2
 have hzl : te.zero.length = te.size := by rw [g9]; simp [g8]
 have hrep := rep_ok (c := c) (w := w) te.zero z2.cells hz len
 rw [hzl] at hrep
 obtain ⟨ds, e1, e2⟩ := fill_ok _ parts ps.toList _ _ flat hrep (by simpa using hl) (fun j i v hj => by
  obtain ⟨x, h1, h2⟩ := hr j i v hj
  exact ⟨x, by simpa using h1, h2⟩) hflat
 have hds : ds.size = flat.length := e2.1
 have hflen : flat.length = len * te.size := by
  have : ∀ (parts : List (Nat × V)) (vs us : List V), fillV (fun k => some (k * te.size, te.size)) vs parts = some us → us.length = vs.length := by
   intro parts
   induction parts with
   | nil => intro vs us h; obtain rfl := Option.some.inj h; rfl
   | cons p parts ih =>
    intro vs us h
    obtain ⟨i, v⟩ := p
    simp only [fillV] at h
    split at h
    case h_2 => cases h
    rename_i off size ys hp hcv
    obtain ⟨rfl, rfl⟩ := Prod.mk.inj (Option.some.inj hp)
    split at h
    case isFalse => cases h
    rename_i hc
    rw [ih _ _ h]
    simp; omega
  rw [this _ _ _ hflat, ← hrep.1]
  simp
 obtain ⟨b1, b2, b3⟩ := chunk_ok len te.size flat rows hrows hflen
 have hnew := new_rows h rows te.size hs0 b2 (by
  rw [b1]
  have : len ≤ len * te.size := Nat.le_mul_of_pos_right _ hs0
  omega) e ds (fun j q r d hj hq => by
  obtain ⟨v, h3, h4⟩ := b3 j q r d hj hq
  obtain ⟨x, h5, h6, _⟩ := e2.2 _ _ h3
  exact ⟨x, h5, VR_toD h6 h4⟩)
 refine ⟨_, _, ?_, hnew⟩
 rw [b1]
 have hn0 : ¬ (16777216 < len * te.size) := by omega
 by_cases hlen : len = 0
 ·subst hlen
  have hr0 : ∀ f : Nat → Value, (Array.range 0).map f = #[] := fun f => by simp
  rw [Nat.zero_mul, hr0] at e1
  simp [Instr.buildSlice, run_underlying h2, run_sizeOf g1, g4, e1, hr0, newRow]
 ·have hne : ¬ (len * te.size = 0) := by
   have := Nat.mul_pos (Nat.pos_of_ne_zero hlen) hs0
   omega
  simp [Instr.buildSlice, run_underlying h2, run_sizeOf g1, g4, hn0, hne, zeroValue, typeInfo, g1, g3, newRow, e1]
end
theorem Rep.under {c : Cx} {w w' : World} {S : Mem} (h : Rep c w S) (hb : Below w.heap.size w w') : Rep c w' S ∧ Ext c w c w' := by
 have hk : Keeps c w c w' := ⟨fun g k v hm hv => ⟨hm, by rw [hb.cell (p := ⟨g, k, none⟩) (cell_lt hv)]; exact hv⟩, fun _ _ h => h, fun _ i h => ⟨i, h, rfl, Nat.le_refl _, fun _ => rfl⟩, rfl, fun b _ h => h.of_block (hb.block b h.lt)⟩
 have hbB : Below c.B w w' := hb.mono h.hB.2
 refine ⟨⟨⟨h.hB.1, Nat.le_trans h.hB.2 hb.size⟩, h.len, fun i b hi => ?_, h.inj, h.toks, fun t i ht => ?_, h.disj, fun w2 hw => h.inv w2 (hbB.trans hw)⟩, hk, rfl, rfl, rfl, hbB⟩
 ·obtain ⟨a, o, hh, vs, e1, e2⟩ := h.box i b hi
  exact ⟨a, o, by rw [hb.block b (h.lt hi)]; exact hh, vs, e1, e2.keep hk⟩
 ·obtain ⟨a1, a2, a3, a4, a5⟩ := h.tok t i ht
  refine ⟨a1, a2, a3, a4, fun hn g off ha => ?_⟩
  obtain ⟨b1, b2, cur, T, fz, hh, r⟩ := a5 hn g off ha
  exact ⟨b1, b2, cur, T, fz, by rw [hb.block g (Array.getElem?_eq_some_iff.1 hh).1]; exact hh, r⟩
def rowsSz (sz : Nat) (rows : List (List D)) : Bool := rows.all fun r => r.length == sz
theorem rowsSz_iff {sz : Nat} {rows : List (List D)} (h : rowsSz sz rows = true) : ∀ r ∈ rows, r.length = sz := by
 intro r hr
 have := List.all_eq_true.1 h r hr
 simpa using this
theorem rowsSz_map {α : Type} {sz : Nat} (f : α → List D) (h : ∀ x, (f x).length = sz) (l : List α) : rowsSz sz (l.map f) = true := by
 simp [rowsSz, h]
def bnd (d : Int) : Option V → Option Int
 | none => some d
 | some (.d (.int _ n)) => some n
 | _ => none
def opSlice (P : Program) (t : TypeId) (x : V) (lo hi : Option V) : Option V :=
 match tyOf P t, toD x with
 | some ti, some (.sl rows) => match ti.d, bnd 0 lo, bnd rows.length hi with
  | .slice e, some l, some h => match tyOf P e with
   | some te => if 0 ≤ l ∧ l ≤ h ∧ h ≤ (rows.length : Int) ∧ rowsSz te.size rows = true ∧ 0 < te.size then some (.d (.sl ((rows.drop l.toNat).take (h.toNat - l.toNat)))) else none
   | none => none
  | _, _, _ => none
 | some ti, some (.str s) => match ti.d, bnd 0 lo, bnd s.length hi with
  | .string, some l, some h => if 0 ≤ l ∧ l ≤ h ∧ h ≤ (s.length : Int) then some (.d (.str ((s.drop l.toNat).take (h.toNat - l.toNat)))) else none
  | _, _, _ => none
 | _, _ => none
def opIndex (P : Program) (t : TypeId) (x i : V) : Option V :=
 match tyOf P t, x, i with
 | some ti, .d (.str s), .d (.int _ n) => match ti.d, s[n.toNat]? with
  | .string, some b => if 0 ≤ n then some (.d (.int .u8 (b.toNat : Int))) else none
  | _, _ => none
 | some ti, .agg vs, .d (.int _ n) => match ti.d with
  | .array len e => match tyOf P e with
   | some ei => if 0 ≤ n ∧ n < len then loadV ei vs (n.toNat * ei.size) else none
   | none => none
  | _ => none
 | _, _, _ => none
def binI (op : BinOp) (k k' : IntKind) (a b : Int) : Option V :=
 match op with
 | .shl => if 0 ≤ b then some (.d (.int k (k.wrap (a * 2 ^ (min b.toNat k.bits))))) else none
 | .shr => if 0 ≤ b then some (.d (.int k (a.fdiv (2 ^ (min b.toNat k.bits))))) else none
 | op => if k = k' then match op with
  | .add => some (.d (.int k (k.wrap (a + b))))
  | .sub => some (.d (.int k (k.wrap (a - b))))
  | .mul => some (.d (.int k (k.wrap (a * b))))
  | .quo => if b = 0 then none else some (.d (.int k (k.wrap (a.tdiv b))))
  | .rem => if b = 0 then none else some (.d (.int k (a.tmod b)))
  | .and => some (.d (.int k (k.wrap (BitVec.ofInt k.bits a &&& BitVec.ofInt k.bits b).toNat)))
  | .or => some (.d (.int k (k.wrap (BitVec.ofInt k.bits a ||| BitVec.ofInt k.bits b).toNat)))
  | .xor => some (.d (.int k (k.wrap (BitVec.ofInt k.bits a ^^^ BitVec.ofInt k.bits b).toNat)))
  | .andNot => some (.d (.int k (k.wrap (BitVec.ofInt k.bits a &&& ~~~ BitVec.ofInt k.bits b).toNat)))
  | .eql => some (.d (.bool (decide (a = b))))
  | .neq => some (.d (.bool (!decide (a = b))))
  | .lss => some (.d (.bool (decide (a < b))))
  | .leq => some (.d (.bool (decide (a ≤ b))))
  | .gtr => some (.d (.bool (decide (b < a))))
  | .geq => some (.d (.bool (decide (b ≤ a))))
  | _ => none
  else none
def binS (op : BinOp) (a b : List UInt8) : Option V :=
 match op with
 | .add => if a.length + b.length ≤ 9223372036854775807 then some (.d (.str (a ++ b))) else none
 | .eql => some (.d (.bool (decide (a = b))))
 | .neq => some (.d (.bool (!decide (a = b))))
 | .lss => some (.d (.bool (Op.bytesLess a b)))
 | .leq => some (.d (.bool (Op.bytesLess a b || decide (a = b))))
 | .gtr => some (.d (.bool (!(Op.bytesLess a b || decide (a = b)))))
 | .geq => some (.d (.bool (!Op.bytesLess a b)))
 | _ => none
def ptrEq : V → V → Option Bool
 | .nilp, .nilp => some true
 | .ptr _ _, .nilp => some false
 | .nilp, .ptr _ _ => some false
 | .eptr _ _, .nilp => some false
 | .nilp, .eptr _ _ => some false
 | _, _ => none
def opPtr (P : Program) (op : BinOp) (t : TypeId) (x y : V) : Option V :=
 match tyOf P t with
 | some ti => match ti.d, op, ptrEq x y with
  | .pointer, .eql, some b => some (.d (.bool b))
  | .pointer, .neq, some b => some (.d (.bool (!b)))
  | _, _, _ => none
 | none => none
def opBin (P : Program) (op : BinOp) (t : TypeId) (x y : V) : Option V :=
 match x, y with
 | .d (.int k a), .d (.int k' b) => binI op k k' a b
 | .d (.str a), .d (.str b) => binS op a b
 | .d (.bool a), .d (.bool b) => match tyOf P t with
  | some ti => match ti.d, op with
   | .bool, .eql => some (.d (.bool (a == b)))
   | .bool, .neq => some (.d (.bool (!(a == b))))
   | _, _ => none
  | none => none
 | x, y => opPtr P op t x y
def opUn (op : UnOp) (x : V) : Option V :=
 match op, x with
 | .not, .d (.bool b) => some (.d (.bool (!b)))
 | .neg, .d (.int k n) => some (.d (.int k (k.wrap (0 - n))))
 | _, _ => none
def byteRow (b : UInt8) : List D := [.int .u8 (b.toNat : Int)]
def byteOf : List D → Option UInt8
 | [.int .u8 n] => if 0 ≤ n ∧ n ≤ 255 then some (UInt8.ofNat n.toNat) else none
 | _ => none
def fromBytes (rows : List (List D)) : Option (List UInt8) := rows.mapM byteOf
def convSame (P : Program) (src dst : TypeId) (e : TypeId) (x : V) : Option V :=
 match x with
 | .sl (r :: rows) .full => if src = dst then (match tyOf P e with
  | some te => match te.d with
   | .int .u8 => some (.sl (r :: rows) .full)
   | _ => none
  | none => none) else none
 | _ => none
def opConv (P : Program) (src dst : TypeId) (x : V) : Option V :=
 match tyOf P src, tyOf P dst with
 | some si, some di => match di.d, toD x with
  | .int k, some (.int _ n) => some (.d (.int k (k.wrap n)))
  | .string, some (.str s) => some (.d (.str s))
  | .string, some (.sl rows) => match si.d with
   | .slice e => match tyOf P e with
    | some te => match te.d with
     | .int .u8 => (fromBytes rows).map fun s => .d (.str s)
     | _ => none
    | none => none
   | _ => none
  | .slice e, some (.str s) => match tyOf P e with
   | some te => match te.d with
    | .int .u8 => some (.d (.sl (s.map byteRow)))
    | _ => none
   | none => none
  | .slice e, some (.sl _) => convSame P src dst e x
  | _, _ => none
 | _, _ => none
def newRows (P : Program) (us : TypeId) (te : TyI) (x : V) : Option (List (List D)) :=
 match tyOf P us, toD x with
 | some ui, some (.sl nrows) => match ui.d with
  | .slice _ => some nrows
  | _ => none
 | some ui, some (.str s) => match ui.d, te.d with
  | .string, .int .u8 => if te.size = 1 then some (s.map byteRow) else none
  | _, _ => none
 | _, _ => none
def opAppendT (P : Program) (ts us : TypeId) (S : Mem) (s x : V) : Option (V × Mem) :=
 match tyOf P ts, s with
 | some ti, .sl rows (.own t) => match ti.d with
  | .slice e => match tyOf P e with
   | some te => match S.toks[t]?, newRows P us te x with
    | some (n, sz), some nrows => if n = rows.length ∧ sz = te.size ∧ rowsSz sz nrows = true ∧ (rows.length + nrows.length) * te.bytes ≤ 140737488355328 ∧ 1 ≤ te.bytes then
     some (.sl (rows ++ nrows) (.own t), { S with toks := S.toks.set t (rows.length + nrows.length, sz) }) else none
    | _, _ => none
   | none => none
  | _ => none
 | _, _ => none
def opAppendF (P : Program) (ts us : TypeId) (S : Mem) (rows : List (List D)) (x : V) : Option (V × Mem) :=
 match tyOf P ts with
 | some ti => match ti.d with
  | .slice e => match tyOf P e with
   | some te => if 0 < te.size ∧ rowsSz te.size rows = true then opAppendT P ts us ⟨S.boxes, S.toks ++ [(rows.length, te.size)]⟩ (.sl rows (.own S.toks.length)) x else none
   | none => none
  | _ => none
 | none => none
def opAppend (P : Program) (ts us : TypeId) (S : Mem) (s x : V) : Option (V × Mem) :=
 match s with
 | .sl rows .full => opAppendF P ts us S rows x
 | s => opAppendT P ts us S s x
theorem byteOf_row (b : UInt8) : byteOf (byteRow b) = some b := by
 have : b.toNat < 256 := UInt8.toNat_lt b
 have h : (0 : Int) ≤ (b.toNat : Int) ∧ (b.toNat : Int) ≤ 255 := by omega
 simp only [byteOf, byteRow, if_pos h]
 simp
theorem fromBytes_map : ∀ s : List UInt8, fromBytes (s.map byteRow) = some s
 | [] => rfl
 | b :: s => by
  have ih := fromBytes_map s
  unfold fromBytes at ih ⊢
  rw [List.map_cons, List.mapM_cons, byteOf_row, ih]
  rfl
theorem mapM_byteOf : ∀ (rows : List (List D)) (s : List UInt8), rows.mapM byteOf = some s → rows = s.map byteRow
 | [], s, h => by
  have : s = [] := by simpa using h.symm
  subst this; rfl
 | r :: rows, s, h => by
  rw [List.mapM_cons] at h
  cases hr : byteOf r with
  | none => simp [hr] at h
  | some b =>
   cases hl : rows.mapM byteOf with
   | none => simp [hr, hl] at h
   | some s0 =>
    have : b :: s0 = s := by simpa [hr, hl] using h
    subst this
    rw [List.map_cons, ← mapM_byteOf rows s0 hl]
    congr 1
    unfold byteOf at hr
    split at hr
    ·rename_i n
     split at hr
     ·rename_i hn
      obtain rfl := Option.some.inj hr
      have h2 : (UInt8.ofNat n.toNat).toNat = n.toNat := by simp [UInt8.toNat_ofNat']; omega
      simp only [byteRow, h2]
      rw [Int.toNat_of_nonneg hn.1]
     ·cases hr
    ·cases hr
section
variable {P : Program} {c : Cx} {w : World} {S : Mem}
theorem elem_of {t e : Nat} (h : P.underlying t = some (.slice e)) : P.elem t = e := by simp [Program.elem, h]
theorem bnd_ok {d n : Int} {o : Option V} {O : Option Value} (ho : o.isSome = O.isSome) (hr : ∀ v x, o = some v → O = some x → VR c w v x) (h : bnd d o = some n) : (O = none ∧ n = d) ∨ ∃ k, O = some (.int k n) := by
 cases o with
 | none =>
  cases O with
  | none => exact .inl ⟨rfl, (Option.some.inj h).symm⟩
  | some x => cases ho
 | some v =>
  cases O with
  | none => cases ho
  | some x =>
   have := hr v x rfl rfl
   cases this with
   | d y _ hd =>
    cases hd with
    | int k m =>
     obtain rfl := Option.some.inj h
     exact .inr ⟨k, rfl⟩
    | _ => cases h
   | _ => cases h
theorem slice_ok {t : TypeId} {x v : V} {X : Value} {lo hi : Option V} {LO HI : Option Value} (hx : VR c w x X) (hlo : lo.isSome = LO.isSome) (hlo' : ∀ v x, lo = some v → LO = some x → VR c w v x) (hhi : hi.isSome = HI.isSome) (hhi' : ∀ v x, hi = some v → HI = some x → VR c w v x)
 (hv : opSlice P t x lo hi = some v) : ∃ y, (Instr.sliceAt t X LO HI none).run P w = .ok y w ∧ VR c w v y := by
 unfold opSlice at hv
 split at hv
 case h_3 => cases hv
 ·rename_i ti rows ht hd
  split at hv
  case h_2 => cases hv
  rename_i e l h he hl hh
  split at hv
  case h_2 => cases hv
  rename_i te hte
  split at hv
  case isFalse => cases hv
  rename_i hcond
  obtain ⟨c0, c1, c2, c3, c4⟩ := hcond
  obtain rfl := Option.some.inj hv
  obtain ⟨fi, d, z, h1, h2, h3, h4, h5, h6, _⟩ := tyOf_info ht
  obtain ⟨gi, d2, z2, g1, g2, g3, g4, _⟩ := tyOf_info hte
  rw [he] at h6
  obtain rfl := tdOf_slice h6
  have hel := elem_of h2
  have h2' : P.underlying t = some (.slice (P.elem t)) := by rw [hel]; exact h2
  have hD := VR_toD hx hd
  have hsz := rowsSz_iff c3
  cases hD with
  | sl _ sz a cap f hs0 hrr hcc hm hs hdd =>
   have hrun : (Instr.sliceAt t (.slice a rows.length cap) LO HI none).run P w = .ok (sliced a l.toNat h.toNat cap te.size) w := by
    rw [run_sliceAt_slice w t _ _ _ _ h2']
    have hss : (sizeOf (P.elem t)).run P w = .ok te.size w := by rw [hel, run_sizeOf g1, g4]
    rcases bnd_ok hlo hlo' hl with ⟨rfl, rfl⟩ | ⟨kl, rfl⟩ <;> rcases bnd_ok hhi hhi' hh with ⟨rfl, rfl⟩ | ⟨kh, rfl⟩
    ·rw [run_slice_all w t a _ cap h2', hss]; simp
    ·rw [run_slice_h w t a _ cap h2' kh h (by omega) (by omega), hss]; simp
    ·rw [run_slice_l w t a _ cap h2' kl l c0 c1, hss]; simp
    ·rw [run_slice_lh w t a _ cap h2' kl kh l h c0 c1 (by omega), hss]; simp
   refine ⟨_, hrun, .d _ _ ?_⟩
   have hlen : ((rows.drop l.toNat).take (h.toNat - l.toNat)).length = h.toNat - l.toNat := by simp; omega
   have hget : ∀ j (hj : j < ((rows.drop l.toNat).take (h.toNat - l.toNat)).length), ((rows.drop l.toNat).take (h.toNat - l.toNat))[j] = rows[l.toNat + j]'(by rw [hlen] at hj; omega) := by
    intro j hj
    simp
   suffices key : DR c.M w (.sl ((rows.drop l.toNat).take (h.toNat - l.toNat))) (.slice (if cap = l.toNat then a else a.map (·.add (l.toNat * te.size))) ((rows.drop l.toNat).take (h.toNat - l.toNat)).length (cap - l.toNat)) by
    rw [hlen] at key; exact key
   refine DR.sl _ sz _ (cap - l.toNat) (fun j q => f (l.toNat + j) q) hs0 (fun r hr => hrr r (List.mem_of_mem_drop (List.mem_of_mem_take hr))) (by rw [hlen]; omega) (by omega) (fun hne => ?_) (fun j hj q hq => ?_)
   ·have hlt : l.toNat < h.toNat := by
     have := List.length_pos_iff.2 hne
     omega
    have hne2 : rows ≠ [] := by
     rintro rfl
     simp at c2; omega
    obtain ⟨g, off, rfl, hcl⟩ := hs hne2
    have esz : sz = te.size := by
     obtain ⟨r, rest, rfl⟩ := List.exists_cons_of_ne_nil hne2
     rw [← hrr r (by simp), hsz r (by simp)]
    subst esz
    rw [if_neg (by omega)]
    refine ⟨g, off + l.toNat * te.size, by simp [Addr.add_plain], fun j hj q hq => ?_⟩
    have hj' : l.toNat + j < rows.length := by rw [hlen] at hj; omega
    have := hcl (l.toNat + j) hj' q (by rw [hget j hj] at hq; exact hq)
    rw [Nat.add_mul, ← Nat.add_assoc] at this
    exact this
   ·have hj' : l.toNat + j < rows.length := by rw [hlen] at hj; omega
    have := hdd (l.toNat + j) hj' q (by rw [hget j hj] at hq; exact hq)
    simp only [hget j hj]
    exact this
 ·rename_i ti s ht hd
  split at hv
  case h_2 => cases hv
  rename_i l h he hl hh
  split at hv
  case isFalse => cases hv
  rename_i hcond
  obtain ⟨c0, c1, c2⟩ := hcond
  obtain rfl := Option.some.inj hv
  obtain ⟨fi, d, z, h1, h2, h3, h4, h5, h6, _⟩ := tyOf_info ht
  rw [he] at h6
  obtain rfl := tdOf_string h6
  have hD := VR_toD hx hd
  cases hD with
  | str _ hmax =>
   have hsize : (ByteArray.mk s.toArray).size = s.length := by simp [ByteArray.size_mk']
   have hrun : (Instr.sliceAt t (.string ⟨s.toArray⟩) LO HI none).run P w = .ok (.string ((ByteArray.mk s.toArray).extract l.toNat h.toNat)) w := by
    rw [run_sliceAt_string w t _ _ _ _ h2]
    rcases bnd_ok hlo hlo' hl with ⟨rfl, rfl⟩ | ⟨kl, rfl⟩ <;> rcases bnd_ok hhi hhi' hh with ⟨rfl, rfl⟩ | ⟨kh, rfl⟩
    ·have := run_slice_string_all (P := P) w t ⟨s.toArray⟩ h2
     rw [this, hsize, ByteArray.extract_mk, ByteArray.extract_mk]; simp
    ·have := run_slice_string_h (P := P) w t ⟨s.toArray⟩ h2 kh h (by omega) (by rw [hsize]; omega)
     rw [this]; simp
    ·have := run_slice_string_l (P := P) w t ⟨s.toArray⟩ h2 kl l c0 (by rw [hsize]; omega)
     rw [this, hsize]; simp
    ·exact run_slice_string w t ⟨s.toArray⟩ kl kh l h h2 c0 c1 (by rw [hsize]; omega)
   refine ⟨_, hrun, .d _ _ ?_⟩
   rw [ByteArray.extract_mk]
   exact .str _ (by simp; omega)
theorem index_arr_ok {t : TypeId} {vs : List V} {k : IntKind} {n : Int} {ti : TyI} {v : V} {X I : Value} (hx : VR c w (.agg vs) X) (hi : VR c w (.d (.int k n)) I) (ht : tyOf P t = some ti) (hv : (match ti.d with
 | .array len e => match tyOf P e with
  | some ei => if 0 ≤ n ∧ n < len then loadV ei vs (n.toNat * ei.size) else none
  | none => none
 | _ => none) = some v) : ∃ y, (Instr.index t X I).run P w = .ok y w ∧ VR c w v y := by
 split at hv
 case h_2 => cases hv
 rename_i len e he
 split at hv
 case h_2 => cases hv
 rename_i ei hei
 split at hv
 case isFalse => cases hv
 rename_i hn
 obtain ⟨fi, d, z, h1, h2, h3, h4, h5, h6, _⟩ := tyOf_info ht
 rw [he] at h6
 obtain rfl := tdOf_array h6
 obtain ⟨fe, de, ze, g1, g2, g3, g4, g5, g6, g7, _⟩ := tyOf_info hei
 cases hi with
 | d _ _ hi =>
 cases hi
 cases hx with
 | agg _ cs q1 q2 q3 =>
 have hrun : (Instr.index t (.agg cs) (.int k n)).run P w = (part e cs (n.toNat * ei.size)).run P w := by
  simp only [Instr.index, asIntOf, Sem.run_bind, Sem.run_pure, Result.andThen_ok, run_underlying h2, if_pos hn, run_sizeOf g1, g4]
 rw [hrun]
 unfold loadV at hv
 unfold part
 rw [Sem.run_bind, run_isAgg g2, g7]
 simp only [Result.andThen_ok]
 cases ha : ei.agg with
 | true =>
  rw [ha, if_pos rfl] at hv
  simp only [if_true]
  split at hv
  case isFalse => cases hv
  rename_i hle
  obtain rfl := Option.some.inj hv
  refine ⟨_, by rw [Sem.run_bind, run_sizeOf g1]; rfl, ?_⟩
  rw [g4]
  refine .agg _ _ (by simp; omega) (fun j hj => ?_) (fun j hj => ?_)
  all_goals
   have hj' : j < ei.size := by simp at hj; omega
   have e1 : (cs.extract (n.toNat * ei.size) (n.toNat * ei.size + ei.size)).getD j undef = cs.getD (n.toNat * ei.size + j) undef := by
    rw [getD_arr (by simp; omega), getD_arr (by omega)]
    simp
   rw [e1]
  ·have e2 : ((vs.drop (n.toNat * ei.size)).take ei.size)[j] = vs[n.toNat * ei.size + j]'(by omega) := by simp
   rw [e2]
   exact q2 _ _
  ·exact q3 _ (by omega)
 | false =>
  rw [ha, if_neg (by decide)] at hv
  simp only [Bool.false_eq_true, if_false]
  obtain ⟨hlt, rfl⟩ := List.getElem?_eq_some_iff.1 hv
  have hlt2 : n.toNat * ei.size < cs.size := by omega
  refine ⟨cs.getD (n.toNat * ei.size) undef, ?_, q2 _ hlt⟩
  rw [Array.getElem?_eq_getElem hlt2, getD_arr hlt2]
  rfl
theorem index_ok {t : TypeId} {x i v : V} {X I : Value} (hx : VR c w x X) (hi : VR c w i I) (hv : opIndex P t x i = some v) : ∃ y, (Instr.index t X I).run P w = .ok y w ∧ VR c w v y := by
 unfold opIndex at hv
 split at hv
 case h_3 => cases hv
 case h_2 ti vs k n ht => exact index_arr_ok hx hi ht hv
 rename_i ti s k n ht
 split at hv
 case h_2 => cases hv
 rename_i b he hb
 split at hv
 case isFalse => cases hv
 rename_i hn
 obtain rfl := Option.some.inj hv
 obtain ⟨fi, d, z, h1, h2, h3, h4, h5, h6, _⟩ := tyOf_info ht
 rw [he] at h6
 obtain rfl := tdOf_string h6
 obtain ⟨hlt, rfl⟩ := List.getElem?_eq_some_iff.1 hb
 cases hx with
 | d _ _ hx =>
  cases hx
  cases hi with
  | d _ _ hi =>
   cases hi
   refine ⟨_, ?_, .d _ _ (.int _ _)⟩
   rw [run_index_string w t _ k n h2, dif_pos ⟨hn, by simp [ByteArray.size_mk']; omega⟩]
   rfl
theorem binI_ok {op : BinOp} {t : TypeId} {k k' : IntKind} {a b : Int} {v : V} (hv : binI op k k' a b = some v) : ∃ z, (binOp op t (.int k a) (.int k' b)).run P w = .ok z w ∧ VR c w v z := by
 cases op <;> simp only [binI] at hv
 case add =>
  split at hv
  case isFalse => cases hv
  rename_i hk
  subst hk
  obtain rfl := Option.some.inj hv
  exact ⟨.int k (k.wrap (a + b)), by simp [binOp, Op.intArith], .d _ _ (.int _ _)⟩
 case sub =>
  split at hv
  case isFalse => cases hv
  rename_i hk
  subst hk
  obtain rfl := Option.some.inj hv
  exact ⟨.int k (k.wrap (a - b)), by simp [binOp, Op.intArith], .d _ _ (.int _ _)⟩
 case mul =>
  split at hv
  case isFalse => cases hv
  rename_i hk
  subst hk
  obtain rfl := Option.some.inj hv
  exact ⟨.int k (k.wrap (a * b)), by simp [binOp, Op.intArith], .d _ _ (.int _ _)⟩
 case quo =>
  split at hv
  case isFalse => cases hv
  rename_i hk
  subst hk
  split at hv
  case isTrue => cases hv
  rename_i hb
  obtain rfl := Option.some.inj hv
  exact ⟨.int k (k.wrap (a.tdiv b)), by simp [binOp, Op.intDiv, hb], .d _ _ (.int _ _)⟩
 case rem =>
  split at hv
  case isFalse => cases hv
  rename_i hk
  subst hk
  split at hv
  case isTrue => cases hv
  rename_i hb
  obtain rfl := Option.some.inj hv
  exact ⟨.int k (a.tmod b), by simp [binOp, Op.intDiv, hb], .d _ _ (.int _ _)⟩
 case and =>
  split at hv
  case isFalse => cases hv
  rename_i hk
  subst hk
  obtain rfl := Option.some.inj hv
  exact ⟨.int k (k.wrap (BitVec.ofInt k.bits a &&& BitVec.ofInt k.bits b).toNat), by simp only [binOp, ne_eq, not_true_eq_false, if_false, Op.intBits, Sem.run_pure], .d _ _ (.int _ _)⟩
 case or =>
  split at hv
  case isFalse => cases hv
  rename_i hk
  subst hk
  obtain rfl := Option.some.inj hv
  exact ⟨.int k (k.wrap (BitVec.ofInt k.bits a ||| BitVec.ofInt k.bits b).toNat), by simp only [binOp, ne_eq, not_true_eq_false, if_false, Op.intBits, Sem.run_pure], .d _ _ (.int _ _)⟩
 case xor =>
  split at hv
  case isFalse => cases hv
  rename_i hk
  subst hk
  obtain rfl := Option.some.inj hv
  exact ⟨.int k (k.wrap (BitVec.ofInt k.bits a ^^^ BitVec.ofInt k.bits b).toNat), by simp only [binOp, ne_eq, not_true_eq_false, if_false, Op.intBits, Sem.run_pure], .d _ _ (.int _ _)⟩
 case andNot =>
  split at hv
  case isFalse => cases hv
  rename_i hk
  subst hk
  obtain rfl := Option.some.inj hv
  exact ⟨.int k (k.wrap (BitVec.ofInt k.bits a &&& ~~~ BitVec.ofInt k.bits b).toNat), by simp only [binOp, ne_eq, not_true_eq_false, if_false, Op.intBits, Sem.run_pure], .d _ _ (.int _ _)⟩
 case eql =>
  split at hv
  case isFalse => cases hv
  rename_i hk
  subst hk
  obtain rfl := Option.some.inj hv
  refine ⟨.bool (decide (a = b)), ?_, .d _ _ (.bool _)⟩
  simp [binOp, Op.intCmp, Bool.beq_eq_decide_eq]
 case neq =>
  split at hv
  case isFalse => cases hv
  rename_i hk
  subst hk
  obtain rfl := Option.some.inj hv
  refine ⟨.bool (!decide (a = b)), ?_, .d _ _ (.bool _)⟩
  simp [binOp, Op.intCmp, bne, Bool.beq_eq_decide_eq]
 case lss =>
  split at hv
  case isFalse => cases hv
  rename_i hk
  subst hk
  obtain rfl := Option.some.inj hv
  refine ⟨.bool (decide (a < b)), ?_, .d _ _ (.bool _)⟩
  simp [binOp, Op.intCmp]
 case leq =>
  split at hv
  case isFalse => cases hv
  rename_i hk
  subst hk
  obtain rfl := Option.some.inj hv
  refine ⟨.bool (decide (a ≤ b)), ?_, .d _ _ (.bool _)⟩
  simp [binOp, Op.intCmp]
 case gtr =>
  split at hv
  case isFalse => cases hv
  rename_i hk
  subst hk
  obtain rfl := Option.some.inj hv
  refine ⟨.bool (decide (b < a)), ?_, .d _ _ (.bool _)⟩
  simp [binOp, Op.intCmp]
 case geq =>
  split at hv
  case isFalse => cases hv
  rename_i hk
  subst hk
  obtain rfl := Option.some.inj hv
  refine ⟨.bool (decide (b ≤ a)), ?_, .d _ _ (.bool _)⟩
  simp [binOp, Op.intCmp]
 case shl =>
  split at hv
  case isFalse => cases hv
  rename_i hb
  obtain rfl := Option.some.inj hv
  have hb' : ¬ b < 0 := by omega
  exact ⟨.int k (k.wrap (a * 2 ^ (min b.toNat k.bits))), by simp [binOp, Op.shift, hb'], .d _ _ (.int _ _)⟩
 case shr =>
  split at hv
  case isFalse => cases hv
  rename_i hb
  obtain rfl := Option.some.inj hv
  have hb' : ¬ b < 0 := by omega
  exact ⟨.int k (a.fdiv (2 ^ (min b.toNat k.bits))), by simp [binOp, Op.shift, hb'], .d _ _ (.int _ _)⟩
 all_goals (split at hv <;> cases hv)
theorem binS_ok {op : BinOp} {a b : List UInt8} {v : V} (hv : binS op a b = some v) : ∃ z, (Op.stringOp op ⟨a.toArray⟩ ⟨b.toArray⟩).run P w = .ok z w ∧ VR c w v z := by
 cases op <;> simp only [binS] at hv
 case add =>
  split at hv
  case isFalse => cases hv
  rename_i hle
  obtain rfl := Option.some.inj hv
  refine ⟨.string ⟨(a ++ b).toArray⟩, ?_, .d _ _ (.str _ (by simp; omega))⟩
  rw [run_string_add_sum w _ _ (by simp [ByteArray.size_mk']; omega), ByteArray.mk_append_mk]
 case eql =>
  obtain rfl := Option.some.inj hv
  refine ⟨.bool (decide (a = b)), ?_, .d _ _ (.bool _)⟩
  simp [Op.stringOp, ByteArray.toList_mk, Bool.beq_eq_decide_eq]
 case neq =>
  obtain rfl := Option.some.inj hv
  refine ⟨.bool (!decide (a = b)), ?_, .d _ _ (.bool _)⟩
  simp [Op.stringOp, ByteArray.toList_mk, Bool.beq_eq_decide_eq]
 case lss =>
  obtain rfl := Option.some.inj hv
  refine ⟨.bool (Op.bytesLess a b), ?_, .d _ _ (.bool _)⟩
  simp [Op.stringOp, ByteArray.toList_mk]
 case leq =>
  obtain rfl := Option.some.inj hv
  refine ⟨.bool (Op.bytesLess a b || decide (a = b)), ?_, .d _ _ (.bool _)⟩
  simp [Op.stringOp, ByteArray.toList_mk, Bool.beq_eq_decide_eq]
 case gtr =>
  obtain rfl := Option.some.inj hv
  refine ⟨.bool (!(Op.bytesLess a b || decide (a = b))), ?_, .d _ _ (.bool _)⟩
  simp [Op.stringOp, ByteArray.toList_mk, Bool.beq_eq_decide_eq]
 case geq =>
  obtain rfl := Option.some.inj hv
  refine ⟨.bool (!Op.bytesLess a b), ?_, .d _ _ (.bool _)⟩
  simp [Op.stringOp, ByteArray.toList_mk]
 all_goals cases hv
theorem run_equalIn_bool (d : Nat) (t : TypeId) (h : P.underlying t = some .bool) (a b : Bool) : (Op.equalIn (d + 1) t (.bool a) (.bool b)).run P w = .ok (a == b) w := by
 simp [Op.equalIn, run_underlying h]
theorem run_equal_bool (t : TypeId) (h : P.underlying t = some .bool) (a b : Bool) : (Op.equal t (.bool a) (.bool b)).run P w = .ok (a == b) w := by
 exact run_equalIn_bool 9999 t h a b
theorem run_equalIn_ptr (n : Nat) (t e : TypeId) (h : P.underlying t = some (.pointer e)) (a b : Option Addr) (hn : a = none ∨ b = none) : (Op.equalIn (n + 1) t (.pointer a) (.pointer b)).run P w = .ok (a.isNone && b.isNone) w := by
 rcases hn with rfl | rfl
 ·cases b <;> simp [Op.equalIn, run_underlying h]
 ·cases a <;> simp [Op.equalIn, run_underlying h]
theorem run_equal_ptr (t e : TypeId) (h : P.underlying t = some (.pointer e)) (a b : Option Addr) (hn : a = none ∨ b = none) : (Op.equal t (.pointer a) (.pointer b)).run P w = .ok (a.isNone && b.isNone) w :=
 run_equalIn_ptr 9999 t e h a b hn
theorem ptrEq_ok {x y : V} {X Y : Value} (hx : VR c w x X) (hy : VR c w y Y) {b : Bool} (h : ptrEq x y = some b) : ∃ p q, X = .pointer p ∧ Y = .pointer q ∧ (p = none ∨ q = none) ∧ b = (p.isNone && q.isNone) := by
 unfold ptrEq at h
 split at h
 case h_6 => cases h
 all_goals
  obtain rfl := Option.some.inj h
  cases hx
  cases hy
  exact ⟨_, _, rfl, rfl, by simp, rfl⟩
theorem bin_ok {op : BinOp} {t : TypeId} {x y v : V} {X Y : Value} (hx : VR c w x X) (hy : VR c w y Y) (hv : opBin P op t x y = some v) (ex ey : Operand) : ∃ z, (do eqGuard op t ex ey X Y; binOp op t X Y : Sem Value).run P w = .ok z w ∧ VR c w v z := by
 unfold opBin at hv
 split at hv
 case h_4 =>
  unfold opPtr at hv
  split at hv
  case h_2 => cases hv
  rename_i ti ht
  obtain ⟨fi, d, z, h1, h2, h3, h4, h5, h6, _⟩ := tyOf_info ht
  split at hv
  case h_3 => cases hv
  all_goals
   rename_i b hd hb
   obtain rfl := Option.some.inj hv
   obtain ⟨p, q, rfl, rfl, hn, rfl⟩ := ptrEq_ok hx hy hb
   rw [hd] at h6
   obtain ⟨e, rfl⟩ := tdOf_pointer h6
   refine ⟨.bool _, ?_, .d _ _ (.bool _)⟩
   have hg : ∀ o, (eqGuard o t ex ey (.pointer p) (.pointer q)).run P w = .ok () w := by
    intro o
    unfold eqGuard
    cases o <;> rfl
   rw [Sem.run_bind, hg]
   simp only [Result.andThen_ok, binOp, Sem.run_bind, run_equal_ptr t e h2 p q hn, Sem.run_pure]
 ·rename_i k a k' b
  cases hx with
  | d _ _ hx => cases hx with
   | int _ _ => cases hy with
    | d _ _ hy => cases hy with
     | int _ _ =>
      have hg : (eqGuard op t ex ey (.int k a) (.int k' b)).run P w = .ok () w := by
       unfold eqGuard
       cases op <;> rfl
      rw [Sem.run_bind, hg]
      exact binI_ok hv
 ·rename_i a b
  cases hx with
  | d _ _ hx => cases hx with
   | str _ ha => cases hy with
    | d _ _ hy => cases hy with
     | str _ hb =>
      have hg : (eqGuard op t ex ey (.string ⟨a.toArray⟩) (.string ⟨b.toArray⟩)).run P w = .ok () w := by
       unfold eqGuard
       cases op <;> rfl
      rw [Sem.run_bind, hg]
      have hbin : binOp op t (.string ⟨a.toArray⟩) (.string ⟨b.toArray⟩) = Op.stringOp op ⟨a.toArray⟩ ⟨b.toArray⟩ := by cases op <;> rfl
      simp only [Result.andThen_ok, hbin]
      exact binS_ok hv
 ·rename_i a b
  cases hx with
  | d _ _ hx => cases hx with
   | bool _ => cases hy with
    | d _ _ hy => cases hy with
     | bool _ =>
      split at hv
      case h_2 => cases hv
      rename_i ti ht
      obtain ⟨fi, d, z, h1, h2, h3, h4, h5, h6, _⟩ := tyOf_info ht
      have hg : (eqGuard op t ex ey (.bool a) (.bool b)).run P w = .ok () w := by
       unfold eqGuard
       cases op <;> rfl
      rw [Sem.run_bind, hg]
      simp only [Result.andThen_ok]
      split at hv
      case h_3 => cases hv
      all_goals
       rename_i he
       rw [he] at h6
       obtain rfl := tdOf_bool h6
       obtain rfl := Option.some.inj hv
       refine ⟨.bool _, ?_, .d _ _ (.bool _)⟩
       simp only [binOp, Sem.run_bind, run_equal_bool t h2, Result.andThen_ok, Sem.run_pure]
theorem un_ok {op : UnOp} {x v : V} {X : Value} (hx : VR c w x X) (hv : opUn op x = some v) : ∃ z, (Op.unary op X).run P w = .ok z w ∧ VR c w v z := by
 unfold opUn at hv
 split at hv
 case h_3 => cases hv
 ·obtain rfl := Option.some.inj hv
  cases hx with
  | d _ _ hx => cases hx with
   | bool b => exact ⟨_, rfl, .d _ _ (.bool _)⟩
 ·obtain rfl := Option.some.inj hv
  cases hx with
  | d _ _ hx => cases hx with
   | int k n => exact ⟨_, rfl, .d _ _ (.int _ _)⟩
end
section
variable {P : Program} {c : Cx} {w : World} {S : Mem}
theorem bytes_rows {M : Nat → Nat → Prop} {w : World} {s : List UInt8} {a : Option Addr} {n cap : Nat} (h : DR M w (.sl (s.map byteRow)) (.slice a n cap)) : n = s.length ∧ (s ≠ [] → ∃ g off, a = some ⟨g, off, none⟩ ∧ ∀ j u, (bv s)[j]? = some u → w.cell? ⟨g, off + j, none⟩ = some u) := by
 obtain ⟨hn, hc, hm, F, hs, hd⟩ := h.flat 1 (by intro r hr; obtain ⟨b, _, rfl⟩ := List.mem_map.1 hr; rfl)
 refine ⟨by simpa using hn, fun hne => ?_⟩
 obtain ⟨_, g, off, ha, hcl⟩ := hs (by simpa using hne)
 refine ⟨g, off, ha, fun j u hu => ?_⟩
 have hj : j < s.length := by
  have := (List.getElem?_eq_some_iff.1 hu).1
  simpa [bv] using this
 have h1 := (hcl j (by simpa using hj)).2
 have h2 := hd j (by simpa using hj) 0 (by simp [byteRow])
 simp only [List.getElem_map, byteRow, List.getElem_cons_zero, Nat.mul_one, Nat.add_zero] at h2
 rw [h1]
 simp only [bv, List.getElem?_map, List.getElem?_eq_getElem hj, Option.map_some, Option.some.injEq] at hu
 subst hu
 generalize F j = y at h2 ⊢
 cases h2
 rfl
theorem freeze_at (w : World) (g n b : Nat) : (w.freeze ⟨g, n, none⟩ 1).heap[b]? = if g = b then (w.heap[b]?).map (fun
 | .cells c elem (lo, hi) => .cells c elem (if lo == hi then (n, n + 1) else (min lo n, max hi (n + 1)))
 | o => o) else w.heap[b]? := by
 unfold World.freeze
 rw [if_neg (by decide)]
 simp only [Array.getElem?_modify]
 split <;> rfl
theorem Rep.freeze (h : Rep c w S) {g : Nat} (hg : c.B ≤ g) (hρ : g ∉ c.ρ) {cs : Array Value} {T : TypeId} {fz : Nat × Nat} (hh : w.heap[g]? = some (.cells cs T fz)) : Rep c (w.freeze ⟨g, cs.size, none⟩ 1) S ∧ Ext c w c (w.freeze ⟨g, cs.size, none⟩ 1) := by
 have hold : ∀ b, b ≠ g → (w.freeze ⟨g, cs.size, none⟩ 1).heap[b]? = w.heap[b]? := fun b hb => by rw [freeze_at, if_neg (fun e => hb e.symm)]
 have hnew : (w.freeze ⟨g, cs.size, none⟩ 1).heap[g]? = some (.cells cs T (if fz.1 == fz.2 then (cs.size, cs.size + 1) else (min fz.1 cs.size, max fz.2 (cs.size + 1)))) := by
  rw [freeze_at, if_pos rfl, hh]
  rfl
 have hsize : (w.freeze ⟨g, cs.size, none⟩ 1).heap.size = w.heap.size := by
  unfold World.freeze
  rw [if_neg (by decide)]
  simp
 have hcell : ∀ b k, (w.freeze ⟨g, cs.size, none⟩ 1).cell? ⟨b, k, none⟩ = w.cell? ⟨b, k, none⟩ := by
  intro b k
  by_cases hb : b = g
  ·subst hb
   simp [World.cell?, hnew, hh]
  ·simp only [World.cell?, hold b hb]
 have hbel : Below c.B w (w.freeze ⟨g, cs.size, none⟩ 1) := by
  refine ⟨?_, ?_, ?_, by rw [hsize]; exact Nat.le_refl _, fun k hk => hold k (by omega)⟩
  all_goals
   unfold World.freeze
   rw [if_neg (by decide)]
 have hk : Keeps c w c (w.freeze ⟨g, cs.size, none⟩ 1) := ⟨fun b k v hm hv => ⟨hm, by rw [hcell]; exact hv⟩, fun _ _ h => h, fun _ i h => ⟨i, h, rfl, Nat.le_refl _, fun _ => rfl⟩, rfl, fun b T' h => by
  by_cases e : b = g
  ·subst e
   obtain ⟨cs1, fz1, h⟩ := h
   rw [hh] at h
   obtain ⟨rfl, rfl, rfl⟩ : cs = cs1 ∧ T = T' ∧ fz = fz1 := Obj.cells.inj (Option.some.inj h)
   exact ⟨_, _, hnew⟩
  ·exact h.of_block (hold b e)⟩
 refine ⟨⟨⟨h.hB.1, by rw [hsize]; exact h.hB.2⟩, h.len, fun i b hi => ?_, h.inj, h.toks, fun t i ht => ?_, h.disj, fun w' hw' => h.inv w' (hbel.trans hw')⟩, hk, rfl, rfl, rfl, hbel⟩
 ·obtain ⟨a, o1, hh1, vs, e1, e2⟩ := h.box i b hi
  have hne : b ≠ g := fun e => hρ (mem_ρ.2 ⟨i, by rw [← e]; exact hi⟩)
  exact ⟨a, o1, by rw [hold b hne]; exact hh1, vs, e1, e2.keep hk⟩
 ·obtain ⟨a1, a2, a3, a4, a5⟩ := h.tok t i ht
  refine ⟨a1, a2, a3, a4, fun hn g2 off ha => ?_⟩
  obtain ⟨b1, b2, cur, T2, fz2, hh2, b3, b4⟩ := a5 hn g2 off ha
  by_cases hne : g2 = g
  ·subst hne
   rw [hh] at hh2
   obtain ⟨rfl, rfl, rfl⟩ : cs = cur ∧ T = T2 ∧ fz = fz2 := by
    have := Obj.cells.inj (Option.some.inj hh2)
    exact this
   refine ⟨b1, b2, cs, T, _, hnew, b3, .inl ?_⟩
   split
   ·exact b3
   ·rename_i hlo
    rcases b4 with b4 | b4
    ·show _ ≤ min fz.1 cs.size
     omega
    ·exact absurd (by rw [b4]; exact beq_self_eq_true _) hlo
  ·exact ⟨b1, b2, cur, T2, fz2, by rw [hold g2 hne]; exact hh2, b3, b4⟩
theorem conv_ok (h : Rep c w S) {src dst : TypeId} {x v : V} {X : Value} (hx : VR c w x X) (hv : opConv P src dst x = some v) : ∃ y w', (convert src dst X).run P w = .ok y w' ∧ Rep c w' S ∧ Ext c w c w' ∧ VR c w' v y := by
 unfold opConv at hv
 split at hv
 case h_2 => cases hv
 rename_i si di hsi hdi
 obtain ⟨fi, d, z, h1, h2, h3, h4, h5, h6, _⟩ := tyOf_info hsi
 obtain ⟨gi, d2, z2, g1, g2, g3, g4, g5, g6, _⟩ := tyOf_info hdi
 split at hv
 case h_6 => cases hv
 case h_5 e rows0 hdd hd =>
  unfold convSame at hv
  split at hv
  case h_2 => cases hv
  rename_i r rows
  split at hv
  case isFalse => cases hv
  rename_i hsd
  subst hsd
  split at hv
  case h_2 => cases hv
  rename_i te hte
  split at hv
  case h_2 => cases hv
  rename_i hu8
  obtain rfl := Option.some.inj hv
  rw [hdd] at g6
  obtain rfl := tdOf_slice g6
  obtain ⟨ei, d3, z3, e1, e2, e3, e4, e5, e6, _⟩ := tyOf_info hte
  rw [hu8] at e6
  obtain rfl := tdOf_int e6
  have hx' := hx
  cases hx with
  | full _ a hD ha =>
   obtain ⟨g, off, rfl, hM, v, hcv⟩ : ∃ g off, a = some ⟨g, off, none⟩ ∧ ¬ c.M g off ∧ ∃ v, w.cell? ⟨g, off, none⟩ = some v := by
    cases hD with
    | sl _ sz _ cap f hsz hr hc hm hs hd0 =>
     obtain ⟨g, off, rfl, hcc⟩ := hs (by simp)
     have hr0 := hr r List.mem_cons_self
     have := hcc 0 (by simp) 0 (by simp; omega)
     simp only [Nat.zero_mul, Nat.add_zero] at this
     exact ⟨g, off, rfl, this.1, _, this.2⟩
   obtain ⟨_, hBg⟩ := ha _ rfl
   obtain ⟨cs, T, fz, hh⟩ : ∃ cs T fz, w.heap[g]? = some (.cells cs T fz) := by
    unfold World.cell? at hcv
    cases hb : w.heap[g]? with
    | none => simp [hb] at hcv
    | some o =>
     cases o with
     | cells cs T fz => exact ⟨cs, T, fz, rfl⟩
     | _ => simp [hb] at hcv
   have hρ : g ∉ c.ρ := fun hm => hM (.inl (.inr hm))
   obtain ⟨q1, q2⟩ := h.freeze hBg hρ hh
   refine ⟨_, _, ?_, q1, q2, hx'.ext q2⟩
   have hsh : w.shape? g = some (T, cs.size) := by
    unfold World.shape?
    rw [hh]
   simp [convert, run_underlying g2, run_underlying e2, markStringish, hsh]
 ·rename_i k k' n hdd hd
  obtain rfl := Option.some.inj hv
  rw [hdd] at g6
  obtain rfl := tdOf_int g6
  have hD := VR_toD hx hd
  cases hD
  refine ⟨_, w, ?_, h, .refl _ _, .d _ _ (.int _ _)⟩
  simp only [convert, Sem.run_bind, run_underlying h2, run_underlying g2, Result.andThen_ok]
  rfl
 ·rename_i s hdd hd
  obtain rfl := Option.some.inj hv
  rw [hdd] at g6
  obtain rfl := tdOf_string g6
  have hD := VR_toD hx hd
  cases hD with
  | str _ hl =>
   refine ⟨_, w, ?_, h, .refl _ _, .d _ _ (.str _ hl)⟩
   simp only [convert, Sem.run_bind, run_underlying h2, run_underlying g2, Result.andThen_ok]
   rfl
 ·rename_i rows hdd hd
  split at hv
  case h_2 => cases hv
  rename_i e he
  split at hv
  case h_2 => cases hv
  rename_i te hte
  split at hv
  case h_2 => cases hv
  rename_i hu8
  obtain ⟨s, hs, rfl⟩ := Option.map_eq_some_iff.1 hv
  obtain rfl := mapM_byteOf rows s hs
  rw [hdd] at g6
  obtain rfl := tdOf_string g6
  rw [he] at h6
  obtain rfl := tdOf_slice h6
  obtain ⟨ei, d3, z3, e1, e2, e3, e4, e5, e6, _⟩ := tyOf_info hte
  rw [hu8] at e6
  obtain rfl := tdOf_int e6
  have hD := VR_toD hx hd
  have hsl : ∃ a n cap, X = .slice a n cap := by cases hD; exact ⟨_, _, _, rfl⟩
  obtain ⟨a, n, cap, rfl⟩ := hsl
  obtain ⟨hn, hcl⟩ := bytes_rows hD
  have hmax : n ≤ 9223372036854775807 := by
   obtain ⟨x1, x2, x3, _⟩ := hD.flat 1 (by intro r hr; obtain ⟨b, _, rfl⟩ := List.mem_map.1 hr; rfl)
   omega
  refine ⟨.string ⟨s.toArray⟩, w, ?_, h, .refl _ _, .d _ _ (.str _ (by omega))⟩
  by_cases hs0 : s = []
  ·subst hs0
   have : n = 0 := hn
   subst this
   cases a with
   | none => exact run_convert_bytes_nil (P := P) w src e h2 e2 0 cap dst g2
   | some p =>
    rw [run_convert_bytes_string w src dst e _ 0 cap h2 e2 g2]
    simp [Conv.bytesToString, loadCells, loadCellsFrom]
    rfl
  ·obtain ⟨g, off, rfl, hc⟩ := hcl hs0
   exact run_string_of src e dst h2 e2 g2 g off cap n s hn.symm hc
 ·rename_i e s hdd hd
  split at hv
  case h_2 => cases hv
  rename_i te hte
  split at hv
  case h_2 => cases hv
  rename_i hu8
  obtain rfl := Option.some.inj hv
  rw [hdd] at g6
  obtain rfl := tdOf_slice g6
  obtain ⟨ei, d3, z3, e1, e2, e3, e4, e5, e6, _⟩ := tyOf_info hte
  rw [hu8] at e6
  obtain rfl := tdOf_int e6
  have hD := VR_toD hx hd
  cases hD with
  | str _ hl =>
   have hsz : (ByteArray.mk s.toArray).size = s.length := by simp [ByteArray.size_mk']
   have hb := below_bytesWorld w w.heap.size e ⟨s.toArray⟩ (Nat.le_refl _)
   obtain ⟨r1, r2⟩ := h.under hb
   refine ⟨_, _, Lib.run_convert_string_bytes (P := P) w src dst e ⟨s.toArray⟩ h2 g2 e2, r1, r2, .d _ _ ?_⟩
   have hge := grownCap_ge w s.length 0 e
   have hle := grownCap_le_maxLen w s.length 0 e hl
   rw [hsz]
   have : s.length = (s.map byteRow).length := by simp
   rw [this] at hge hle ⊢
   refine .sl (s.map byteRow) 1 _ _ (fun j _ => .int .u8 (((ByteArray.mk s.toArray).data.toList.getD j 0).toNat : Int)) (by omega) (by intro r hr; obtain ⟨b, _, rfl⟩ := List.mem_map.1 hr; rfl) hge hle (fun _ => ⟨w.heap.size, 0, rfl, fun j hj q hq => ?_⟩) (fun j hj q hq => ?_)
   ·have hq0 : q = 0 := by simp [byteRow] at hq; exact hq
    subst hq0
    refine ⟨h.notM_new (Nat.le_refl _), ?_⟩
    simp only [Nat.zero_add, Nat.mul_one, Nat.add_zero]
    exact Lib.bytesWorld_cell w e ⟨s.toArray⟩ j (by rw [hsz]; simpa using hj)
   ·have hq0 : q = 0 := by simp [byteRow] at hq; exact hq
    subst hq0
    have hj' : j < s.length := by simpa using hj
    simp only [List.getElem_map, byteRow, List.getElem_cons_zero]
    have : (ByteArray.mk s.toArray).data.toList.getD j 0 = s[j] := by simp [List.getD, hj']
    rw [this]
    exact .int _ _
theorem appendT_ok (h : Rep c w S) {ts us ty : TypeId} {s x v : V} {S' : Mem} {A X : Value} (hs : VR c w s A) (hx : VR c w x X) (hv : opAppendT P ts us S s x = some (v, S')) :
 ∃ y w' c', (Builtin.append_ #[ts, us] ty #[A, X]).run P w = .ok y w' ∧ Rep c' w' S' ∧ Ext c w c' w' ∧ VR c' w' v y := by
 unfold opAppendT at hv
 split at hv
 case h_2 => cases hv
 rename_i ti rows t hti
 split at hv
 case h_2 => cases hv
 rename_i e he
 split at hv
 case h_2 => cases hv
 rename_i te hte
 split at hv
 case h_2 => cases hv
 rename_i n sz nrows htok hnew
 split at hv
 case isFalse => cases hv
 rename_i hcond
 obtain ⟨rfl, rfl, c3, c4, c5⟩ := hcond
 obtain ⟨rfl, rfl⟩ := Prod.mk.inj (Option.some.inj hv)
 obtain ⟨fi, d, z, h1, h2, h3, h4, h5, h6, _⟩ := tyOf_info hti
 obtain ⟨gi, d2, z2, g1, g2, g3, g4, g5, g6, g7, g8, _⟩ := tyOf_info hte
 rw [he] at h6
 obtain rfl := tdOf_slice h6
 have T : SlTy P ts e te.size te.bytes := ⟨h2, gi, z2, g1, g3, g4, g5, g8⟩
 have hsz := rowsSz_iff c3
 unfold newRows at hnew
 split at hnew
 case h_3 => cases hnew
 ·rename_i ui rows2 hui hd
  split at hnew
  case h_2 => cases hnew
  rename_i e2 he2
  obtain rfl := Option.some.inj hnew
  obtain ⟨ui1, d3, z3, u1, u2, u3, u4, u5, u6, _⟩ := tyOf_info hui
  rw [he2] at u6
  obtain rfl := tdOf_slice u6
  have hD := VR_toD hx hd
  have hsl : ∃ a n cap, X = .slice a n cap := by cases hD; exact ⟨_, _, _, rfl⟩
  obtain ⟨a, n, cap, rfl⟩ := hsl
  obtain ⟨hn, _, _, F, hF, hFd⟩ := hD.flat te.size hsz
  subst hn
  exact h.app hs htok T ⟨_, u2, by simp⟩ hsz F (fun W => by simp [Builtin.lenOf]) (fun W hW => run_first rfl hF W hW) hFd c4 c5
 ·rename_i ui q hui hd
  split at hnew
  case h_2 => cases hnew
  rename_i hstr hu8
  split at hnew
  case isFalse => cases hnew
  rename_i hone
  obtain rfl := Option.some.inj hnew
  obtain ⟨ui1, d3, z3, u1, u2, u3, u4, u5, u6, _⟩ := tyOf_info hui
  rw [hstr] at u6
  obtain rfl := tdOf_string u6
  have hD := VR_toD hx hd
  cases hD with
  | str _ hl =>
   refine h.app hs htok T ⟨_, u2, by simp⟩ hsz (fun k => .int .u8 ((q.getD k 0).toNat : Int)) (fun W => by simp [Builtin.lenOf, ByteArray.size_mk']) (fun W _ => ?_) (fun j hj r hr => ?_) c4 c5
   ·have := Lib.run_firstCells_string (P := P) W te.size ⟨q.toArray⟩
    simp only [ByteArray.size_mk', List.size_toArray] at this
    simp only [List.length_map]
    rw [this, hone, Nat.mul_one]
    congr 2
    apply List.ext_getElem?
    intro j
    by_cases hj : j < q.length
    ·simp [hj, List.getD, Lib.strCells]
    ·simp [hj, Lib.strCells]
   ·have hj' : j < q.length := by simpa using hj
    have hr0 : r = 0 := by simp [byteRow] at hr; exact hr
    subst hr0
    simp only [List.getElem_map, byteRow, List.getElem_cons_zero, hone, Nat.mul_one, Nat.add_zero]
    have : q.getD j 0 = q[j] := by simp [List.getD, hj']
    rw [this]
    exact .int _ _
theorem append_ok (h : Rep c w S) {ts us ty : TypeId} {s x v : V} {S' : Mem} {A X : Value} (hs : VR c w s A) (hx : VR c w x X) (hv : opAppend P ts us S s x = some (v, S')) :
 ∃ y w' c', (Builtin.append_ #[ts, us] ty #[A, X]).run P w = .ok y w' ∧ Rep c' w' S' ∧ Ext c w c' w' ∧ VR c' w' v y := by
 unfold opAppend at hv
 split at hv
 ·rename_i rows
  unfold opAppendF at hv
  split at hv
  case h_2 => cases hv
  split at hv
  case h_2 => cases hv
  split at hv
  case h_2 => cases hv
  rename_i te _
  split at hv
  case isFalse => cases hv
  rename_i hc
  obtain ⟨c1, r1, r2, r3⟩ := h.token hs te.size hc.1 (rowsSz_iff hc.2)
  obtain ⟨y, w', c', a1, a2, a3, a4⟩ := appendT_ok r1 (ty := ty) r3 (hx.ext r2) hv
  exact ⟨y, w', c', a1, a2, r2.trans a3, a4⟩
 ·exact appendT_ok h hs hx hv
end
def kidx : List (List UInt8) → List UInt8 → Option Nat
 | [], _ => none
 | k :: ks, s => if k = s then some 0 else (kidx ks s).map (· + 1)
def kget (ks : List (List UInt8)) (vs : List V) (s : List UInt8) : Option V :=
 match kidx ks s with
 | some j => vs[j]?
 | none => none
def kset (ks : List (List UInt8)) (vs : List V) (s : List UInt8) (v : V) : List V :=
 match kidx ks s with
 | some j => [.kvs ks (vs.set j v)]
 | none => [.kvs (ks ++ [s]) (vs ++ [v])]
def kdel (ks : List (List UInt8)) (vs : List V) (s : List UInt8) : List V :=
 match kidx ks s with
 | some j => [.kvs (ks.eraseIdx j) (vs.eraseIdx j)]
 | none => [.kvs ks vs]
theorem kidx_some : ∀ {ks : List (List UInt8)} {s : List UInt8} {j : Nat}, kidx ks s = some j → ks[j]? = some s
 | [], _, _, h => by cases h
 | k :: ks, s, j, h => by
  rw [kidx] at h
  split at h
  ·rename_i e
   obtain rfl := Option.some.inj h
   rw [e]; rfl
  ·obtain ⟨i, hi, rfl⟩ := Option.map_eq_some_iff.1 h
   simpa using kidx_some hi
def mapTy (P : Program) (t : TypeId) : Option V :=
 match P.underlying t with
 | some (.map k e) => match P.underlying k, P.info? e with
  | some .string, some i => i.zero.map ofVal
  | _, _ => none
 | _ => none
def lookV (z : V) (v : Option V) (ok : Bool) : V :=
 match v with
 | some v => if ok then .tup [v, .d (.bool true)] else v
 | none => if ok then .tup [z, .d (.bool false)] else z
def opLookup (P : Program) (S : Mem) (t : TypeId) (m k : V) (ok : Bool) : Option V :=
 match mapTy P t, m, k with
 | some z, .mp i, .d (.str s) => match S.boxes[i]? with
  | some [.kvs ks vs] => some (lookV z (kget ks vs s) ok)
  | _ => none
 | _, _, _ => none
def opMapSet (P : Program) (S : Mem) (t : TypeId) (m k v : V) : Option (V × Mem) :=
 match mapTy P t, m, k with
 | some _, .mp i, .d (.str s) => match S.boxes[i]? with
  | some [.kvs ks vs] => some (.undef, { S with boxes := S.boxes.set i (kset ks vs s v) })
  | _ => none
 | _, _, _ => none
def opMapDel (P : Program) (S : Mem) (t : TypeId) (m k : V) : Option (V × Mem) :=
 match mapTy P t, m, k with
 | some _, .mp i, .d (.str s) => match S.boxes[i]? with
  | some [.kvs ks vs] => some (.tup [], { S with boxes := S.boxes.set i (kdel ks vs s) })
  | _ => none
 | _, _, _ => none
section
variable {P : Program} {c : Cx} {w : World} {S : Mem}
theorem mapTy_ok {t : TypeId} {z : V} (h : mapTy P t = some z) : ∃ k e f x, P.underlying t = some (.map k e) ∧ P.underlying k = some .string ∧ P.info? e = some f ∧ f.zero = some x ∧ z = ofVal x := by
 unfold mapTy at h
 split at h
 case h_2 => cases h
 rename_i k e ht
 split at h
 case h_2 => cases h
 rename_i f hk hf
 obtain ⟨x, hx, rfl⟩ := Option.map_eq_some_iff.1 h
 exact ⟨k, e, f, x, ht, hk, hf, hx, rfl⟩
theorem checkKey_str {k : TypeId} (hk : P.underlying k = some .string) (em : Bool) (x : Value) : (Instr.checkKey em 10000 k x).run P w = .ok () w := by
 rw [show (10000 : Nat) = 9999 + 1 from rfl, Instr.checkKey]
 simp [run_underlying hk]
def Keys (es : List MapEntry) (ks : List (List UInt8)) : Prop := es.length = ks.length ∧ ∀ (j : Nat) (k : List UInt8), ks[j]? = some k → ∃ e, es[j]? = some e ∧ e.key = .string ⟨k.toArray⟩
theorem findNow_str (s : List UInt8) : ∀ (es : List MapEntry) (ks : List (List UInt8)) (i : Nat), Keys es ks →
 Instr.findNow .string (.string ⟨s.toArray⟩) es i = some (match kidx ks s with | some j => (es[j]?).map fun e => (i + j, e.val) | none => none)
 | [], ks, i, h => by
  obtain rfl : ks = [] := List.eq_nil_of_length_eq_zero h.1.symm
  rfl
 | e :: es, [], i, h => by cases h.1
 | e :: es, k :: ks, i, h => by
  obtain ⟨e', he, hk⟩ := h.2 0 k rfl
  obtain rfl : e = e' := by simpa using he
  have h' : Keys es ks := ⟨by simpa using h.1, fun j k hj => h.2 (j + 1) k hj⟩
  have ih := findNow_str s es ks (i + 1) h'
  rw [Instr.findNow, hk, kidx]
  by_cases hks : k = s
  ·subst hks
   have hb : ((⟨k.toArray⟩ : ByteArray) == ⟨k.toArray⟩) = true := (MapKept.bytes_beq _ _).2 rfl
   simp [Instr.sameNow, hb]
  ·have hb : ((⟨s.toArray⟩ : ByteArray) == ⟨k.toArray⟩) = false := by
    rw [Bool.eq_false_iff]
    intro hb
    have := (MapKept.bytes_beq _ _).1 hb
    injection this with this
    exact hks (by simpa using (congrArg Array.toList this).symm)
   simp only [Instr.sameNow, hb, if_neg hks]
   rw [ih]
   cases kidx ks s with
   | none => rfl
   | some j => simp [Nat.add_assoc, Nat.add_comm 1 j]
theorem findKey_str {k : TypeId} (hk : P.underlying k = some .string) {s : List UInt8} {es : List MapEntry} {ks : List (List UInt8)} (h : Keys es ks) :
 (Instr.findKey k (.string ⟨s.toArray⟩) es).run P w = .ok (match kidx ks s with | some j => (es[j]?).map fun e => (j, e.val) | none => none) w := by
 unfold Instr.findKey
 have := findNow_str s es ks 0 h
 simp only [Nat.zero_add] at this
 simp [run_underlying hk, this]
theorem Rep.map (h : Rep c w S) {i b : Nat} (hi : c.ρ[i]? = some b) {ks : List (List UInt8)} {vs : List V} (hb : S.boxes[i]? = some [.kvs ks vs]) : ∃ (es : Array MapEntry) (ck : Nat), w.heap[b]? = some (.map es ck) ∧ es.size = ks.length ∧ ks.length = vs.length ∧
 ∀ (j : Nat) (k : List UInt8) (v : V), ks[j]? = some k → vs[j]? = some v → ∃ e, es[j]? = some e ∧ e.key = .string ⟨k.toArray⟩ ∧ VR c w v e.val := by
 obtain ⟨_, o, ho, us, e1, e2⟩ := h.box i b hi
 rw [hb] at e1
 obtain rfl := Option.some.inj e1
 cases e2 with
 | cells cs T _ h1 h2 =>
  have := (h2 0 (by simp)).1
  simp only [List.getElem_cons_zero] at this
  cases this
 | map es ck ks us h0 h1 h2 => exact ⟨es, ck, ho, h0, h1, h2⟩
theorem VR_str {s : List UInt8} {x : Value} (h : VR c w (.d (.str s)) x) : x = .string ⟨s.toArray⟩ := by
 cases h with
 | d _ _ h => cases h; rfl
theorem lookup_ok (h : Rep c w S) {t : TypeId} {m k v : V} {M K : Value} {ok : Bool} (hm : VR c w m M) (hk : VR c w k K) (hv : opLookup P S t m k ok = some v) : ∃ y, (Instr.lookup t M K ok).run P w = .ok y w ∧ VR c w v y := by
 unfold opLookup at hv
 split at hv
 case h_2 => cases hv
 rename_i z i s hz
 split at hv
 case h_2 => cases hv
 rename_i ks vs hb
 obtain rfl := Option.some.inj hv
 obtain rfl := VR_str hk
 obtain ⟨kt, et, f, x, q1, q2, q3, q4, rfl⟩ := mapTy_ok hz
 cases hm with
 | mp _ b hi =>
  obtain ⟨es, ck, hh, h0, h1, h2⟩ := h.map hi hb
  have hkeys : Keys es.toList ks := ⟨by simpa using h0, fun j k hj => by
   have hlt := (List.getElem?_eq_some_iff.1 hj).1
   obtain ⟨e, he, hk, _⟩ := h2 j k (vs[j]'(by omega)) hj (List.getElem?_eq_getElem (by omega))
   exact ⟨e, by simpa using he, hk⟩⟩
  have hf := findKey_str (P := P) (w := w) (s := s) q2 hkeys
  cases hj : kidx ks s with
  | none =>
   rw [hj] at hf
   have hg : kget ks vs s = none := by simp [kget, hj]
   rw [hg]
   cases ok with
   | true => exact ⟨.tuple #[x, .bool false], by simp [Instr.lookup, run_underlying q1, MapKept.run_getObj_map hh, checkKey_str q2, hf, zeroValue, typeInfo, q3, q4], .tup _ _ rfl (fun j hj => by
    match j, hj with
    | 0, _ => exact VR_ofVal c w x
    | 1, _ => exact .d _ _ (.bool _))⟩
   | false => exact ⟨x, by simp [Instr.lookup, run_underlying q1, MapKept.run_getObj_map hh, checkKey_str q2, hf, zeroValue, typeInfo, q3, q4], VR_ofVal c w x⟩
  | some j =>
   have hk := kidx_some hj
   have hlt := (List.getElem?_eq_some_iff.1 hk).1
   obtain ⟨e, he, _, hve⟩ := h2 j s (vs[j]'(by omega)) hk (List.getElem?_eq_getElem (by omega))
   have he' : es.toList[j]? = some e := by simpa using he
   rw [hj] at hf
   simp only [he', Option.map_some] at hf
   have hg : kget ks vs s = some (vs[j]'(by omega)) := by simp [kget, hj]
   rw [hg]
   cases ok with
   | true => exact ⟨.tuple #[e.val, .bool true], by simp [Instr.lookup, run_underlying q1, MapKept.run_getObj_map hh, checkKey_str q2, hf], .tup _ _ rfl (fun j hj => by
    match j, hj with
    | 0, _ => exact hve
    | 1, _ => exact .d _ _ (.bool _))⟩
   | false => exact ⟨e.val, by simp [Instr.lookup, run_underlying q1, MapKept.run_getObj_map hh, checkKey_str q2, hf], hve⟩
theorem Rep.setMap (h : Rep c w S) {i b : Nat} (hi : c.ρ[i]? = some b) {es0 : Array MapEntry} {ck0 : Nat} (hh : w.heap[b]? = some (.map es0 ck0)) (es : Array MapEntry) (ck : Nat) (ks : List (List UInt8)) (vs : List V) (h0 : es.size = ks.length) (h1 : ks.length = vs.length)
 (h2 : ∀ (j : Nat) (k : List UInt8) (v : V), ks[j]? = some k → vs[j]? = some v → ∃ e, es[j]? = some e ∧ e.key = .string ⟨k.toArray⟩ ∧ VR c w v e.val) :
 Rep c { w with heap := w.heap.setIfInBounds b (.map es ck) } { S with boxes := S.boxes.set i [.kvs ks vs] } ∧ Ext c w c { w with heap := w.heap.setIfInBounds b (.map es ck) } := by
 have hlt := h.lt hi
 have hB := (h.box i b hi).1
 refine h.setObj hi (.map es ck) _ (.map es ck ks vs h0 h1 h2) (by simp [hlt]) (fun k hk => by simp [hk.symm]) (by simp) ⟨rfl, rfl, rfl, by simp, fun k hk => ?_⟩ (fun T hT => ?_)
 ·have : b ≠ k := by omega
  simp [this]
 ·obtain ⟨cs, fz, hT⟩ := hT
  rw [hh] at hT
  cases hT
theorem mapSet_ok (h : Rep c w S) {t : TypeId} {m k v u : V} {M K X : Value} {S' : Mem} (hm : VR c w m M) (hk : VR c w k K) (hx : VR c w v X) (hv : opMapSet P S t m k v = some (u, S')) : ∃ w', (Instr.mapUpdate t M K X).run P w = .ok () w' ∧ Rep c w' S' ∧ Ext c w c w' ∧ u = .undef := by
 unfold opMapSet at hv
 split at hv
 case h_2 => cases hv
 rename_i z i s hz
 split at hv
 case h_2 => cases hv
 rename_i ks vs hb
 obtain ⟨rfl, rfl⟩ := Prod.mk.inj (Option.some.inj hv)
 obtain rfl := VR_str hk
 obtain ⟨kt, et, f, x, q1, q2, q3, q4, rfl⟩ := mapTy_ok hz
 cases hm with
 | mp _ b hi =>
  obtain ⟨es, ck, hh, h0, h1, h2⟩ := h.map hi hb
  have hkeys : Keys es.toList ks := ⟨by simpa using h0, fun j k hj => by
   have hlt := (List.getElem?_eq_some_iff.1 hj).1
   obtain ⟨e, he, hk, _⟩ := h2 j k (vs[j]'(by omega)) hj (List.getElem?_eq_getElem (by omega))
   exact ⟨e, by simpa using he, hk⟩⟩
  have hf := findKey_str (P := P) (w := w) (s := s) q2 hkeys
  unfold kset
  cases hj : kidx ks s with
  | none =>
   rw [hj] at hf
   have hs := h.setMap hi hh (es.push ⟨.string ⟨s.toArray⟩, X, ck⟩) (ck + 1) (ks ++ [s]) (vs ++ [v]) (by simp [h0]) (by simp [h1]) (fun j k v' hj hv' => by
    rcases getElem?_snoc hj with hj | ⟨rfl, rfl⟩
    ·have hlt := (List.getElem?_eq_some_iff.1 hj).1
     rw [List.getElem?_append_left (by omega)] at hv'
     obtain ⟨e, he, r⟩ := h2 j k v' hj hv'
     refine ⟨e, ?_, r⟩
     rw [Array.getElem?_push, if_neg (by omega)]
     exact he
    ·rw [List.getElem?_append_right (by omega), h1] at hv'
     simp at hv'
     subst hv'
     exact ⟨_, by rw [Array.getElem?_push, if_pos (by omega)], rfl, hx⟩)
   refine ⟨_, ?_, hs.1, hs.2, rfl⟩
   simp [Instr.mapUpdate, run_underlying q1, MapKept.run_getObj_map hh, checkKey_str q2, hf, MapKept.run_setObj_map _ hh]
  | some j =>
   have hk := kidx_some hj
   have hlt := (List.getElem?_eq_some_iff.1 hk).1
   obtain ⟨e, he, hek, hve⟩ := h2 j s (vs[j]'(by omega)) hk (List.getElem?_eq_getElem (by omega))
   have he' : es.toList[j]? = some e := by simpa using he
   rw [hj] at hf
   simp only [he', Option.map_some] at hf
   have hs := h.setMap hi hh (es.modify j fun e => { e with key := .string ⟨s.toArray⟩, val := X }) ck ks (vs.set j v) (by simp [h0]) (by simp [h1]) (fun q k v' hq hv' => by
    rw [Array.getElem?_modify]
    by_cases hjq : j = q
    ·subst hjq
     rw [hk] at hq
     obtain rfl := Option.some.inj hq
     rw [List.getElem?_set_self (by omega)] at hv'
     obtain rfl := Option.some.inj hv'
     rw [if_pos rfl, he]
     exact ⟨_, rfl, rfl, hx⟩
    ·rw [List.getElem?_set_ne hjq] at hv'
     rw [if_neg hjq]
     exact h2 q k v' hq hv')
   refine ⟨_, ?_, hs.1, hs.2, rfl⟩
   have hst : (Instr.keyThatStays (.string ⟨s.toArray⟩) (.string ⟨s.toArray⟩)).run P w = .ok (.string ⟨s.toArray⟩) w := by
    unfold Instr.keyThatStays
    have : Instr.sameBits 10000 (.string ⟨s.toArray⟩) (.string ⟨s.toArray⟩) = true := by
     rw [show (10000 : Nat) = 9999 + 1 from rfl, Instr.sameBits]
     exact (MapKept.bytes_beq _ _).2 rfl
    rw [if_pos this]
    rfl
   simp [Instr.mapUpdate, run_underlying q1, MapKept.run_getObj_map hh, checkKey_str q2, hf, he, hek, hst, MapKept.run_setObj_map _ hh]
theorem mapDel_ok (h : Rep c w S) {t t2 ty : TypeId} {m k u : V} {M K : Value} {S' : Mem} (hm : VR c w m M) (hk : VR c w k K) (hv : opMapDel P S t m k = some (u, S')) : ∃ x w', (Builtin.delete_ #[t, t2] ty #[M, K]).run P w = .ok x w' ∧ Rep c w' S' ∧ Ext c w c w' ∧ VR c w' u x := by
 unfold opMapDel at hv
 split at hv
 case h_2 => cases hv
 rename_i z i s hz
 split at hv
 case h_2 => cases hv
 rename_i ks vs hb
 obtain ⟨rfl, rfl⟩ := Prod.mk.inj (Option.some.inj hv)
 obtain rfl := VR_str hk
 obtain ⟨kt, et, f, x, q1, q2, q3, q4, rfl⟩ := mapTy_ok hz
 cases hm with
 | mp _ b hi =>
  obtain ⟨es, ck, hh, h0, h1, h2⟩ := h.map hi hb
  have hkeys : Keys es.toList ks := ⟨by simpa using h0, fun j k hj => by
   have hlt := (List.getElem?_eq_some_iff.1 hj).1
   obtain ⟨e, he, hk, _⟩ := h2 j k (vs[j]'(by omega)) hj (List.getElem?_eq_getElem (by omega))
   exact ⟨e, by simpa using he, hk⟩⟩
  have hf := findKey_str (P := P) (w := w) (s := s) q2 hkeys
  have hnil : ∀ w' : World, VR c w' (.tup []) (.tuple #[]) := fun w' => .tup [] #[] rfl fun j h => absurd h (by simp)
  unfold kdel
  cases hj : kidx ks s with
  | none =>
   rw [hj] at hf
   have hs := h.setMap hi hh es ck ks vs h0 h1 h2
   refine ⟨_, _, ?_, hs.1, hs.2, hnil _⟩
   simp [Builtin.delete_, run_underlying q1, MapKept.run_getObj_map hh, checkKey_str q2, hf, MapKept.run_setObj_map _ hh]
  | some j =>
   have hk := kidx_some hj
   have hlt := (List.getElem?_eq_some_iff.1 hk).1
   obtain ⟨e, he, hek, hve⟩ := h2 j s (vs[j]'(by omega)) hk (List.getElem?_eq_getElem (by omega))
   have he' : es.toList[j]? = some e := by simpa using he
   rw [hj] at hf
   simp only [he', Option.map_some] at hf
   have hjs : j < es.size := by omega
   have heq : es.eraseIdxIfInBounds j = es.eraseIdx j hjs := by simp [Array.eraseIdxIfInBounds, hjs]
   have hs := h.setMap hi hh (es.eraseIdxIfInBounds j) ck (ks.eraseIdx j) (vs.eraseIdx j) (by rw [heq]; simp [List.length_eraseIdx, h0, hlt]) (by simp [List.length_eraseIdx, h1]) (fun q k v' hq hv' => by
    rw [heq, Array.getElem?_eraseIdx]
    rw [List.getElem?_eraseIdx] at hq hv'
    split at hq
    ·rename_i hlt2
     rw [if_pos hlt2] at hv'
     rw [if_pos hlt2]
     exact h2 q k v' hq hv'
    ·rename_i hlt2
     rw [if_neg hlt2] at hv'
     rw [if_neg hlt2]
     exact h2 (q + 1) k v' hq hv')
   refine ⟨_, _, ?_, hs.1, hs.2, hnil _⟩
   simp [Builtin.delete_, run_underlying q1, MapKept.run_getObj_map hh, checkKey_str q2, hf, MapKept.run_setObj_map _ hh]
theorem makeMap_ok (h : Rep c w S) (t : TypeId) : ∃ x w' c', (Instr.makeMap t none).run P w = .ok x w' ∧ Rep c' w' { S with boxes := S.boxes ++ [[.kvs [] []]] } ∧ Ext c w c' w' ∧ VR c' w' (.mp S.boxes.length) x := by
 have hn := h.new_box (.map #[] 0) [.kvs [] []] (.map #[] 0 [] [] rfl rfl (fun j k v hj => by simp at hj))
 refine ⟨.map (some w.heap.size), _, _, ?_, hn.1, hn.2, .mp _ _ ?_⟩
 ·simp [Instr.makeMap]
 ·show (c.ρ ++ [w.heap.size])[S.boxes.length]? = _
  rw [h.len]; simp
end
def pickV (t : Bool) (a b : V) : V :=
 match a, b with
 | .d (.bool x), .d (.bool y) => .d (.bool (bif t then x else y))
 | a, b => bif t then a else b
def mapParts (ev : Operand → V) (parts : Array (Nat × Operand)) : List (Nat × V) := parts.toList.map fun p => (p.1, ev p.2)
def still (S : Mem) (v : Option V) : Option (V × Mem) := v.map fun v => (v, S)
def opStore (P : Program) (S : Mem) (t : TypeId) (a x : V) : Option (V × Mem) :=
 match tyOf P t, a, cellsV x with
 | some ti, .ptr i k, some vs => match S.boxes[i]? with
  | some us => if vs.length = ti.size ∧ k + ti.size ≤ us.length then some (.undef, { S with boxes := S.boxes.set i (us.take k ++ vs ++ us.drop (k + vs.length)) }) else none
  | none => none
 | _, _, _ => none
def opMin : V → V → Option V
 | .d (.int k a), .d (.int _ b) => some (.d (.int k (if b < a then b else a)))
 | _, _ => none
def opMax : V → V → Option V
 | .d (.int k a), .d (.int _ b) => some (.d (.int k (if a < b then b else a)))
 | _, _ => none
def opCall (P : Program) (ev : Operand → V) (S : Mem) (c : Call) : Option (V × Mem) :=
 match c.callee, c.args.toList, c.argTypes.toList with
 | .builtin .len, [x], [t] => still S (opLen P t (ev x))
 | .builtin .append, [s, x], [t, u] => opAppend P t u S (ev s) (ev x)
 | .builtin .min, [x, y], [_, _] => still S (opMin (ev x) (ev y))
 | .builtin .max, [x, y], [_, _] => still S (opMax (ev x) (ev y))
 | .builtin .delete, [m, k], [t, _] => opMapDel P S t (ev m) (ev k)
 | _, _, _ => none
def fieldTy (P : Program) (s : TypeId) (f : Nat) : Option (TypeId × Nat) :=
 match P.underlying s with
 | some (.struct fs) => (fs[f]?).map fun d => (d.type, d.offset)
 | _ => none
def opFieldV (P : Program) (s : TypeId) (f : Nat) (a : V) : Option V :=
 match fieldTy P s f, a with
 | some (t, off), .agg vs => (match tyOf P t with
  | some ti => loadV ti vs off
  | none => none)
 | _, _ => none
def op1 (P : Program) (ev : Operand → V) (S : Mem) : Op → Option (V × Mem)
 | .move x => some (ev x, S)
 | .assign x => some (ev x, S)
 | .pick c a b => match ev c with
  | .d (.bool t) => some (pickV t (ev a) (ev b), S)
  | _ => none
 | .alloc t => match tyOf P t with
  | some i => some (.ptr S.boxes.length 0, { S with boxes := S.boxes ++ [i.zero] })
  | none => none
 | .box _ x => match cellsV (ev x) with
  | some vs => some (.ptr S.boxes.length 0, { S with boxes := S.boxes ++ [vs] })
  | none => none
 | .build t parts => still S (opBuild P t (mapParts ev parts))
 | .buildSlice t len parts => still S (opBuildSlice P t len (mapParts ev parts))
 | .load t a => still S (opLoad P S t (ev a))
 | .store t a x => opStore P S t (ev a) (ev x)
 | .nilCheck x => match ev x with
  | .ptr i k => some (.ptr i k, S)
  | .eptr r k => some (.eptr r k, S)
  | _ => none
 | .binOp op t x y _ => still S (opBin P op t (ev x) (ev y))
 | .unOp op _ x => still S (opUn op (ev x))
 | .convert s d x => still S (opConv P s d (ev x))
 | .makeFunc (.func f) first caps => some (.func f (first.toList.map ev) (caps.toList.map ev), S)
 | .slice t x lo hi none => still S (opSlice P t (ev x) (lo.map ev) (hi.map ev))
 | .fieldAddr s x f => still S (opField P s f (ev x))
 | .field s x f => still S (opFieldV P s f (ev x))
 | .indexAddr t x i => still S (opIndexAddr P t (ev x) (ev i))
 | .index t x i => still S (opIndex P t (ev x) (ev i))
 | .extract x i => match ev x with
  | .tup vs => still S vs[i]?
  | _ => none
 | .call c => opCall P ev S c
 | .makeMap _ none => some (.mp S.boxes.length, { S with boxes := S.boxes ++ [[.kvs [] []]] })
 | .lookup t m k ok => still S (opLookup P S t (ev m) (ev k) ok)
 | .mapUpdate t m k x => opMapSet P S t (ev m) (ev k) (ev x)
 | _ => none
section
variable {P : Program} {c : Cx} {w : World} {S : Mem}
theorem pick_ok {t : Bool} {a b : V} {A B : Value} (ha : VR c w a A) (hb : VR c w b B) : VR c w (pickV t a b) (if t then A else B) := by
 unfold pickV
 split
 ·cases t
  ·simpa using hb
  ·simpa using ha
 ·cases t
  ·simpa using hb
  ·simpa using ha
theorem fieldV_ok {s : TypeId} {f : Nat} {a v : V} {x : Value} (ha : VR c w a x) (hv : opFieldV P s f a = some v) : ∃ y, (Instr.field s x f).run P w = .ok y w ∧ VR c w v y := by
 unfold opFieldV at hv
 split at hv
 case h_2 => cases hv
 rename_i t off vs hty
 split at hv
 case h_2 => cases hv
 rename_i ti hti
 unfold fieldTy at hty
 split at hty
 case h_2 => cases hty
 rename_i fs hfs
 obtain ⟨F, hF, he⟩ := Option.map_eq_some_iff.1 hty
 obtain ⟨rfl, rfl⟩ := Prod.mk.inj he
 obtain ⟨fi, d, z, h1, h2, h3, h4, h5, h6, h7, h8, h9, h10⟩ := tyOf_info hti
 cases ha with
 | agg _ cs hsz hc ho =>
  unfold loadV at hv
  cases hagg : ti.agg with
  | true =>
   rw [hagg] at hv
   simp only [if_true] at hv
   split at hv
   case isFalse => cases hv
   rename_i hle
   obtain rfl := Option.some.inj hv
   refine ⟨.agg (cs.extract F.offset (F.offset + fi.size)), ?_, ?_⟩
   ·simp [Instr.field, run_underlying hfs, hF, asAgg, part, run_isAgg h2, h7, hagg, run_sizeOf h1]
   ·refine .agg _ _ (by simp; omega) (fun j hj => ?_) (fun j hj => ?_)
    ·have hj' : j < ti.size := by simp at hj; omega
     have h11 := hc (F.offset + j) (by omega)
     have h12 : (cs.extract F.offset (F.offset + fi.size)).getD j undef = cs.getD (F.offset + j) undef := by
      rw [getD_arr (by simp; omega), getD_arr (by omega)]
      simp
     rw [h12]
     simpa using h11
    ·have hj' : j < ti.size := by simp at hj; omega
     have h11 := ho (F.offset + j) (by omega)
     have h12 : (cs.extract F.offset (F.offset + fi.size)).getD j undef = cs.getD (F.offset + j) undef := by
      rw [getD_arr (by simp; omega), getD_arr (by omega)]
      simp
     rw [h12]
     exact h11
  | false =>
   rw [hagg] at hv
   simp only [Bool.false_eq_true, if_false] at hv
   obtain ⟨hk, rfl⟩ := List.getElem?_eq_some_iff.1 hv
   have hk' : F.offset < cs.size := by omega
   refine ⟨cs[F.offset], ?_, ?_⟩
   ·simp [Instr.field, run_underlying hfs, hF, asAgg, part, run_isAgg h2, h7, hagg, hk']
   ·have h11 := hc F.offset hk
    rw [getD_arr hk'] at h11
    exact h11
theorem mapParts_ok {env : List V} {a : Act} (h0 : Rep c w S) (he : EnvR c w env a.tmps) (parts : Array (Nat × Operand)) : (parts.map fun p => (p.1, a.eval p.2)).size = (mapParts (evalV c.I env) parts).length ∧ ∀ (j i : Nat) (v : V), (mapParts (evalV c.I env) parts)[j]? = some (i, v) → ∃ x, (parts.map fun p => (p.1, a.eval p.2))[j]? = some (i, x) ∧ VR c w v x := by
 refine ⟨by simp [mapParts], fun j i v h => ?_⟩
 unfold mapParts at h
 rw [List.getElem?_map] at h
 obtain ⟨p, hp, h2⟩ := Option.map_eq_some_iff.1 h
 obtain ⟨rfl, rfl⟩ := Prod.mk.inj h2
 have hp' : parts[j]? = some p := by simpa using hp
 exact ⟨_, by simp [hp'], EnvR.eval h0 he _⟩
def Did (P : Program) (c : Cx) (w : World) (s : Sem Next) (v : V) (S' : Mem) : Prop :=
 ∃ x w' c', (s.run P w = .ok (.value x) w' ∨ (s.run P w = .ok .skip w' ∧ x = undef)) ∧ Rep c' w' S' ∧ Ext c w c' w' ∧ VR c' w' v x
theorem Did.still (h : Rep c w S) {s : Sem Value} {r : Option V} {v : V} {S' : Mem} (hr : Ab.still S r = some (v, S')) (hs : r = some v → ∃ y, s.run P w = .ok y w ∧ VR c w v y) : Did P c w (do pure (.value (← s))) v S' := by
 obtain ⟨v', hv, he⟩ := Option.map_eq_some_iff.1 hr
 obtain ⟨rfl, rfl⟩ := Prod.mk.inj he
 obtain ⟨y, hy, hv2⟩ := hs hv
 exact ⟨y, w, c, .inl (by simp [hy]), h, .refl _ _, hv2⟩
theorem opt_ok {env : List V} {a : Act} (h0 : Rep c w S) (he : EnvR c w env a.tmps) (o : Option Operand) : (o.map (evalV c.I env)).isSome = (o.map a.eval).isSome ∧ ∀ v x, o.map (evalV c.I env) = some v → o.map a.eval = some x → VR c w v x := by
 cases o with
 | none => exact ⟨rfl, fun v x h => by cases h⟩
 | some p => exact ⟨rfl, fun v x h h' => by cases h; cases h'; exact EnvR.eval h0 he p⟩
theorem op1_ok {env : List V} {a : Act} (h : Rep c w S) (he : EnvR c w env a.tmps) (o : Oper) {v : V} {S' : Mem} (hv : op1 P (evalV c.I env) S o.op = some (v, S')) : Did P c w (execOp a.eval o) v S' := by
 unfold execOp
 cases ho : o.op <;> rw [ho] at hv <;> simp only [op1] at hv <;> try (cases hv; done)
 case move x =>
  obtain ⟨rfl, rfl⟩ := Prod.mk.inj (Option.some.inj hv)
  exact ⟨_, w, c, .inl rfl, h, .refl _ _, EnvR.eval h he x⟩
 case assign x =>
  obtain ⟨rfl, rfl⟩ := Prod.mk.inj (Option.some.inj hv)
  exact ⟨_, w, c, .inl rfl, h, .refl _ _, EnvR.eval h he x⟩
 case pick p x y =>
  split at hv
  case h_2 => cases hv
  rename_i t ht
  obtain ⟨rfl, rfl⟩ := Prod.mk.inj (Option.some.inj hv)
  have hp := EnvR.eval h he p
  rw [ht] at hp
  generalize hq : a.eval p = q at hp
  cases hp with
  | d _ _ hp =>
   cases hp
   refine ⟨_, w, c, .inl ?_, h, .refl _ _, pick_ok (t := t) (EnvR.eval h he x) (EnvR.eval h he y)⟩
   simp [asBool, hq]
 case alloc t =>
  split at hv
  case h_2 => cases hv
  rename_i i hi
  obtain ⟨rfl, rfl⟩ := Prod.mk.inj (Option.some.inj hv)
  obtain ⟨x, w', c', h1, h2, h3, h4⟩ := alloc_ok h t hi
  exact ⟨x, w', c', .inl (by simp [h1]), h2, h3, h4⟩
 case box t x =>
  split at hv
  case h_2 => cases hv
  rename_i vs hvs
  obtain ⟨rfl, rfl⟩ := Prod.mk.inj (Option.some.inj hv)
  obtain ⟨y, w', c', h1, h2, h3, h4⟩ := box_ok (P := P) h t (EnvR.eval h he x) hvs
  exact ⟨y, w', c', .inl (by simp [h1]), h2, h3, h4⟩
 case build t parts =>
  obtain ⟨h1, h2⟩ := mapParts_ok h he parts
  exact Did.still h hv fun hr => build_ok h1 h2 hr
 case buildSlice t len parts =>
  obtain ⟨v', hv0, hee⟩ := Option.map_eq_some_iff.1 hv
  obtain ⟨rfl, rfl⟩ := Prod.mk.inj hee
  obtain ⟨h1, h2⟩ := mapParts_ok h he parts
  obtain ⟨y, w', k1, k2, k3, k4⟩ := buildSlice_ok h h1 h2 hv0
  exact ⟨y, w', c, .inl (by simp [k1]), k2, k3, k4⟩
 case load t x => exact Did.still h hv fun hr => load_ok h t (EnvR.eval h he x) hr
 case field s x f => exact Did.still h hv fun hr => fieldV_ok (EnvR.eval h he x) hr
 case store t x y =>
  unfold opStore at hv
  split at hv
  case h_2 => cases hv
  rename_i ti i k vs hti hx hvs
  split at hv
  case h_2 => cases hv
  rename_i us hus
  split at hv
  case isFalse => cases hv
  rename_i hcond
  obtain ⟨rfl, rfl⟩ := Prod.mk.inj (Option.some.inj hv)
  have hp := EnvR.eval h he x
  rw [hx] at hp
  obtain ⟨w', k1, k2, k3⟩ := store_ok h t hti hp (EnvR.eval h he y) hus hvs hcond.1 hcond.2
  exact ⟨undef, w', c, .inr ⟨by simp [k1], rfl⟩, k2, k3, .undef _⟩
 case nilCheck x =>
  have hp := EnvR.eval h he x
  split at hv
  case h_3 => cases hv
  all_goals
   rename_i hx
   rw [hx] at hp
   obtain ⟨rfl, rfl⟩ := Prod.mk.inj (Option.some.inj hv)
   generalize hq : a.eval x = q at hp
   have hp' := hp
   cases hp
   exact ⟨_, w, c, .inl (by simp [hq]), h, .refl _ _, hp'⟩
 case binOp op t x y u => exact Did.still h hv fun hr => bin_ok (EnvR.eval h he x) (EnvR.eval h he y) hr x y
 case unOp op t x => exact Did.still h hv fun hr => un_ok (EnvR.eval h he x) hr
 case convert s d x =>
  obtain ⟨v', hv0, hee⟩ := Option.map_eq_some_iff.1 hv
  obtain ⟨rfl, rfl⟩ := Prod.mk.inj hee
  obtain ⟨y, w', k1, k2, k3, k4⟩ := conv_ok h (EnvR.eval h he x) hv0
  exact ⟨y, w', c, .inl (by simp [k1]), k2, k3, k4⟩
 case makeFunc fn first caps =>
  cases fn <;> dsimp only at hv <;> try (cases hv; done)
  rename_i f
  obtain ⟨rfl, rfl⟩ := Prod.mk.inj (Option.some.inj hv)
  refine ⟨_, w, c, .inl rfl, h, .refl _ _, .func f _ _ _ _ (by simp) (by simp) (fun j hj => ?_) (fun j hj => ?_)⟩
  ·have hj' : j < first.size := by simpa using hj
   rw [getD_arr (by simpa using hj')]
   simp only [List.getElem_map, Array.getElem_toList, Array.getElem_map]
   exact EnvR.eval h he _
  ·have hj' : j < caps.size := by simpa using hj
   rw [getD_arr (by simpa using hj')]
   simp only [List.getElem_map, Array.getElem_toList, Array.getElem_map]
   exact EnvR.eval h he _
 case slice t x lo hi mx =>
  cases mx <;> dsimp only at hv <;> try (cases hv; done)
  exact Did.still h hv fun hr => slice_ok (EnvR.eval h he x) (opt_ok h he lo).1 (opt_ok h he lo).2 (opt_ok h he hi).1 (opt_ok h he hi).2 hr
 case fieldAddr s x f => exact Did.still h hv fun hr => field_ok (EnvR.eval h he x) hr
 case indexAddr t x i => exact Did.still h hv fun hr => indexAddr_ok (EnvR.eval h he x) (EnvR.eval h he i) hr
 case index t x i => exact Did.still h hv fun hr => index_ok (EnvR.eval h he x) (EnvR.eval h he i) hr
 case extract x i =>
  have hp := EnvR.eval h he x
  split at hv
  case h_2 => cases hv
  rename_i vs hx
  rw [hx] at hp
  generalize hq : a.eval x = q at hp
  refine Did.still h hv fun hr => ?_
  cases hp with
  | tup _ cs h1 h2 =>
   obtain ⟨hlt, rfl⟩ := List.getElem?_eq_some_iff.1 hr
   have hlt' : i < cs.size := by omega
   have := h2 i hlt
   rw [getD_arr hlt'] at this
   exact ⟨cs[i], by simp [hq, Instr.extract, hlt'], this⟩
 case makeMap t r =>
  cases r <;> dsimp only at hv <;> try (cases hv; done)
  obtain ⟨rfl, rfl⟩ := Prod.mk.inj (Option.some.inj hv)
  obtain ⟨x, w', c', h1, h2, h3, h4⟩ := makeMap_ok (P := P) h t
  exact ⟨x, w', c', .inl (by simp [h1]), h2, h3, h4⟩
 case lookup t m k ok => exact Did.still h hv fun hr => lookup_ok h (EnvR.eval h he m) (EnvR.eval h he k) hr
 case mapUpdate t m k x =>
  obtain ⟨w', h1, h2, h3, rfl⟩ := mapSet_ok h (EnvR.eval h he m) (EnvR.eval h he k) (EnvR.eval h he x) hv
  exact ⟨undef, w', c, .inr ⟨by simp [h1], rfl⟩, h2, h3, .undef _⟩
 case call k =>
  obtain ⟨callee, args, argTypes⟩ := k
  simp only [opCall] at hv
  split at hv
  case h_6 => cases hv
  case h_5 x y t u hargs htys =>
   have e1 : args = #[x, y] := by apply Array.toList_inj.1; rw [hargs]
   have e2 : argTypes = #[t, u] := by apply Array.toList_inj.1; rw [htys]
   subst e1 e2
   obtain ⟨y, w', h1, h2, h3, h4⟩ := mapDel_ok (P := P) (t2 := u) (ty := o.type) h (EnvR.eval h he x) (EnvR.eval h he y) hv
   exact ⟨y, w', c, .inl (by simp [resolve, invoke, builtin, h1]), h2, h3, h4⟩
  case h_3 x y t u hargs htys =>
   have e1 : args = #[x, y] := by apply Array.toList_inj.1; rw [hargs]
   subst e1
   obtain ⟨v', hv0, hee⟩ := Option.map_eq_some_iff.1 hv
   obtain ⟨rfl, rfl⟩ := Prod.mk.inj hee
   have hx := EnvR.eval h he x
   have hy := EnvR.eval h he y
   unfold opMin at hv0
   split at hv0
   case h_2 => cases hv0
   rename_i k p k2 q ha hb
   obtain rfl := Option.some.inj hv0
   rw [ha] at hx
   rw [hb] at hy
   obtain ⟨X, hX⟩ : ∃ X, a.eval x = X := ⟨_, rfl⟩
   obtain ⟨Y, hY⟩ : ∃ Y, a.eval y = Y := ⟨_, rfl⟩
   rw [hX] at hx
   rw [hY] at hy
   cases hx with
   | d _ _ hx => cases hx with
    | int _ _ => cases hy with
     | d _ _ hy => cases hy with
      | int _ _ => exact ⟨_, w, c, .inl (by simp [resolve, invoke, builtin, Builtin.min_, Builtin.min2, hX, hY]), h, .refl _ _, .d _ _ (.int _ _)⟩
  case h_4 x y t u hargs htys =>
   have e1 : args = #[x, y] := by apply Array.toList_inj.1; rw [hargs]
   subst e1
   obtain ⟨v', hv0, hee⟩ := Option.map_eq_some_iff.1 hv
   obtain ⟨rfl, rfl⟩ := Prod.mk.inj hee
   have hx := EnvR.eval h he x
   have hy := EnvR.eval h he y
   unfold opMax at hv0
   split at hv0
   case h_2 => cases hv0
   rename_i k p k2 q ha hb
   obtain rfl := Option.some.inj hv0
   rw [ha] at hx
   rw [hb] at hy
   obtain ⟨X, hX⟩ : ∃ X, a.eval x = X := ⟨_, rfl⟩
   obtain ⟨Y, hY⟩ : ∃ Y, a.eval y = Y := ⟨_, rfl⟩
   rw [hX] at hx
   rw [hY] at hy
   cases hx with
   | d _ _ hx => cases hx with
    | int _ _ => cases hy with
     | d _ _ hy => cases hy with
      | int _ _ => exact ⟨_, w, c, .inl (by simp [resolve, invoke, builtin, Builtin.max_, Builtin.max2, hX, hY]), h, .refl _ _, .d _ _ (.int _ _)⟩
  ·rename_i x t hargs htys
   have e1 : args = #[x] := by apply Array.toList_inj.1; rw [hargs]
   have e2 : argTypes = #[t] := by apply Array.toList_inj.1; rw [htys]
   subst e1 e2
   obtain ⟨v', hv0, hee⟩ := Option.map_eq_some_iff.1 hv
   obtain ⟨rfl, rfl⟩ := Prod.mk.inj hee
   obtain ⟨y, h1, h2⟩ := len_ok (P := P) (ty := o.type) (EnvR.eval h he x) hv0
   exact ⟨y, w, c, .inl (by simp [resolve, invoke, builtin, h1]), h, .refl _ _, h2⟩
  ·rename_i s x t u hargs htys
   have e1 : args = #[s, x] := by apply Array.toList_inj.1; rw [hargs]
   have e2 : argTypes = #[t, u] := by apply Array.toList_inj.1; rw [htys]
   subst e1 e2
   obtain ⟨y, w', c', h1, h2, h3, h4⟩ := append_ok (P := P) (ty := o.type) h (EnvR.eval h he s) (EnvR.eval h he x) hv
   exact ⟨y, w', c', .inl (by simp [resolve, invoke, builtin, h1]), h2, h3, h4⟩
end
def Goes (P : Program) (b : Frame) (k : List Item) (a : Act) (w : World) (R : Ending → World → Prop) : Prop :=
 ∀ cs, ∃ e w' fr, R e w' ∧ Comes P (lone (b.at a k) cs w) (lone fr cs w') e ∧ fr.fn = b.fn ∧ fr.leaving P w' e
theorem Goes.step {P : Program} {b : Frame} {k k' : List Item} {a a' : Act} {w w' : World} {R : Ending → World → Prop} (hs : ∀ cs, Go.step P (lone (b.at a k) cs w) = .next (lone (b.at a' k') cs w')) (h : Goes P b k' a' w' R) : Goes P b k a w R := by
 intro cs
 obtain ⟨e, w2, fr, h1, h2, h3⟩ := h cs
 exact ⟨e, w2, fr, h1, .of_steps (.one (hs cs)) h2, h3⟩
def AQ (c : Cx) (w : World) (R : V → Mem → Prop) : Ending → World → Prop := fun e w' => ∃ v x S' c', e = .returned x ∧ R v S' ∧ Rep c' w' S' ∧ Ext c w c' w' ∧ VR c' w' v x
def ARun (P : Program) (I : Inv) (z : Nat × Nat) (fn : FuncId) (k : List Item) (env : List V) (S : Mem) (R : V → Mem → Prop) : Prop :=
 ∀ (b : Frame) (a : Act) (c : Cx) (w : World) (c0 : Cx) (w0 : World), b.fn = fn → b.kind = .normal → a.defers = [] → EnvR c w env a.tmps → Rep c w S → Ext c0 w0 c w → c.I = I ∧ c0.ρ.length = z.1 ∧ c0.τ.length = z.2 → Goes P b k a w (AQ c0 w0 R)
def AFn (P : Program) (I : Inv) (f : FuncId) (args : List V) (S : Mem) (R : V → Mem → Prop) : Prop :=
 (∀ xs w, (callFunc f xs).run P w = .ok (.enter f xs) w) ∧
 ∀ (c : Cx) (w : World) (xs : Array Value), xs.size = args.length → (∀ j (h : j < args.length), VR c w args[j] (xs.getD j undef)) → Rep c w S → c.I = I → Calls P f xs w (AQ c w R)
theorem AFn.mono {P : Program} {I : Inv} {f : FuncId} {args : List V} {S : Mem} {R R' : V → Mem → Prop} (h : AFn P I f args S R) (hr : ∀ v S', R v S' → R' v S') : AFn P I f args S R' := by
 refine ⟨h.1, fun c w xs h1 h2 h3 hI cs => ?_⟩
 obtain ⟨e, w', fr, ⟨v, x, S', c', a1, a2, a3⟩, h⟩ := h.2 c w xs h1 h2 h3 hI cs
 exact ⟨e, w', fr, ⟨v, x, S', c', a1, hr _ _ a2, a3⟩, h⟩
section rules
variable {P : Program} {I : Inv} {z : Nat × Nat} {fn : FuncId} {k : List Item} {env : List V} {S : Mem} {R : V → Mem → Prop}
theorem ARun.same {k' : List Item} (hs : ∀ (b : Frame) (a : Act) (w : World) cs, Go.step P (lone (b.at a k) cs w) = .next (lone (b.at a k') cs w)) (h : ARun P I z fn k' env S R) : ARun P I z fn k env S R :=
 fun b a c w c0 w0 h1 h2 h3 h4 h5 h6 hI => Goes.step (fun cs => hs b a w cs) (h b a c w c0 w0 h1 h2 h3 h4 h5 h6 hI)
theorem ARun.skip (h : ARun P I z fn k env S R) : ARun P I z fn (.code .skip :: k) env S R := h.same fun _ _ _ _ => step_skip
theorem ARun.label {l : Nat} (h : ARun P I z fn k env S R) : ARun P I z fn (.code (.label l) :: k) env S R := h.same fun _ _ _ _ => step_label
theorem ARun.inBlock {id : Nat} (h : ARun P I z fn k env S R) : ARun P I z fn (.inBlock id :: k) env S R := h.same fun _ _ _ _ => step_inBlock
theorem ARun.seq {x y : Code} (h : ARun P I z fn (.code x :: .code y :: k) env S R) : ARun P I z fn (.code (.seq x y) :: k) env S R := h.same fun _ _ _ _ => step_seq
theorem ARun.block {id : Nat} {x : Code} (h : ARun P I z fn (.code x :: .inBlock id :: k) env S R) : ARun P I z fn (.code (.block id x) :: k) env S R := h.same fun _ _ _ _ => step_block
theorem ARun.loop {x : Code} (h : ARun P I z fn (.code x :: .inLoop x :: k) env S R) : ARun P I z fn (.code (.loop x) :: k) env S R := h.same fun _ _ _ _ => step_loop
theorem ARun.inLoop {x : Code} (h : ARun P I z fn (.code x :: .inLoop x :: k) env S R) : ARun P I z fn (.inLoop x :: k) env S R := h.same fun _ _ _ _ => step_inLoop
theorem ARun.exit {id : Nat} {k' : List Item} (he : exitTo id k = some k') (h : ARun P I z fn k' env S R) : ARun P I z fn (.code (.exit id) :: k) env S R := h.same fun _ _ _ _ => step_exit he
theorem ARun.region {id : Nat} {ops : Array Oper} (h : ARun P I z fn (.inRegion ops (List.range ops.size) :: k) env S R) : ARun P I z fn (.code (.region id ops false) :: k) env S R := h.same fun _ _ _ _ => step_region
theorem ARun.regionEnd {ops : Array Oper} (h : ARun P I z fn k env S R) : ARun P I z fn (.inRegion ops [] :: k) env S R := h.same fun _ _ _ _ => step_region_end
theorem ARun.cond {x : Operand} {y y2 : Code} {t : Bool} (hx : evalV I env x = .d (.bool t)) (h : ARun P I z fn (.code (if t then y else y2) :: k) env S R) : ARun P I z fn (.code (.cond x y y2) :: k) env S R := by
 intro b a c w c0 w0 h1 h2 h3 h4 h5 h6 hI
 have hv := EnvR.eval h5 h4 x
 rw [hI.1] at hv
 rw [hx] at hv
 have he : a.eval x = .bool t := by
  generalize a.eval x = q at hv
  cases hv with
  | d _ _ hv => cases hv; rfl
 exact Goes.step (fun cs => step_cond he) (h b a c w c0 w0 h1 h2 h3 h4 h5 h6 hI)
def setV (env : List V) (d : Option Tmp) (v : V) : List V :=
 match d with
 | some t => env.set t v
 | none => env
def guardV (env : List V) (ops : Array Oper) (j : Nat) : V :=
 match (ops[j]?).bind (·.dst) with
 | some t => env.getD t .undef
 | none => .undef
theorem guard_ok {c : Cx} {w : World} {a : Act} (he : EnvR c w env a.tmps) {ops : Array Oper} {j : Nat} {t : Bool} (h : guardV env ops j = .d (.bool t)) : yielded ops a.tmps j = some t := by
 unfold guardV at h
 unfold yielded
 cases ho : (ops[j]?).bind (·.dst) with
 | none => rw [ho] at h; cases h
 | some q =>
  rw [ho] at h
  simp only at h
  have hv := he.get q
  rw [h] at hv
  have hq : q < a.tmps.size := by
   rcases Nat.lt_or_ge q env.length with h' | h'
   ·rw [he.1]; exact h'
   ·have : env.getD q .undef = .undef := by simp [List.getD, h']
    rw [this] at h; cases h
  rw [getD_arr hq] at hv
  simp only [Option.bind_some, Array.getElem?_eq_getElem hq]
  generalize a.tmps[q] = x at hv
  cases hv with
  | d _ _ hv => cases hv; rfl
theorem guard_gone {c : Cx} {w : World} {a : Act} (he : EnvR c w env a.tmps) {ops : Array Oper} {j : Nat} (h : guardV env ops j = .tup []) : yielded ops a.tmps j = none := by
 unfold guardV at h
 unfold yielded
 cases ho : (ops[j]?).bind (·.dst) with
 | none => rw [ho] at h; cases h
 | some q =>
  rw [ho] at h
  simp only at h
  have hv := he.get q
  rw [h] at hv
  have hq : q < a.tmps.size := by
   rcases Nat.lt_or_ge q env.length with h' | h'
   ·rw [he.1]; exact h'
   ·have : env.getD q .undef = .undef := by simp [List.getD, h']
    rw [this] at h; cases h
  rw [getD_arr hq] at hv
  simp only [Option.bind_some, Array.getElem?_eq_getElem hq]
  generalize a.tmps[q] = x at hv
  cases hv
  rfl
def Skips (env : List V) (ops : Array Oper) (o : Oper) : Prop := ∃ j want, o.guard = some (j, want) ∧ ((∃ t, guardV env ops j = .d (.bool t) ∧ (t == want) = false) ∨ guardV env ops j = .tup [])
theorem ARun.opSkip {ops : Array Oper} {i : Nat} {rest : List Nat} {o : Oper} (ho : ops[i]? = some o) (hk : Skips env ops o)
 (h : ARun P I z fn (.inRegion ops rest :: k) (setV env o.dst (.tup [])) S R) : ARun P I z fn (.inRegion ops (i :: rest) :: k) env S R := by
 intro b a c w c0 w0 h1 h2 h3 h4 h5 h6 hI
 have hs : ∀ cs, Go.step P (lone (b.at a (.inRegion ops (i :: rest) :: k)) cs w) = .next (lone (b.at (a.put o.dst undef) (.inRegion ops rest :: k)) cs w) := by
  intro cs
  have := step_op_skip (P := P) (b := b) (a := a) (k := k) (cs := cs) (w := w) (ops := ops) (i := i) (rest := rest) (by
   obtain ⟨j, want, hg, ⟨t, ht, hne⟩ | ht⟩ := hk
   ·have hy := guard_ok h4 ht
    simp [ho, Region.wanted, hg, hy]
    simpa using hne
   ·have hy := guard_gone h4 ht
    simp [ho, Region.wanted, hg, hy])
  simpa [ho] using this
 refine Goes.step hs (h b (a.put o.dst undef) c w c0 w0 h1 h2 ?_ ?_ h5 h6 hI)
 ·cases o.dst <;> simpa [Act.put] using h3
 ·exact h4.put o.dst (.tup [] #[] rfl fun j h => absurd h (by simp))
def Wants (env : List V) (ops : Array Oper) (o : Oper) : Prop := o.guard = none ∨ ∃ j t, o.guard = some (j, t) ∧ guardV env ops j = .d (.bool t)
theorem wants_ok {c : Cx} {w : World} {a : Act} (he : EnvR c w env a.tmps) {ops : Array Oper} {o : Oper} (h : Wants env ops o) : Region.wanted o (yielded ops a.tmps) = true := by
 rcases h with h | ⟨j, t, h, hg⟩
 ·simp [Region.wanted, h]
 ·simp [Region.wanted, h, guard_ok he hg]
theorem ARun.op {ops : Array Oper} {i : Nat} {rest : List Nat} {o : Oper} {v : V} {S' : Mem} (ho : ops[i]? = some o) (hw : Wants env ops o) (hop : op1 P (evalV I env) S o.op = some (v, S'))
 (h : ARun P I z fn (.inRegion ops rest :: k) (setV env o.dst v) S' R) : ARun P I z fn (.inRegion ops (i :: rest) :: k) env S R := by
 intro b a c w c0 w0 h1 h2 h3 h4 h5 h6 hI
 obtain ⟨x, w', c', hrun, hrep, hext, hv⟩ := op1_ok h5 h4 o (by rw [hI.1]; exact hop)
 have hg := fun cs => stepG_op (P := P) (b := b) (k := k) (cs := cs) (w := w) (rest := rest) ho (wants_ok h4 hw)
 have hfin : ∀ v, (b.at a (.inRegion ops (i :: rest) :: k)).finish v = b.at (a.put o.dst v) (.inRegion ops rest :: k) := by
  intro v; rw [Frame.finish_at, ho]; rfl
 have hs : ∀ cs, Go.step P (lone (b.at a (.inRegion ops (i :: rest) :: k)) cs w) = .next (lone (b.at (a.put o.dst x) (.inRegion ops rest :: k)) cs w') := by
  intro cs
  refine step_lone_go ?_
  rw [hg cs, ← hfin]
  rcases hrun with hrun | ⟨hrun, rfl⟩
  ·simp [stepG.apply, hrun]
  ·simp [stepG.apply, hrun]
 refine Goes.step hs (h b (a.put o.dst x) c' w' c0 w0 h1 h2 ?_ ?_ hrep (h6.trans hext) ⟨hext.I.trans hI.1, hI.2⟩)
 ·cases o.dst <;> simpa [Act.put] using h3
 ·exact (h4.ext hext).put o.dst hv
theorem ARun.call {ops : Array Oper} {i : Nat} {rest : List Nat} {o : Oper} {q : Call} {f : Operand} {g : FuncId} {first caps : List V} (ho : ops[i]? = some o) (hw : Wants env ops o) (hop : o.op = .call q) (hc : q.callee = .value f) (hf : evalV I env f = .func g first caps)
 (h : AFn P I g (first ++ q.args.toList.map (evalV I env) ++ caps) S fun v S' => ARun P I z fn (.inRegion ops rest :: k) (setV env o.dst v) S' R) : ARun P I z fn (.inRegion ops (i :: rest) :: k) env S R := by
 intro b a c w c0 w0 h1 h2 h3 h4 h5 h6 hI cs
 have hv := EnvR.eval h5 h4 f
 rw [hI.1] at hv
 rw [hf] at hv
 obtain ⟨cf, cc, hfe, q1, q2, q3, q4⟩ : ∃ cf cc, a.eval f = .func (.func g) cf cc ∧ cf.size = first.length ∧ cc.size = caps.length ∧ (∀ j (h : j < first.length), VR c w first[j] (cf.getD j undef)) ∧ (∀ j (h : j < caps.length), VR c w caps[j] (cc.getD j undef)) := by
  generalize a.eval f = x at hv
  cases hv with
  | func _ _ _ cf cc h1 h2 h3 h4 => exact ⟨cf, cc, rfl, h1, h2, h3, h4⟩
 have hrun : (execOp a.eval o).run P w = .ok (.enter g (cf ++ q.args.map a.eval ++ cc)) w := by
  unfold execOp
  simp only [hop, resolve, hc, hfe, Deferred.ofValue, Sem.run_bind, Sem.run_pure, Result.andThen_ok, invoke]
  exact h.1 _ _
 have hg := stepG_op (P := P) (b := b) (k := k) (cs := cs) (w := w) (rest := rest) ho (wants_ok h4 hw)
 have henter : Go.step P (lone (b.at a (.inRegion ops (i :: rest) :: k)) cs w) = .next (lone (Frame.enter P g (cf ++ q.args.map a.eval ++ cc) .normal) (b.at a (.inRegion ops (i :: rest) :: k) :: cs) w) :=
  step_lone_go (by rw [hg]; simp [stepG.apply, hrun, Frame.at])
 have hfin : ∀ v, (b.at a (.inRegion ops (i :: rest) :: k)).finish v = b.at (a.put o.dst v) (.inRegion ops rest :: k) := by
  intro v; rw [Frame.finish_at, ho]; rfl
 have hargs : ∀ j (h : j < (first ++ q.args.toList.map (evalV I env) ++ caps).length), VR c w (first ++ q.args.toList.map (evalV I env) ++ caps)[j] ((cf ++ q.args.map a.eval ++ cc).getD j undef) := by
  intro j hj
  rcases Nat.lt_or_ge j first.length with hlt | hge
  ·have e1 : (first ++ q.args.toList.map (evalV I env) ++ caps)[j] = first[j] := by
    rw [List.getElem_append_left (by simp; omega), List.getElem_append_left hlt]
   have e2 : (cf ++ q.args.map a.eval ++ cc).getD j undef = cf.getD j undef := by
    rw [getD_arr (by simp; omega), getD_arr (by omega), Array.getElem_append_left (by simp; omega), Array.getElem_append_left (by omega)]
   rw [e1, e2]
   exact q3 j hlt
  ·rcases Nat.lt_or_ge j (first.length + q.args.size) with hlt2 | hge2
   ·have e1 : (first ++ q.args.toList.map (evalV I env) ++ caps)[j] = evalV I env (q.args[j - first.length]'(by omega)) := by
     rw [List.getElem_append_left (by simp; omega), List.getElem_append_right hge]
     simp
    have e2 : (cf ++ q.args.map a.eval ++ cc).getD j undef = a.eval (q.args[j - first.length]'(by omega)) := by
     rw [getD_arr (by simp; omega), Array.getElem_append_left (by simp; omega), Array.getElem_append_right (by omega)]
     simp [q1]
    rw [e1, e2]
    have := EnvR.eval h5 h4 (q.args[j - first.length]'(by omega))
    rw [hI.1] at this
    exact this
   ·have hj' : j - (first.length + q.args.size) < caps.length := by simp at hj; omega
    have e1 : (first ++ q.args.toList.map (evalV I env) ++ caps)[j] = caps[j - (first.length + q.args.size)] := by
     rw [List.getElem_append_right (by simp; omega)]
     congr 1; simp
    have e2 : (cf ++ q.args.map a.eval ++ cc).getD j undef = cc.getD (j - (first.length + q.args.size)) undef := by
     rw [getD_arr (by simp; omega), getD_arr (by omega), Array.getElem_append_right (by simp; omega)]
     congr 1; simp [q1]
    rw [e1, e2]
    exact q4 _ hj'
 obtain ⟨e, w', fr, ⟨v, x, S', c', rfl, hR, hrep, hext, hvr⟩, hcomes, hfn, hleave⟩ := h.2 c w (cf ++ q.args.map a.eval ++ cc) (by simp [q1, q2]) hargs h5 hI.1 (b.at a (.inRegion ops (i :: rest) :: k) :: cs)
 obtain ⟨e2, w2, fr2, g1, g2, g3⟩ := hR b (a.put o.dst x) c' w' c0 w0 h1 h2 (by cases o.dst <;> simpa [Act.put] using h3) ((h4.ext hext).put o.dst hvr) hrep (h6.trans hext) ⟨hext.I.trans hI.1, hI.2⟩ cs
 refine ⟨e2, w2, fr2, g1, .of_steps (.head henter (Steps.trans hcomes (.one ?_))) g2, g3⟩
 rw [← hfin]; exact step_leave_returned hleave
def resV1 (P : Program) (S : Mem) (env : List V) : ResultVar → Option V
 | .tmp t => some (env.getD t .undef)
 | .cell a t => opLoad P S t (env.getD a .undef)
def resV (P : Program) (S : Mem) (env : List V) : List ResultVar → Option V
 | [] => some (.tup [])
 | [r] => resV1 P S env r
 | [r, u] => match resV1 P S env r, resV1 P S env u with
  | some a, some b => some (.tup [a, b])
  | _, _ => none
 | [r, u, s] => match resV1 P S env r, resV1 P S env u, resV1 P S env s with
  | some a, some b, some d => some (.tup [a, b, d])
  | _, _, _ => none
 | _ => none
def resRun (tmps : Array Value) (r : ResultVar) : Sem Value :=
 match r with
 | .tmp t => pure (tmps.getD t undef)
 | .cell a t => do loadVar t (← asAddr (tmps.getD a undef))
theorem resRun_eq (f : Func) (tmps : Array Value) : results f tmps = (do
 let vs ← f.results.mapM (resRun tmps)
 pure (if h : vs.size = 1 then vs[0] else .tuple vs)) := by
 unfold results
 congr 1
theorem resV1_ok {c : Cx} {w : World} {tmps : Array Value} (h5 : Rep c w S) (he : EnvR c w env tmps) {r : ResultVar} {v : V} (hv : resV1 P S env r = some v) : ∃ x, (resRun tmps r).run P w = .ok x w ∧ VR c w v x := by
 cases r with
 | tmp t =>
  obtain rfl := Option.some.inj hv
  exact ⟨_, rfl, he.get t⟩
 | cell a t =>
  have hv : opLoad P S t (env.getD a .undef) = some v := hv
  obtain ⟨y, hy, hr⟩ := load_ok (P := P) h5 t (he.get a) hv
  refine ⟨y, ?_, hr⟩
  rw [← hy]
  have hp : ∃ p, tmps.getD a undef = .pointer (some p) := by
   have := he.get a
   unfold opLoad at hv
   split at hv
   ·rename_i heq; rw [heq] at this; generalize tmps.getD a undef = z at this; cases this; exact ⟨_, rfl⟩
   ·rename_i heq; rw [heq] at this; generalize tmps.getD a undef = z at this; cases this; exact ⟨_, rfl⟩
   ·cases hv
  obtain ⟨p, hp⟩ := hp
  simp only [resRun, Instr.loadAt, hp, asAddr, Instr.sureAddr]
theorem resV_ok {c : Cx} {w : World} {tmps : Array Value} (h5 : Rep c w S) (he : EnvR c w env tmps) {f : Func} {v : V} (hv : resV P S env f.results.toList = some v) : ∃ x, (results f tmps).run P w = .ok x w ∧ VR c w v x := by
 rw [resRun_eq]
 unfold resV at hv
 split at hv
 case h_5 => cases hv
 ·rename_i ht
  obtain rfl := Option.some.inj hv
  have : f.results = #[] := by apply Array.toList_inj.1; rw [ht]
  exact ⟨.tuple #[], by simp [this], .tup _ _ rfl (fun j h => by simp at h)⟩
 ·rename_i r ht
  have : f.results = #[r] := by apply Array.toList_inj.1; rw [ht]
  obtain ⟨x, hx, hr⟩ := resV1_ok h5 he hv
  exact ⟨x, by simp [this, hx], hr⟩
 ·rename_i r u ht
  have : f.results = #[r, u] := by apply Array.toList_inj.1; rw [ht]
  split at hv
  case h_2 => cases hv
  rename_i a b ha hb
  obtain rfl := Option.some.inj hv
  obtain ⟨x, hx, hr⟩ := resV1_ok h5 he ha
  obtain ⟨y, hy, hs⟩ := resV1_ok h5 he hb
  refine ⟨.tuple #[x, y], by simp [this, hx, hy], .tup _ _ rfl (fun j h => ?_)⟩
  match j, h with
  | 0, _ => exact hr
  | 1, _ => exact hs
 ·rename_i r u s ht
  have : f.results = #[r, u, s] := by apply Array.toList_inj.1; rw [ht]
  split at hv
  case h_2 => cases hv
  rename_i a b d ha hb hd
  obtain rfl := Option.some.inj hv
  obtain ⟨x, hx, hr⟩ := resV1_ok h5 he ha
  obtain ⟨y, hy, hs⟩ := resV1_ok h5 he hb
  obtain ⟨z, hz, hq⟩ := resV1_ok h5 he hd
  refine ⟨.tuple #[x, y, z], by simp [this, hx, hy, hz], .tup _ _ rfl (fun j h => ?_)⟩
  match j, h with
  | 0, _ => exact hr
  | 1, _ => exact hs
  | 2, _ => exact hq
theorem ARun.ret {f : Func} {v : V} (hf : P.funcs[fn]? = some f) (hv : resV P S env f.results.toList = some v) (hR : R v S) : ARun P I z fn (.code .ret :: k) env S R := by
 intro b a c w c0 w0 h1 h2 h3 h4 h5 h6 hI cs
 obtain ⟨x, hx, hvr⟩ := resV_ok (P := P) h5 h4 hv
 exact ⟨.returned x, w, { b.at a (.code .ret :: k) with mode := .returning }, ⟨v, x, S, c, rfl, hR, h5, h6, hvr⟩, .one step_ret, rfl, rfl, h3, h2, f, by show P.funcs[b.fn]? = some f; rw [h1]; exact hf, hx⟩
theorem ARun.fin {f : Func} {v : V} (hf : P.funcs[fn]? = some f) (hv : resV P S env f.results.toList = some v) (hR : R v S) : ARun P I z fn [] env S R := by
 intro b a c w c0 w0 h1 h2 h3 h4 h5 h6 hI cs
 obtain ⟨x, hx, hvr⟩ := resV_ok (P := P) h5 h4 hv
 exact ⟨.returned x, w, { b.at a [] with mode := .returning }, ⟨v, x, S, c, rfl, hR, h5, h6, hvr⟩, .one step_end, rfl, rfl, h3, h2, f, by show P.funcs[b.fn]? = some f; rw [h1]; exact hf, hx⟩
theorem AFn.enter {f : Func} {body : Code} {args : List V} (hf : P.funcs[fn]? = some f) (hb : f.body = some body) (hname : (f.name == "runtime.NumGoroutine") = false)
 (h : ARun P I (S.boxes.length, S.toks.length) fn [.code body] (args ++ List.replicate (f.ntmps - args.length) .undef) S R) : AFn P I fn args S R := by
 have hn : ¬ f.name = "runtime.NumGoroutine" := by simpa using hname
 refine ⟨fun xs w => by simp [callFunc, hf, hn, hb], fun c w xs h1 h2 h3 hI cs => ?_⟩
 let b : Frame := { (default : Frame) with fn := fn, kind := .normal }
 have henter : Frame.enter P fn xs .normal = b.at { tmps := xs ++ Array.replicate (f.ntmps - xs.size) undef, defers := [] } [.code body] := by
  simp [Frame.enter, Frame.at, hf, hb, b]
 rw [henter]
 refine h b _ c w c w rfl rfl rfl ⟨by simp [h1], fun t ht => ?_⟩ h3 (.refl _ _) ⟨hI, h3.len.symm, by rw [h3.toks]; simp⟩ cs
 rcases Nat.lt_or_ge t args.length with hlt | hge
 ·rw [List.getElem_append_left hlt]
  have := h2 t hlt
  rw [getD_arr (by omega)] at this
  rw [getD_arr (by simp; omega), Array.getElem_append_left (by omega)]
  exact this
 ·rw [List.getElem_append_right hge]
  simp only [List.getElem_replicate]
  exact .undef _
end rules
abbrev Cont := List Item → List V → Mem → Prop
def condS (next : Cont) (t : Bool) (k1 : List Item) (e1 : List V) (k2 : List Item) (e2 : List V) (S : Mem) : Prop := if t then next k1 e1 S else next k2 e2 S
def bindS (next : Cont) (r : Option (V × Mem)) (k : List Item) (d : Option Tmp) (env : List V) : Prop :=
 match r with
 | some (v, S) => next k (setV env d v) S
 | none => False
def callS (P : Program) (I : Inv) (stop : Cont) (f : V) (args : List V) (k : List Item) (d : Option Tmp) (env : List V) (S : Mem) : Prop :=
 match f with
 | .func g first caps => AFn P I g (first ++ args ++ caps) S fun v S' => stop k (setV env d v) S'
 | _ => False
def doOp (P : Program) (I : Inv) (next stop : Cont) (ops : Array Oper) (rest : List Nat) (o : Oper) (k : List Item) (env : List V) (S : Mem) : Prop :=
 match o.op with
 | .call q => match q.callee with
  | .value f => callS P I stop (evalV I env f) (q.args.toList.map (evalV I env)) (.inRegion ops rest :: k) o.dst env S
  | _ => bindS next (opCall P (evalV I env) S q) (.inRegion ops rest :: k) o.dst env
 | op => bindS next (op1 P (evalV I env) S op) (.inRegion ops rest :: k) o.dst env
def guardB (P : Program) (I : Inv) (next stop : Cont) (t : Bool) (want : Bool) (ops : Array Oper) (rest : List Nat) (o : Oper) (k : List Item) (env : List V) (S : Mem) : Prop :=
 if (t == want) = true then doOp P I next stop ops rest o k env S else next (.inRegion ops rest :: k) (setV env o.dst (.tup [])) S
theorem guardB_yes (P : Program) (I : Inv) (next stop : Cont) (b : Bool) (ops : Array Oper) (rest : List Nat) (o : Oper) (k : List Item) (env : List V) (S : Mem) : guardB P I next stop b b ops rest o k env S = doOp P I next stop ops rest o k env S := by simp [guardB]
theorem guardB_tf (P : Program) (I : Inv) (next stop : Cont) (ops : Array Oper) (rest : List Nat) (o : Oper) (k : List Item) (env : List V) (S : Mem) : guardB P I next stop true false ops rest o k env S = next (.inRegion ops rest :: k) (setV env o.dst (.tup [])) S := by simp [guardB]
theorem guardB_ft (P : Program) (I : Inv) (next stop : Cont) (ops : Array Oper) (rest : List Nat) (o : Oper) (k : List Item) (env : List V) (S : Mem) : guardB P I next stop false true ops rest o k env S = next (.inRegion ops rest :: k) (setV env o.dst (.tup [])) S := by simp [guardB]
theorem guardB_of {P : Program} {I : Inv} {next stop : Cont} {t want : Bool} {ops : Array Oper} {rest : List Nat} {o : Oper} {k : List Item} {env : List V} {S : Mem} (h1 : t = true → guardB P I next stop true want ops rest o k env S) (h2 : t = false → guardB P I next stop false want ops rest o k env S) : guardB P I next stop t want ops rest o k env S := by
 cases t
 ·exact h2 rfl
 ·exact h1 rfl
def guardS (P : Program) (I : Inv) (next stop : Cont) (g : V) (want : Bool) (ops : Array Oper) (rest : List Nat) (o : Oper) (k : List Item) (env : List V) (S : Mem) : Prop :=
 match g with
 | .d (.bool t) => guardB P I next stop t want ops rest o k env S
 | .tup [] => next (.inRegion ops rest :: k) (setV env o.dst (.tup [])) S
 | _ => False
def regS (P : Program) (I : Inv) (next stop : Cont) (ops : Array Oper) (i : Nat) (rest : List Nat) (k : List Item) (env : List V) (S : Mem) : Prop :=
 match ops[i]? with
 | some o => match o.guard with
  | none => doOp P I next stop ops rest o k env S
  | some (j, want) => guardS P I next stop (guardV env ops j) want ops rest o k env S
 | none => False
def upTo (i : Nat) : List Oper → List Nat
 | [] => []
 | _ :: l => i :: upTo (i + 1) l
theorem upTo_range : ∀ (l : List Oper) (i : Nat), upTo i l = List.range' i l.length
 | [], _ => rfl
 | _ :: l, i => by rw [upTo, upTo_range l]; rfl
theorem upTo_ops (ops : Array Oper) : upTo 0 ops.toList = List.range ops.size := by rw [upTo_range, List.range_eq_range']; simp
def codeS (I : Inv) (next stop : Cont) (c : Code) (k : List Item) (env : List V) (S : Mem) : Prop :=
 match c with
 | .seq a b => next (.code a :: .code b :: k) env S
 | .skip => next k env S
 | .label _ => next k env S
 | .block id a => next (.code a :: .inBlock id :: k) env S
 | .region _ ops false => next (.inRegion ops (upTo 0 ops.toList) :: k) env S
 | .cond x a b => match evalV I env x with
  | .d (.bool t) => condS next t (.code a :: k) env (.code b :: k) env S
  | _ => False
 | .exit id => match exitTo id k with
  | some k' => next k' env S
  | none => False
 | c => stop (.code c :: k) env S
def itemS (P : Program) (I : Inv) (next stop : Cont) (k : List Item) (env : List V) (S : Mem) : Prop :=
 match k with
 | .code c :: k => codeS I next stop c k env S
 | .inBlock _ :: k => next k env S
 | .inRegion _ [] :: k => next k env S
 | .inRegion ops (i :: rest) :: k => regS P I next stop ops i rest k env S
 | k => stop k env S
def steps (P : Program) (I : Inv) : Nat → Cont → Cont
 | 0, stop => stop
 | n + 1, stop => itemS P I (steps P I n stop) stop
theorem condS_true (next : Cont) (k1 : List Item) (e1 : List V) (k2 : List Item) (e2 : List V) (S : Mem) : condS next true k1 e1 k2 e2 S = next k1 e1 S := rfl
theorem condS_false (next : Cont) (k1 : List Item) (e1 : List V) (k2 : List Item) (e2 : List V) (S : Mem) : condS next false k1 e1 k2 e2 S = next k2 e2 S := rfl
theorem condS_of {next : Cont} {t : Bool} {k1 : List Item} {e1 : List V} {k2 : List Item} {e2 : List V} {S : Mem} (h1 : t = true → next k1 e1 S) (h2 : t = false → next k2 e2 S) : condS next t k1 e1 k2 e2 S := by
 cases t
 ·exact h2 rfl
 ·exact h1 rfl
theorem bindS_some (next : Cont) (v : V) (S : Mem) (k : List Item) (d : Option Tmp) (env : List V) : bindS next (some (v, S)) k d env = next k (setV env d v) S := rfl
theorem steps_zero (P : Program) (I : Inv) (stop : Cont) (k : List Item) (env : List V) (S : Mem) : steps P I 0 stop k env S = stop k env S := rfl
theorem steps_succ (P : Program) (I : Inv) (n : Nat) (stop : Cont) (k : List Item) (env : List V) (S : Mem) : steps P I (n + 1) stop k env S = itemS P I (steps P I n stop) stop k env S := rfl
theorem callS_fn {P : Program} {I : Inv} {stop : Cont} {g : FuncId} {args : List V} {k : List Item} {d : Option Tmp} {env : List V} {S : Mem} {Q : V → Mem → Prop} (h : AFn P I g args S Q) (hk : ∀ v S', Q v S' → stop k (setV env d v) S') : callS P I stop (.func g [] []) args k d env S := by
 unfold callS
 simp only [List.nil_append, List.append_nil]
 exact h.mono hk
theorem callS_of {P : Program} {I : Inv} {stop : Cont} {g : FuncId} {first args caps : List V} {k : List Item} {d : Option Tmp} {env : List V} {S : Mem} {Q : V → Mem → Prop} (h : AFn P I g (first ++ args ++ caps) S Q) (hk : ∀ v S', Q v S' → stop k (setV env d v) S') : callS P I stop (.func g first caps) args k d env S := h.mono hk
theorem callN {P : Program} {I : Inv} {stop : Cont} {g : FuncId} {args : List V} {k : List Item} {d : Option Tmp} {env : List V} {S S' : Mem} {v : V} {Q : V → Mem → Prop} (h : AFn P I g args S Q) (hk : stop k (setV env d v) S') (e : ∀ u T, Q u T → u = v ∧ T = S' := by exact fun _ _ h => h) : callS P I stop (.func g [] []) args k d env S :=
 callS_fn h fun u T hq => by
  obtain ⟨rfl, rfl⟩ := e u T hq
  exact hk
theorem callNo {P : Program} {I : Inv} {stop : Cont} {g : FuncId} {first args caps : List V} {k : List Item} {d : Option Tmp} {env : List V} {S S' : Mem} {v : V} {Q : V → Mem → Prop} (h : AFn P I g (first ++ args ++ caps) S Q) (hk : stop k (setV env d v) S') (e : ∀ u T, Q u T → u = v ∧ T = S' := by exact fun _ _ h => h) : callS P I stop (.func g first caps) args k d env S :=
 callS_of h fun u T hq => by
  obtain ⟨rfl, rfl⟩ := e u T hq
  exact hk
section
variable {P : Program} {I : Inv} {z : Nat × Nat} {fn : FuncId} {R : V → Mem → Prop}
theorem itemS_ok {next stop : Cont} (hn : ∀ k env S, next k env S → ARun P I z fn k env S R) (hs : ∀ k env S, stop k env S → ARun P I z fn k env S R) (k : List Item) (env : List V) (S : Mem) (h : itemS P I next stop k env S) : ARun P I z fn k env S R := by
 have hdo : ∀ (ops : Array Oper) (i : Nat) (rest : List Nat) (o : Oper) (k : List Item) (env : List V) (S : Mem), ops[i]? = some o → Wants env ops o → doOp P I next stop ops rest o k env S → ARun P I z fn (.inRegion ops (i :: rest) :: k) env S R := by
  intro ops i rest o k env S ho hw hd
  have hb : ∀ r, op1 P (evalV I env) S o.op = r → bindS next r (.inRegion ops rest :: k) o.dst env → ARun P I z fn (.inRegion ops (i :: rest) :: k) env S R := by
   intro r hr hb
   cases r with
   | none => exact hb.elim
   | some p => exact .op ho hw hr (hn _ _ _ hb)
  unfold doOp at hd
  split at hd
  ·rename_i q hq
   split at hd
   ·rename_i f hf
    unfold callS at hd
    split at hd
    ·rename_i g first caps hg
     exact .call ho hw hq hf hg (hd.mono fun v S' h => hs _ _ _ h)
    ·exact hd.elim
   ·exact hb _ (by rw [hq]; rfl) hd
  ·exact hb _ rfl hd
 unfold itemS at h
 split at h
 ·rename_i c k
  unfold codeS at h
  split at h
  ·exact .seq (hn _ _ _ h)
  ·exact .skip (hn _ _ _ h)
  ·exact .label (hn _ _ _ h)
  ·exact .block (hn _ _ _ h)
  ·rw [upTo_ops] at h
   exact .region (hn _ _ _ h)
  ·rename_i x a b
   split at h
   ·rename_i t ht
    refine .cond ht ?_
    unfold condS at h
    split at h
    ·rename_i ht2; rw [ht2]; exact hn _ _ _ h
    ·rename_i ht2
     have : t = false := by simpa using ht2
     rw [this]; exact hn _ _ _ h
   ·exact h.elim
  ·split at h
   ·rename_i k' hk
    exact .exit hk (hn _ _ _ h)
   ·exact h.elim
  ·exact hs _ _ _ h
 ·exact .inBlock (hn _ _ _ h)
 ·exact .regionEnd (hn _ _ _ h)
 ·rename_i ops i rest k
  unfold regS at h
  split at h
  ·rename_i o ho
   split at h
   ·rename_i hg
    exact hdo _ _ _ _ _ _ _ ho (.inl hg) h
   ·rename_i j want hg
    unfold guardS at h
    split at h
    ·rename_i t ht
     unfold guardB at h
     split at h
     ·rename_i hw
      have : t = want := by simpa using hw
      subst this
      exact hdo _ _ _ _ _ _ _ ho (.inr ⟨j, t, hg, ht⟩) h
     ·rename_i hw
      exact .opSkip ho ⟨j, want, hg, .inl ⟨t, ht, by simpa using hw⟩⟩ (hn _ _ _ h)
    ·rename_i ht
     exact .opSkip ho ⟨j, want, hg, .inr ht⟩ (hn _ _ _ h)
    ·exact h.elim
  ·exact h.elim
 ·exact hs _ _ _ h
theorem steps_ok {stop : Cont} (hs : ∀ k env S, stop k env S → ARun P I z fn k env S R) : ∀ (n : Nat) (k : List Item) (env : List V) (S : Mem), steps P I n stop k env S → ARun P I z fn k env S R
 | 0, _, _, _, h => hs _ _ _ h
 | n + 1, k, env, S, h => itemS_ok (steps_ok hs n) hs k env S h
theorem ARun.go (n : Nat) {k : List Item} {env : List V} {S : Mem} (h : steps P I n (fun k env S => ARun P I z fn k env S R) k env S) : ARun P I z fn k env S R := steps_ok (fun _ _ _ h => h) n k env S h
theorem goN {k : List Item} {env : List V} {S : Mem} (h : steps P I 200 (fun k env S => ARun P I z fn k env S R) k env S) : ARun P I z fn k env S R := ARun.go 200 h
theorem ARun.token {k : List Item} {env : List V} {S : Mem} (q : Nat) (rows : List (List D)) (hq : env.getD q .undef = .sl rows .full) (sz : Nat) (h0 : 0 < sz) (hsz : rowsSz sz rows = true)
 (h : ARun P I z fn k (env.set q (.sl rows (.own S.toks.length))) { S with toks := S.toks ++ [(rows.length, sz)] } R) : ARun P I z fn k env S R := by
 intro b a c w c0 w0 h1 h2 h3 h4 h5 h6 hI
 have hv := h4.get q
 rw [hq] at hv
 obtain ⟨c', r1, r2, r3⟩ := h5.token hv sz h0 (rowsSz_iff hsz)
 refine h b a c' w c0 w0 h1 h2 h3 ?_ r1 (h6.trans r2) ⟨r2.I.trans hI.1, hI.2⟩
 have he := h4.ext r2
 refine ⟨by simpa using he.1, fun t ht => ?_⟩
 have ht' : t < env.length := by simpa using ht
 by_cases e : q = t
 ·subst e; simpa using r3
 ·have := he.2 t ht'
  simpa [e] using this
end
end Go.Ab
