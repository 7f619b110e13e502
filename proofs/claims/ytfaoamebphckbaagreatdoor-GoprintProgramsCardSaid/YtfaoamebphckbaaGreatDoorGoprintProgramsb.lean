/- goprintPrograms Part 2 of 5 of the proof. -/
import Derived.Test.YtfaoamebphckbaaGreatDoorGoprintProgramsa
import Derived.Deep.Quiet
import Derived.Lib.Builder
import Derived.Lib.UnsafeStr
import Derived.ProofKit
namespace Go.Ab
open Go.RowKit Go.Av
def pickV (t : Bool) (a b : V) : V :=
 match a, b with
 | .d (.bool x), .d (.bool y) => .d (.bool (bif t then x else y))
 | a, b => bif t then a else b
def mapParts (ev : Operand → V) (parts : Array (Nat × Operand)) : List (Nat × V) := parts.toList.map fun p => (p.1, ev p.2)
def still (S : Mem) (v : Option V) : Option (V × Mem) := v.map fun v => (v, S)
def opStore (P : Program) (S : Mem) (t : TypeId) (a x : V) : Option (V × Mem) :=
 match tyOf P t, a, cellsV x with
 | some ti, .ptr i k, some vs => match S.boxes[i]? with
  | some us => if vs.length = ti.size ∧ k + ti.size ≤ us.length then some (.undef, { S with boxes := S.boxes.set i (us.take k ++ vs ++ us.drop (k + vs.length)) }) else none
  | none => none
 | _, _, _ => none
def opMin : V → V → Option V
 | .d (.int k a), .d (.int _ b) => some (.d (.int k (if b < a then b else a)))
 | _, _ => none
def opMax : V → V → Option V
 | .d (.int k a), .d (.int _ b) => some (.d (.int k (if a < b then b else a)))
 | _, _ => none
def opCall (P : Program) (ev : Operand → V) (S : Mem) (c : Call) : Option (V × Mem) :=
 match c.callee, c.args.toList, c.argTypes.toList with
 | .builtin .len, [x], [t] => still S (opLen P t (ev x))
 | .builtin .append, [s, x], [t, u] => opAppend P t u S (ev s) (ev x)
 | .builtin .min, [x, y], [_, _] => still S (opMin (ev x) (ev y))
 | .builtin .max, [x, y], [_, _] => still S (opMax (ev x) (ev y))
 | _, _, _ => none
def fieldTy (P : Program) (s : TypeId) (f : Nat) : Option (TypeId × Nat) :=
 match P.underlying s with
 | some (.struct fs) => (fs[f]?).map fun d => (d.type, d.offset)
 | _ => none
def opFieldV (P : Program) (s : TypeId) (f : Nat) (a : V) : Option V :=
 match fieldTy P s f, a with
 | some (t, off), .agg vs => (match tyOf P t with
  | some ti => loadV ti vs off
  | none => none)
 | _, _ => none
def op1 (P : Program) (ev : Operand → V) (S : Mem) : Op → Option (V × Mem)
 | .move x => some (ev x, S)
 | .assign x => some (ev x, S)
 | .pick c a b => match ev c with
  | .d (.bool t) => some (pickV t (ev a) (ev b), S)
  | _ => none
 | .alloc t => match tyOf P t with
  | some i => some (.ptr S.boxes.length 0, { S with boxes := S.boxes ++ [i.zero] })
  | none => none
 | .box _ x => match cellsV (ev x) with
  | some vs => some (.ptr S.boxes.length 0, { S with boxes := S.boxes ++ [vs] })
  | none => none
 | .build t parts => still S (opBuild P t (mapParts ev parts))
 | .buildSlice t len parts => still S (opBuildSlice P t len (mapParts ev parts))
 | .load t a => still S (opLoad P S t (ev a))
 | .store t a x => opStore P S t (ev a) (ev x)
 | .nilCheck x => match ev x with
  | .ptr i k => some (.ptr i k, S)
  | .eptr r k => some (.eptr r k, S)
  | _ => none
 | .binOp op t x y _ => still S (opBin P op t (ev x) (ev y))
 | .unOp op _ x => still S (opUn op (ev x))
 | .convert s d x => still S (opConv P s d (ev x))
 | .makeFunc (.func f) first caps => some (.func f (first.toList.map ev) (caps.toList.map ev), S)
 | .slice t x lo hi none => still S (opSlice P t (ev x) (lo.map ev) (hi.map ev))
 | .fieldAddr s x f => still S (opField P s f (ev x))
 | .field s x f => still S (opFieldV P s f (ev x))
 | .indexAddr t x i => still S (opIndexAddr P t (ev x) (ev i))
 | .index t x i => still S (opIndex P t (ev x) (ev i))
 | .extract x i => match ev x with
  | .tup vs => still S vs[i]?
  | _ => none
 | .call c => opCall P ev S c
 | _ => none
section
variable {P : Program} {c : Cx} {w : World} {S : Mem}
theorem pick_ok {t : Bool} {a b : V} {A B : Value} (ha : VR c w a A) (hb : VR c w b B) : VR c w (pickV t a b) (if t then A else B) := by
 unfold pickV
 split
 ·cases t
  ·simpa using hb
  ·simpa using ha
 ·cases t
  ·simpa using hb
  ·simpa using ha
theorem fieldV_ok {s : TypeId} {f : Nat} {a v : V} {x : Value} (ha : VR c w a x) (hv : opFieldV P s f a = some v) : ∃ y, (Instr.field s x f).run P w = .ok y w ∧ VR c w v y := by
 unfold opFieldV at hv
 split at hv
 case h_2 => cases hv
 rename_i t off vs hty
 split at hv
 case h_2 => cases hv
 rename_i ti hti
 unfold fieldTy at hty
 split at hty
 case h_2 => cases hty
 rename_i fs hfs
 obtain ⟨F, hF, he⟩ := Option.map_eq_some_iff.1 hty
 obtain ⟨rfl, rfl⟩ := Prod.mk.inj he
 obtain ⟨fi, d, z, h1, h2, h3, h4, h5, h6, h7, h8, h9, h10⟩ := tyOf_info hti
 cases ha with
 | agg _ cs hsz hc ho =>
  unfold loadV at hv
  cases hagg : ti.agg with
  | true =>
   rw [hagg] at hv
   simp only [if_true] at hv
   split at hv
   case isFalse => cases hv
   rename_i hle
   obtain rfl := Option.some.inj hv
   refine ⟨.agg (cs.extract F.offset (F.offset + fi.size)), ?_, ?_⟩
   ·simp [Instr.field, run_underlying hfs, hF, asAgg, part, run_isAgg h2, h7, hagg, run_sizeOf h1]
   ·refine .agg _ _ (by simp; omega) (fun j hj => ?_) (fun j hj => ?_)
    ·have hj' : j < ti.size := by simp at hj; omega
     have h11 := hc (F.offset + j) (by omega)
     have h12 : (cs.extract F.offset (F.offset + fi.size)).getD j undef = cs.getD (F.offset + j) undef := by
      rw [getD_arr (by simp; omega), getD_arr (by omega)]
      simp
     rw [h12]
     simpa using h11
    ·have hj' : j < ti.size := by simp at hj; omega
     have h11 := ho (F.offset + j) (by omega)
     have h12 : (cs.extract F.offset (F.offset + fi.size)).getD j undef = cs.getD (F.offset + j) undef := by
      rw [getD_arr (by simp; omega), getD_arr (by omega)]
      simp
     rw [h12]
     exact h11
  | false =>
   rw [hagg] at hv
   simp only [Bool.false_eq_true, if_false] at hv
   obtain ⟨hk, rfl⟩ := List.getElem?_eq_some_iff.1 hv
   have hk' : F.offset < cs.size := by omega
   refine ⟨cs[F.offset], ?_, ?_⟩
   ·simp [Instr.field, run_underlying hfs, hF, asAgg, part, run_isAgg h2, h7, hagg, hk']
   ·have h11 := hc F.offset hk
    rw [getD_arr hk'] at h11
    exact h11
theorem mapParts_ok {env : List V} {a : Act} (h0 : Rep c w S) (he : EnvR c w env a.tmps) (parts : Array (Nat × Operand)) : (parts.map fun p => (p.1, a.eval p.2)).size = (mapParts (evalV c.I env) parts).length ∧ ∀ (j i : Nat) (v : V), (mapParts (evalV c.I env) parts)[j]? = some (i, v) → ∃ x, (parts.map fun p => (p.1, a.eval p.2))[j]? = some (i, x) ∧ VR c w v x := by
 refine ⟨by simp [mapParts], fun j i v h => ?_⟩
 unfold mapParts at h
 rw [List.getElem?_map] at h
 obtain ⟨p, hp, h2⟩ := Option.map_eq_some_iff.1 h
 obtain ⟨rfl, rfl⟩ := Prod.mk.inj h2
 have hp' : parts[j]? = some p := by simpa using hp
 exact ⟨_, by simp [hp'], EnvR.eval h0 he _⟩
def Did (P : Program) (c : Cx) (w : World) (s : Sem Next) (v : V) (S' : Mem) : Prop :=
 ∃ x w' c', (s.run P w = .ok (.value x) w' ∨ (s.run P w = .ok .skip w' ∧ x = undef)) ∧ Rep c' w' S' ∧ Ext c w c' w' ∧ VR c' w' v x
theorem Did.still (h : Rep c w S) {s : Sem Value} {r : Option V} {v : V} {S' : Mem} (hr : Ab.still S r = some (v, S')) (hs : r = some v → ∃ y, s.run P w = .ok y w ∧ VR c w v y) : Did P c w (do pure (.value (← s))) v S' := by
 obtain ⟨v', hv, he⟩ := Option.map_eq_some_iff.1 hr
 obtain ⟨rfl, rfl⟩ := Prod.mk.inj he
 obtain ⟨y, hy, hv2⟩ := hs hv
 exact ⟨y, w, c, .inl (by simp [hy]), h, .refl _ _, hv2⟩
theorem opt_ok {env : List V} {a : Act} (h0 : Rep c w S) (he : EnvR c w env a.tmps) (o : Option Operand) : (o.map (evalV c.I env)).isSome = (o.map a.eval).isSome ∧ ∀ v x, o.map (evalV c.I env) = some v → o.map a.eval = some x → VR c w v x := by
 cases o with
 | none => exact ⟨rfl, fun v x h => by cases h⟩
 | some p => exact ⟨rfl, fun v x h h' => by cases h; cases h'; exact EnvR.eval h0 he p⟩
theorem op1_ok {env : List V} {a : Act} (h : Rep c w S) (he : EnvR c w env a.tmps) (o : Oper) {v : V} {S' : Mem} (hv : op1 P (evalV c.I env) S o.op = some (v, S')) : Did P c w (execOp a.eval o) v S' := by
 unfold execOp
 cases ho : o.op <;> rw [ho] at hv <;> simp only [op1] at hv <;> try (cases hv; done)
 case move x =>
  obtain ⟨rfl, rfl⟩ := Prod.mk.inj (Option.some.inj hv)
  exact ⟨_, w, c, .inl rfl, h, .refl _ _, EnvR.eval h he x⟩
 case assign x =>
  obtain ⟨rfl, rfl⟩ := Prod.mk.inj (Option.some.inj hv)
  exact ⟨_, w, c, .inl rfl, h, .refl _ _, EnvR.eval h he x⟩
 case pick p x y =>
  split at hv
  case h_2 => cases hv
  rename_i t ht
  obtain ⟨rfl, rfl⟩ := Prod.mk.inj (Option.some.inj hv)
  have hp := EnvR.eval h he p
  rw [ht] at hp
  generalize hq : a.eval p = q at hp
  cases hp with
  | d _ _ hp =>
   cases hp
   refine ⟨_, w, c, .inl ?_, h, .refl _ _, pick_ok (t := t) (EnvR.eval h he x) (EnvR.eval h he y)⟩
   simp [asBool, hq]
 case alloc t =>
  split at hv
  case h_2 => cases hv
  rename_i i hi
  obtain ⟨rfl, rfl⟩ := Prod.mk.inj (Option.some.inj hv)
  obtain ⟨x, w', c', h1, h2, h3, h4⟩ := alloc_ok h t hi
  exact ⟨x, w', c', .inl (by simp [h1]), h2, h3, h4⟩
 case box t x =>
  split at hv
  case h_2 => cases hv
  rename_i vs hvs
  obtain ⟨rfl, rfl⟩ := Prod.mk.inj (Option.some.inj hv)
  obtain ⟨y, w', c', h1, h2, h3, h4⟩ := box_ok (P := P) h t (EnvR.eval h he x) hvs
  exact ⟨y, w', c', .inl (by simp [h1]), h2, h3, h4⟩
 case build t parts =>
  obtain ⟨h1, h2⟩ := mapParts_ok h he parts
  exact Did.still h hv fun hr => build_ok h1 h2 hr
 case buildSlice t len parts =>
  obtain ⟨v', hv0, hee⟩ := Option.map_eq_some_iff.1 hv
  obtain ⟨rfl, rfl⟩ := Prod.mk.inj hee
  obtain ⟨h1, h2⟩ := mapParts_ok h he parts
  obtain ⟨y, w', k1, k2, k3, k4⟩ := buildSlice_ok h h1 h2 hv0
  exact ⟨y, w', c, .inl (by simp [k1]), k2, k3, k4⟩
 case load t x => exact Did.still h hv fun hr => load_ok h t (EnvR.eval h he x) hr
 case field s x f => exact Did.still h hv fun hr => fieldV_ok (EnvR.eval h he x) hr
 case store t x y =>
  unfold opStore at hv
  split at hv
  case h_2 => cases hv
  rename_i ti i k vs hti hx hvs
  split at hv
  case h_2 => cases hv
  rename_i us hus
  split at hv
  case isFalse => cases hv
  rename_i hcond
  obtain ⟨rfl, rfl⟩ := Prod.mk.inj (Option.some.inj hv)
  have hp := EnvR.eval h he x
  rw [hx] at hp
  obtain ⟨w', k1, k2, k3⟩ := store_ok h t hti hp (EnvR.eval h he y) hus hvs hcond.1 hcond.2
  exact ⟨undef, w', c, .inr ⟨by simp [k1], rfl⟩, k2, k3, .undef _⟩
 case nilCheck x =>
  have hp := EnvR.eval h he x
  split at hv
  case h_3 => cases hv
  all_goals
   rename_i hx
   rw [hx] at hp
   obtain ⟨rfl, rfl⟩ := Prod.mk.inj (Option.some.inj hv)
   generalize hq : a.eval x = q at hp
   have hp' := hp
   cases hp
   exact ⟨_, w, c, .inl (by simp [hq]), h, .refl _ _, hp'⟩
 case binOp op t x y u => exact Did.still h hv fun hr => bin_ok (EnvR.eval h he x) (EnvR.eval h he y) hr x y
 case unOp op t x => exact Did.still h hv fun hr => un_ok (EnvR.eval h he x) hr
 case convert s d x =>
  obtain ⟨v', hv0, hee⟩ := Option.map_eq_some_iff.1 hv
  obtain ⟨rfl, rfl⟩ := Prod.mk.inj hee
  obtain ⟨y, w', k1, k2, k3, k4⟩ := conv_ok h (EnvR.eval h he x) hv0
  exact ⟨y, w', c, .inl (by simp [k1]), k2, k3, k4⟩
 case makeFunc fn first caps =>
  cases fn <;> dsimp only at hv <;> try (cases hv; done)
  rename_i f
  obtain ⟨rfl, rfl⟩ := Prod.mk.inj (Option.some.inj hv)
  refine ⟨_, w, c, .inl rfl, h, .refl _ _, .func f _ _ _ _ (by simp) (by simp) (fun j hj => ?_) (fun j hj => ?_)⟩
  ·have hj' : j < first.size := by simpa using hj
   rw [getD_arr (by simpa using hj')]
   simp only [List.getElem_map, Array.getElem_toList, Array.getElem_map]
   exact EnvR.eval h he _
  ·have hj' : j < caps.size := by simpa using hj
   rw [getD_arr (by simpa using hj')]
   simp only [List.getElem_map, Array.getElem_toList, Array.getElem_map]
   exact EnvR.eval h he _
 case slice t x lo hi mx =>
  cases mx <;> dsimp only at hv <;> try (cases hv; done)
  exact Did.still h hv fun hr => slice_ok (EnvR.eval h he x) (opt_ok h he lo).1 (opt_ok h he lo).2 (opt_ok h he hi).1 (opt_ok h he hi).2 hr
 case fieldAddr s x f => exact Did.still h hv fun hr => field_ok (EnvR.eval h he x) hr
 case indexAddr t x i => exact Did.still h hv fun hr => indexAddr_ok (EnvR.eval h he x) (EnvR.eval h he i) hr
 case index t x i => exact Did.still h hv fun hr => index_ok (EnvR.eval h he x) (EnvR.eval h he i) hr
 case extract x i =>
  have hp := EnvR.eval h he x
  split at hv
  case h_2 => cases hv
  rename_i vs hx
  rw [hx] at hp
  generalize hq : a.eval x = q at hp
  refine Did.still h hv fun hr => ?_
  cases hp with
  | tup _ cs h1 h2 =>
   obtain ⟨hlt, rfl⟩ := List.getElem?_eq_some_iff.1 hr
   have hlt' : i < cs.size := by omega
   have := h2 i hlt
   rw [getD_arr hlt'] at this
   exact ⟨cs[i], by simp [hq, Instr.extract, hlt'], this⟩
 case call k =>
  obtain ⟨callee, args, argTypes⟩ := k
  simp only [opCall] at hv
  split at hv
  case h_5 => cases hv
  case h_3 x y t u hargs htys =>
   have e1 : args = #[x, y] := by apply Array.toList_inj.1; rw [hargs]
   subst e1
   obtain ⟨v', hv0, hee⟩ := Option.map_eq_some_iff.1 hv
   obtain ⟨rfl, rfl⟩ := Prod.mk.inj hee
   have hx := EnvR.eval h he x
   have hy := EnvR.eval h he y
   unfold opMin at hv0
   split at hv0
   case h_2 => cases hv0
   rename_i k p k2 q ha hb
   obtain rfl := Option.some.inj hv0
   rw [ha] at hx
   rw [hb] at hy
   obtain ⟨X, hX⟩ : ∃ X, a.eval x = X := ⟨_, rfl⟩
   obtain ⟨Y, hY⟩ : ∃ Y, a.eval y = Y := ⟨_, rfl⟩
   rw [hX] at hx
   rw [hY] at hy
   cases hx with
   | d _ _ hx => cases hx with
    | int _ _ => cases hy with
     | d _ _ hy => cases hy with
      | int _ _ => exact ⟨_, w, c, .inl (by simp [resolve, invoke, builtin, Builtin.min_, Builtin.min2, hX, hY]), h, .refl _ _, .d _ _ (.int _ _)⟩
  case h_4 x y t u hargs htys =>
   have e1 : args = #[x, y] := by apply Array.toList_inj.1; rw [hargs]
   subst e1
   obtain ⟨v', hv0, hee⟩ := Option.map_eq_some_iff.1 hv
   obtain ⟨rfl, rfl⟩ := Prod.mk.inj hee
   have hx := EnvR.eval h he x
   have hy := EnvR.eval h he y
   unfold opMax at hv0
   split at hv0
   case h_2 => cases hv0
   rename_i k p k2 q ha hb
   obtain rfl := Option.some.inj hv0
   rw [ha] at hx
   rw [hb] at hy
   obtain ⟨X, hX⟩ : ∃ X, a.eval x = X := ⟨_, rfl⟩
   obtain ⟨Y, hY⟩ : ∃ Y, a.eval y = Y := ⟨_, rfl⟩
   rw [hX] at hx
   rw [hY] at hy
   cases hx with
   | d _ _ hx => cases hx with
    | int _ _ => cases hy with
     | d _ _ hy => cases hy with
      | int _ _ => exact ⟨_, w, c, .inl (by simp [resolve, invoke, builtin, Builtin.max_, Builtin.max2, hX, hY]), h, .refl _ _, .d _ _ (.int _ _)⟩
  ·rename_i x t hargs htys
   have e1 : args = #[x] := by apply Array.toList_inj.1; rw [hargs]
   have e2 : argTypes = #[t] := by apply Array.toList_inj.1; rw [htys]
   subst e1 e2
   obtain ⟨v', hv0, hee⟩ := Option.map_eq_some_iff.1 hv
   obtain ⟨rfl, rfl⟩ := Prod.mk.inj hee
   obtain ⟨y, h1, h2⟩ := len_ok (P := P) (ty := o.type) (EnvR.eval h he x) hv0
   exact ⟨y, w, c, .inl (by simp [resolve, invoke, builtin, h1]), h, .refl _ _, h2⟩
  ·rename_i s x t u hargs htys
   have e1 : args = #[s, x] := by apply Array.toList_inj.1; rw [hargs]
   have e2 : argTypes = #[t, u] := by apply Array.toList_inj.1; rw [htys]
   subst e1 e2
   obtain ⟨y, w', c', h1, h2, h3, h4⟩ := append_ok (P := P) (ty := o.type) h (EnvR.eval h he s) (EnvR.eval h he x) hv
   exact ⟨y, w', c', .inl (by simp [resolve, invoke, builtin, h1]), h2, h3, h4⟩
end
def Goes (P : Program) (b : Frame) (k : List Item) (a : Act) (w : World) (R : Ending → World → Prop) : Prop :=
 ∀ cs, ∃ e w' fr, R e w' ∧ Comes P (lone (b.at a k) cs w) (lone fr cs w') e ∧ fr.fn = b.fn ∧ fr.leaving P w' e
theorem Goes.step {P : Program} {b : Frame} {k k' : List Item} {a a' : Act} {w w' : World} {R : Ending → World → Prop} (hs : ∀ cs, Go.step P (lone (b.at a k) cs w) = .next (lone (b.at a' k') cs w')) (h : Goes P b k' a' w' R) : Goes P b k a w R := by
 intro cs
 obtain ⟨e, w2, fr, h1, h2, h3⟩ := h cs
 exact ⟨e, w2, fr, h1, .of_steps (.one (hs cs)) h2, h3⟩
def AQ (c : Cx) (w : World) (R : V → Mem → Prop) : Ending → World → Prop := fun e w' => ∃ v x S' c', e = .returned x ∧ R v S' ∧ Rep c' w' S' ∧ Ext c w c' w' ∧ VR c' w' v x
def ARun (P : Program) (I : Inv) (z : Nat × Nat) (fn : FuncId) (k : List Item) (env : List V) (S : Mem) (R : V → Mem → Prop) : Prop :=
 ∀ (b : Frame) (a : Act) (c : Cx) (w : World) (c0 : Cx) (w0 : World), b.fn = fn → b.kind = .normal → a.defers = [] → EnvR c w env a.tmps → Rep c w S → Ext c0 w0 c w → c.I = I ∧ c0.ρ.length = z.1 ∧ c0.τ.length = z.2 → Goes P b k a w (AQ c0 w0 R)
def AFn (P : Program) (I : Inv) (f : FuncId) (args : List V) (S : Mem) (R : V → Mem → Prop) : Prop :=
 (∀ xs w, (callFunc f xs).run P w = .ok (.enter f xs) w) ∧
 ∀ (c : Cx) (w : World) (xs : Array Value), xs.size = args.length → (∀ j (h : j < args.length), VR c w args[j] (xs.getD j undef)) → Rep c w S → c.I = I → Calls P f xs w (AQ c w R)
theorem AFn.mono {P : Program} {I : Inv} {f : FuncId} {args : List V} {S : Mem} {R R' : V → Mem → Prop} (h : AFn P I f args S R) (hr : ∀ v S', R v S' → R' v S') : AFn P I f args S R' := by
 refine ⟨h.1, fun c w xs h1 h2 h3 hI cs => ?_⟩
 obtain ⟨e, w', fr, ⟨v, x, S', c', a1, a2, a3⟩, h⟩ := h.2 c w xs h1 h2 h3 hI cs
 exact ⟨e, w', fr, ⟨v, x, S', c', a1, hr _ _ a2, a3⟩, h⟩
section rules
variable {P : Program} {I : Inv} {z : Nat × Nat} {fn : FuncId} {k : List Item} {env : List V} {S : Mem} {R : V → Mem → Prop}
theorem ARun.same {k' : List Item} (hs : ∀ (b : Frame) (a : Act) (w : World) cs, Go.step P (lone (b.at a k) cs w) = .next (lone (b.at a k') cs w)) (h : ARun P I z fn k' env S R) : ARun P I z fn k env S R :=
 fun b a c w c0 w0 h1 h2 h3 h4 h5 h6 hI => Goes.step (fun cs => hs b a w cs) (h b a c w c0 w0 h1 h2 h3 h4 h5 h6 hI)
theorem ARun.skip (h : ARun P I z fn k env S R) : ARun P I z fn (.code .skip :: k) env S R := h.same fun _ _ _ _ => step_skip
theorem ARun.label {l : Nat} (h : ARun P I z fn k env S R) : ARun P I z fn (.code (.label l) :: k) env S R := h.same fun _ _ _ _ => step_label
theorem ARun.inBlock {id : Nat} (h : ARun P I z fn k env S R) : ARun P I z fn (.inBlock id :: k) env S R := h.same fun _ _ _ _ => step_inBlock
theorem ARun.seq {x y : Code} (h : ARun P I z fn (.code x :: .code y :: k) env S R) : ARun P I z fn (.code (.seq x y) :: k) env S R := h.same fun _ _ _ _ => step_seq
theorem ARun.block {id : Nat} {x : Code} (h : ARun P I z fn (.code x :: .inBlock id :: k) env S R) : ARun P I z fn (.code (.block id x) :: k) env S R := h.same fun _ _ _ _ => step_block
theorem ARun.loop {x : Code} (h : ARun P I z fn (.code x :: .inLoop x :: k) env S R) : ARun P I z fn (.code (.loop x) :: k) env S R := h.same fun _ _ _ _ => step_loop
theorem ARun.inLoop {x : Code} (h : ARun P I z fn (.code x :: .inLoop x :: k) env S R) : ARun P I z fn (.inLoop x :: k) env S R := h.same fun _ _ _ _ => step_inLoop
theorem ARun.exit {id : Nat} {k' : List Item} (he : exitTo id k = some k') (h : ARun P I z fn k' env S R) : ARun P I z fn (.code (.exit id) :: k) env S R := h.same fun _ _ _ _ => step_exit he
theorem ARun.region {id : Nat} {ops : Array Oper} (h : ARun P I z fn (.inRegion ops (List.range ops.size) :: k) env S R) : ARun P I z fn (.code (.region id ops false) :: k) env S R := h.same fun _ _ _ _ => step_region
theorem ARun.regionEnd {ops : Array Oper} (h : ARun P I z fn k env S R) : ARun P I z fn (.inRegion ops [] :: k) env S R := h.same fun _ _ _ _ => step_region_end
theorem ARun.cond {x : Operand} {y y2 : Code} {t : Bool} (hx : evalV I env x = .d (.bool t)) (h : ARun P I z fn (.code (if t then y else y2) :: k) env S R) : ARun P I z fn (.code (.cond x y y2) :: k) env S R := by
 intro b a c w c0 w0 h1 h2 h3 h4 h5 h6 hI
 have hv := EnvR.eval h5 h4 x
 rw [hI.1] at hv
 rw [hx] at hv
 have he : a.eval x = .bool t := by
  generalize a.eval x = q at hv
  cases hv with
  | d _ _ hv => cases hv; rfl
 exact Goes.step (fun cs => step_cond he) (h b a c w c0 w0 h1 h2 h3 h4 h5 h6 hI)
def setV (env : List V) (d : Option Tmp) (v : V) : List V :=
 match d with
 | some t => env.set t v
 | none => env
def guardV (env : List V) (ops : Array Oper) (j : Nat) : V :=
 match (ops[j]?).bind (·.dst) with
 | some t => env.getD t .undef
 | none => .undef
theorem guard_ok {c : Cx} {w : World} {a : Act} (he : EnvR c w env a.tmps) {ops : Array Oper} {j : Nat} {t : Bool} (h : guardV env ops j = .d (.bool t)) : yielded ops a.tmps j = some t := by
 unfold guardV at h
 unfold yielded
 cases ho : (ops[j]?).bind (·.dst) with
 | none => rw [ho] at h; cases h
 | some q =>
  rw [ho] at h
  simp only at h
  have hv := he.get q
  rw [h] at hv
  have hq : q < a.tmps.size := by
   rcases Nat.lt_or_ge q env.length with h' | h'
   ·rw [he.1]; exact h'
   ·have : env.getD q .undef = .undef := by simp [List.getD, h']
    rw [this] at h; cases h
  rw [getD_arr hq] at hv
  simp only [Option.bind_some, Array.getElem?_eq_getElem hq]
  generalize a.tmps[q] = x at hv
  cases hv with
  | d _ _ hv => cases hv; rfl
theorem guard_gone {c : Cx} {w : World} {a : Act} (he : EnvR c w env a.tmps) {ops : Array Oper} {j : Nat} (h : guardV env ops j = .tup []) : yielded ops a.tmps j = none := by
 unfold guardV at h
 unfold yielded
 cases ho : (ops[j]?).bind (·.dst) with
 | none => rw [ho] at h; cases h
 | some q =>
  rw [ho] at h
  simp only at h
  have hv := he.get q
  rw [h] at hv
  have hq : q < a.tmps.size := by
   rcases Nat.lt_or_ge q env.length with h' | h'
   ·rw [he.1]; exact h'
   ·have : env.getD q .undef = .undef := by simp [List.getD, h']
    rw [this] at h; cases h
  rw [getD_arr hq] at hv
  simp only [Option.bind_some, Array.getElem?_eq_getElem hq]
  generalize a.tmps[q] = x at hv
  cases hv
  rfl
def Skips (env : List V) (ops : Array Oper) (o : Oper) : Prop := ∃ j want, o.guard = some (j, want) ∧ ((∃ t, guardV env ops j = .d (.bool t) ∧ (t == want) = false) ∨ guardV env ops j = .tup [])
theorem ARun.opSkip {ops : Array Oper} {i : Nat} {rest : List Nat} {o : Oper} (ho : ops[i]? = some o) (hk : Skips env ops o)
 (h : ARun P I z fn (.inRegion ops rest :: k) (setV env o.dst (.tup [])) S R) : ARun P I z fn (.inRegion ops (i :: rest) :: k) env S R := by
 intro b a c w c0 w0 h1 h2 h3 h4 h5 h6 hI
 have hs : ∀ cs, Go.step P (lone (b.at a (.inRegion ops (i :: rest) :: k)) cs w) = .next (lone (b.at (a.put o.dst undef) (.inRegion ops rest :: k)) cs w) := by
  intro cs
  have := step_op_skip (P := P) (b := b) (a := a) (k := k) (cs := cs) (w := w) (ops := ops) (i := i) (rest := rest) (by
   obtain ⟨j, want, hg, ⟨t, ht, hne⟩ | ht⟩ := hk
   ·have hy := guard_ok h4 ht
    simp [ho, Region.wanted, hg, hy]
    simpa using hne
   ·have hy := guard_gone h4 ht
    simp [ho, Region.wanted, hg, hy])
  simpa [ho] using this
 refine Goes.step hs (h b (a.put o.dst undef) c w c0 w0 h1 h2 ?_ ?_ h5 h6 hI)
 ·cases o.dst <;> simpa [Act.put] using h3
 ·exact h4.put o.dst (.tup [] #[] rfl fun j h => absurd h (by simp))
def Wants (env : List V) (ops : Array Oper) (o : Oper) : Prop := o.guard = none ∨ ∃ j t, o.guard = some (j, t) ∧ guardV env ops j = .d (.bool t)
theorem wants_ok {c : Cx} {w : World} {a : Act} (he : EnvR c w env a.tmps) {ops : Array Oper} {o : Oper} (h : Wants env ops o) : Region.wanted o (yielded ops a.tmps) = true := by
 rcases h with h | ⟨j, t, h, hg⟩
 ·simp [Region.wanted, h]
 ·simp [Region.wanted, h, guard_ok he hg]
theorem ARun.op {ops : Array Oper} {i : Nat} {rest : List Nat} {o : Oper} {v : V} {S' : Mem} (ho : ops[i]? = some o) (hw : Wants env ops o) (hop : op1 P (evalV I env) S o.op = some (v, S'))
 (h : ARun P I z fn (.inRegion ops rest :: k) (setV env o.dst v) S' R) : ARun P I z fn (.inRegion ops (i :: rest) :: k) env S R := by
 intro b a c w c0 w0 h1 h2 h3 h4 h5 h6 hI
 obtain ⟨x, w', c', hrun, hrep, hext, hv⟩ := op1_ok h5 h4 o (by rw [hI.1]; exact hop)
 have hg := fun cs => stepG_op (P := P) (b := b) (k := k) (cs := cs) (w := w) (rest := rest) ho (wants_ok h4 hw)
 have hfin : ∀ v, (b.at a (.inRegion ops (i :: rest) :: k)).finish v = b.at (a.put o.dst v) (.inRegion ops rest :: k) := by
  intro v; rw [Frame.finish_at, ho]; rfl
 have hs : ∀ cs, Go.step P (lone (b.at a (.inRegion ops (i :: rest) :: k)) cs w) = .next (lone (b.at (a.put o.dst x) (.inRegion ops rest :: k)) cs w') := by
  intro cs
  refine step_lone_go ?_
  rw [hg cs, ← hfin]
  rcases hrun with hrun | ⟨hrun, rfl⟩
  ·simp [stepG.apply, hrun]
  ·simp [stepG.apply, hrun]
 refine Goes.step hs (h b (a.put o.dst x) c' w' c0 w0 h1 h2 ?_ ?_ hrep (h6.trans hext) ⟨hext.I.trans hI.1, hI.2⟩)
 ·cases o.dst <;> simpa [Act.put] using h3
 ·exact (h4.ext hext).put o.dst hv
theorem ARun.call {ops : Array Oper} {i : Nat} {rest : List Nat} {o : Oper} {q : Call} {f : Operand} {g : FuncId} {first caps : List V} (ho : ops[i]? = some o) (hw : Wants env ops o) (hop : o.op = .call q) (hc : q.callee = .value f) (hf : evalV I env f = .func g first caps)
 (h : AFn P I g (first ++ q.args.toList.map (evalV I env) ++ caps) S fun v S' => ARun P I z fn (.inRegion ops rest :: k) (setV env o.dst v) S' R) : ARun P I z fn (.inRegion ops (i :: rest) :: k) env S R := by
 intro b a c w c0 w0 h1 h2 h3 h4 h5 h6 hI cs
 have hv := EnvR.eval h5 h4 f
 rw [hI.1] at hv
 rw [hf] at hv
 obtain ⟨cf, cc, hfe, q1, q2, q3, q4⟩ : ∃ cf cc, a.eval f = .func (.func g) cf cc ∧ cf.size = first.length ∧ cc.size = caps.length ∧ (∀ j (h : j < first.length), VR c w first[j] (cf.getD j undef)) ∧ (∀ j (h : j < caps.length), VR c w caps[j] (cc.getD j undef)) := by
  generalize a.eval f = x at hv
  cases hv with
  | func _ _ _ cf cc h1 h2 h3 h4 => exact ⟨cf, cc, rfl, h1, h2, h3, h4⟩
 have hrun : (execOp a.eval o).run P w = .ok (.enter g (cf ++ q.args.map a.eval ++ cc)) w := by
  unfold execOp
  simp only [hop, resolve, hc, hfe, Deferred.ofValue, Sem.run_bind, Sem.run_pure, Result.andThen_ok, invoke]
  exact h.1 _ _
 have hg := stepG_op (P := P) (b := b) (k := k) (cs := cs) (w := w) (rest := rest) ho (wants_ok h4 hw)
 have henter : Go.step P (lone (b.at a (.inRegion ops (i :: rest) :: k)) cs w) = .next (lone (Frame.enter P g (cf ++ q.args.map a.eval ++ cc) .normal) (b.at a (.inRegion ops (i :: rest) :: k) :: cs) w) :=
  step_lone_go (by rw [hg]; simp [stepG.apply, hrun, Frame.at])
 have hfin : ∀ v, (b.at a (.inRegion ops (i :: rest) :: k)).finish v = b.at (a.put o.dst v) (.inRegion ops rest :: k) := by
  intro v; rw [Frame.finish_at, ho]; rfl
 have hargs : ∀ j (h : j < (first ++ q.args.toList.map (evalV I env) ++ caps).length), VR c w (first ++ q.args.toList.map (evalV I env) ++ caps)[j] ((cf ++ q.args.map a.eval ++ cc).getD j undef) := by
  intro j hj
  rcases Nat.lt_or_ge j first.length with hlt | hge
  ·have e1 : (first ++ q.args.toList.map (evalV I env) ++ caps)[j] = first[j] := by
    rw [List.getElem_append_left (by simp; omega), List.getElem_append_left hlt]
   have e2 : (cf ++ q.args.map a.eval ++ cc).getD j undef = cf.getD j undef := by
    rw [getD_arr (by simp; omega), getD_arr (by omega), Array.getElem_append_left (by simp; omega), Array.getElem_append_left (by omega)]
   rw [e1, e2]
   exact q3 j hlt
  ·rcases Nat.lt_or_ge j (first.length + q.args.size) with hlt2 | hge2
   ·have e1 : (first ++ q.args.toList.map (evalV I env) ++ caps)[j] = evalV I env (q.args[j - first.length]'(by omega)) := by
     rw [List.getElem_append_left (by simp; omega), List.getElem_append_right hge]
     simp
    have e2 : (cf ++ q.args.map a.eval ++ cc).getD j undef = a.eval (q.args[j - first.length]'(by omega)) := by
     rw [getD_arr (by simp; omega), Array.getElem_append_left (by simp; omega), Array.getElem_append_right (by omega)]
     simp [q1]
    rw [e1, e2]
    have := EnvR.eval h5 h4 (q.args[j - first.length]'(by omega))
    rw [hI.1] at this
    exact this
   ·have hj' : j - (first.length + q.args.size) < caps.length := by simp at hj; omega
    have e1 : (first ++ q.args.toList.map (evalV I env) ++ caps)[j] = caps[j - (first.length + q.args.size)] := by
     rw [List.getElem_append_right (by simp; omega)]
     congr 1; simp
    have e2 : (cf ++ q.args.map a.eval ++ cc).getD j undef = cc.getD (j - (first.length + q.args.size)) undef := by
     rw [getD_arr (by simp; omega), getD_arr (by omega), Array.getElem_append_right (by simp; omega)]
     congr 1; simp [q1]
    rw [e1, e2]
    exact q4 _ hj'
 obtain ⟨e, w', fr, ⟨v, x, S', c', rfl, hR, hrep, hext, hvr⟩, hcomes, hfn, hleave⟩ := h.2 c w (cf ++ q.args.map a.eval ++ cc) (by simp [q1, q2]) hargs h5 hI.1 (b.at a (.inRegion ops (i :: rest) :: k) :: cs)
 obtain ⟨e2, w2, fr2, g1, g2, g3⟩ := hR b (a.put o.dst x) c' w' c0 w0 h1 h2 (by cases o.dst <;> simpa [Act.put] using h3) ((h4.ext hext).put o.dst hvr) hrep (h6.trans hext) ⟨hext.I.trans hI.1, hI.2⟩ cs
 refine ⟨e2, w2, fr2, g1, .of_steps (.head henter (Steps.trans hcomes (.one ?_))) g2, g3⟩
 rw [← hfin]; exact step_leave_returned hleave
def resV1 (P : Program) (S : Mem) (env : List V) : ResultVar → Option V
 | .tmp t => some (env.getD t .undef)
 | .cell a t => opLoad P S t (env.getD a .undef)
def resV (P : Program) (S : Mem) (env : List V) : List ResultVar → Option V
 | [] => some (.tup [])
 | [r] => resV1 P S env r
 | [r, u] => match resV1 P S env r, resV1 P S env u with
  | some a, some b => some (.tup [a, b])
  | _, _ => none
 | [r, u, s] => match resV1 P S env r, resV1 P S env u, resV1 P S env s with
  | some a, some b, some d => some (.tup [a, b, d])
  | _, _, _ => none
 | _ => none
def resRun (tmps : Array Value) (r : ResultVar) : Sem Value :=
 match r with
 | .tmp t => pure (tmps.getD t undef)
 | .cell a t => do loadVar t (← asAddr (tmps.getD a undef))
theorem resRun_eq (f : Func) (tmps : Array Value) : results f tmps = (do
 let vs ← f.results.mapM (resRun tmps)
 pure (if h : vs.size = 1 then vs[0] else .tuple vs)) := by
 unfold results
 congr 1
theorem resV1_ok {c : Cx} {w : World} {tmps : Array Value} (h5 : Rep c w S) (he : EnvR c w env tmps) {r : ResultVar} {v : V} (hv : resV1 P S env r = some v) : ∃ x, (resRun tmps r).run P w = .ok x w ∧ VR c w v x := by
 cases r with
 | tmp t =>
  obtain rfl := Option.some.inj hv
  exact ⟨_, rfl, he.get t⟩
 | cell a t =>
  have hv : opLoad P S t (env.getD a .undef) = some v := hv
  obtain ⟨y, hy, hr⟩ := load_ok (P := P) h5 t (he.get a) hv
  refine ⟨y, ?_, hr⟩
  rw [← hy]
  have hp : ∃ p, tmps.getD a undef = .pointer (some p) := by
   have := he.get a
   unfold opLoad at hv
   split at hv
   ·rename_i heq; rw [heq] at this; generalize tmps.getD a undef = z at this; cases this; exact ⟨_, rfl⟩
   ·rename_i heq; rw [heq] at this; generalize tmps.getD a undef = z at this; cases this; exact ⟨_, rfl⟩
   ·cases hv
  obtain ⟨p, hp⟩ := hp
  simp only [resRun, Instr.loadAt, hp, asAddr, Instr.sureAddr]
theorem resV_ok {c : Cx} {w : World} {tmps : Array Value} (h5 : Rep c w S) (he : EnvR c w env tmps) {f : Func} {v : V} (hv : resV P S env f.results.toList = some v) : ∃ x, (results f tmps).run P w = .ok x w ∧ VR c w v x := by
 rw [resRun_eq]
 unfold resV at hv
 split at hv
 case h_5 => cases hv
 ·rename_i ht
  obtain rfl := Option.some.inj hv
  have : f.results = #[] := by apply Array.toList_inj.1; rw [ht]
  exact ⟨.tuple #[], by simp [this], .tup _ _ rfl (fun j h => by simp at h)⟩
 ·rename_i r ht
  have : f.results = #[r] := by apply Array.toList_inj.1; rw [ht]
  obtain ⟨x, hx, hr⟩ := resV1_ok h5 he hv
  exact ⟨x, by simp [this, hx], hr⟩
 ·rename_i r u ht
  have : f.results = #[r, u] := by apply Array.toList_inj.1; rw [ht]
  split at hv
  case h_2 => cases hv
  rename_i a b ha hb
  obtain rfl := Option.some.inj hv
  obtain ⟨x, hx, hr⟩ := resV1_ok h5 he ha
  obtain ⟨y, hy, hs⟩ := resV1_ok h5 he hb
  refine ⟨.tuple #[x, y], by simp [this, hx, hy], .tup _ _ rfl (fun j h => ?_)⟩
  match j, h with
  | 0, _ => exact hr
  | 1, _ => exact hs
 ·rename_i r u s ht
  have : f.results = #[r, u, s] := by apply Array.toList_inj.1; rw [ht]
  split at hv
  case h_2 => cases hv
  rename_i a b d ha hb hd
  obtain rfl := Option.some.inj hv
  obtain ⟨x, hx, hr⟩ := resV1_ok h5 he ha
  obtain ⟨y, hy, hs⟩ := resV1_ok h5 he hb
  obtain ⟨z, hz, hq⟩ := resV1_ok h5 he hd
  refine ⟨.tuple #[x, y, z], by simp [this, hx, hy, hz], .tup _ _ rfl (fun j h => ?_)⟩
  match j, h with
  | 0, _ => exact hr
  | 1, _ => exact hs
  | 2, _ => exact hq
theorem ARun.ret {f : Func} {v : V} (hf : P.funcs[fn]? = some f) (hv : resV P S env f.results.toList = some v) (hR : R v S) : ARun P I z fn (.code .ret :: k) env S R := by
 intro b a c w c0 w0 h1 h2 h3 h4 h5 h6 hI cs
 obtain ⟨x, hx, hvr⟩ := resV_ok (P := P) h5 h4 hv
 exact ⟨.returned x, w, { b.at a (.code .ret :: k) with mode := .returning }, ⟨v, x, S, c, rfl, hR, h5, h6, hvr⟩, .one step_ret, rfl, rfl, h3, h2, f, by show P.funcs[b.fn]? = some f; rw [h1]; exact hf, hx⟩
theorem ARun.fin {f : Func} {v : V} (hf : P.funcs[fn]? = some f) (hv : resV P S env f.results.toList = some v) (hR : R v S) : ARun P I z fn [] env S R := by
 intro b a c w c0 w0 h1 h2 h3 h4 h5 h6 hI cs
 obtain ⟨x, hx, hvr⟩ := resV_ok (P := P) h5 h4 hv
 exact ⟨.returned x, w, { b.at a [] with mode := .returning }, ⟨v, x, S, c, rfl, hR, h5, h6, hvr⟩, .one step_end, rfl, rfl, h3, h2, f, by show P.funcs[b.fn]? = some f; rw [h1]; exact hf, hx⟩
theorem AFn.enter {f : Func} {body : Code} {args : List V} (hf : P.funcs[fn]? = some f) (hb : f.body = some body) (hname : (f.name == "runtime.NumGoroutine") = false)
 (h : ARun P I (S.boxes.length, S.toks.length) fn [.code body] (args ++ List.replicate (f.ntmps - args.length) .undef) S R) : AFn P I fn args S R := by
 have hn : ¬ f.name = "runtime.NumGoroutine" := by simpa using hname
 refine ⟨fun xs w => by simp [callFunc, hf, hn, hb], fun c w xs h1 h2 h3 hI cs => ?_⟩
 let b : Frame := { (default : Frame) with fn := fn, kind := .normal }
 have henter : Frame.enter P fn xs .normal = b.at { tmps := xs ++ Array.replicate (f.ntmps - xs.size) undef, defers := [] } [.code body] := by
  simp [Frame.enter, Frame.at, hf, hb, b]
 rw [henter]
 refine h b _ c w c w rfl rfl rfl ⟨by simp [h1], fun t ht => ?_⟩ h3 (.refl _ _) ⟨hI, h3.len.symm, by rw [h3.toks]; simp⟩ cs
 rcases Nat.lt_or_ge t args.length with hlt | hge
 ·rw [List.getElem_append_left hlt]
  have := h2 t hlt
  rw [getD_arr (by omega)] at this
  rw [getD_arr (by simp; omega), Array.getElem_append_left (by omega)]
  exact this
 ·rw [List.getElem_append_right hge]
  simp only [List.getElem_replicate]
  exact .undef _
end rules
abbrev Cont := List Item → List V → Mem → Prop
def condS (next : Cont) (t : Bool) (k1 : List Item) (e1 : List V) (k2 : List Item) (e2 : List V) (S : Mem) : Prop := if t then next k1 e1 S else next k2 e2 S
def bindS (next : Cont) (r : Option (V × Mem)) (k : List Item) (d : Option Tmp) (env : List V) : Prop :=
 match r with
 | some (v, S) => next k (setV env d v) S
 | none => False
def callS (P : Program) (I : Inv) (stop : Cont) (f : V) (args : List V) (k : List Item) (d : Option Tmp) (env : List V) (S : Mem) : Prop :=
 match f with
 | .func g first caps => AFn P I g (first ++ args ++ caps) S fun v S' => stop k (setV env d v) S'
 | _ => False
def doOp (P : Program) (I : Inv) (next stop : Cont) (ops : Array Oper) (rest : List Nat) (o : Oper) (k : List Item) (env : List V) (S : Mem) : Prop :=
 match o.op with
 | .call q => match q.callee with
  | .value f => callS P I stop (evalV I env f) (q.args.toList.map (evalV I env)) (.inRegion ops rest :: k) o.dst env S
  | _ => bindS next (opCall P (evalV I env) S q) (.inRegion ops rest :: k) o.dst env
 | op => bindS next (op1 P (evalV I env) S op) (.inRegion ops rest :: k) o.dst env
def guardB (P : Program) (I : Inv) (next stop : Cont) (t : Bool) (want : Bool) (ops : Array Oper) (rest : List Nat) (o : Oper) (k : List Item) (env : List V) (S : Mem) : Prop :=
 if (t == want) = true then doOp P I next stop ops rest o k env S else next (.inRegion ops rest :: k) (setV env o.dst (.tup [])) S
theorem guardB_yes (P : Program) (I : Inv) (next stop : Cont) (b : Bool) (ops : Array Oper) (rest : List Nat) (o : Oper) (k : List Item) (env : List V) (S : Mem) : guardB P I next stop b b ops rest o k env S = doOp P I next stop ops rest o k env S := by simp [guardB]
theorem guardB_tf (P : Program) (I : Inv) (next stop : Cont) (ops : Array Oper) (rest : List Nat) (o : Oper) (k : List Item) (env : List V) (S : Mem) : guardB P I next stop true false ops rest o k env S = next (.inRegion ops rest :: k) (setV env o.dst (.tup [])) S := by simp [guardB]
theorem guardB_ft (P : Program) (I : Inv) (next stop : Cont) (ops : Array Oper) (rest : List Nat) (o : Oper) (k : List Item) (env : List V) (S : Mem) : guardB P I next stop false true ops rest o k env S = next (.inRegion ops rest :: k) (setV env o.dst (.tup [])) S := by simp [guardB]
theorem guardB_of {P : Program} {I : Inv} {next stop : Cont} {t want : Bool} {ops : Array Oper} {rest : List Nat} {o : Oper} {k : List Item} {env : List V} {S : Mem} (h1 : t = true → guardB P I next stop true want ops rest o k env S) (h2 : t = false → guardB P I next stop false want ops rest o k env S) : guardB P I next stop t want ops rest o k env S := by
 cases t
 ·exact h2 rfl
 ·exact h1 rfl
def guardS (P : Program) (I : Inv) (next stop : Cont) (g : V) (want : Bool) (ops : Array Oper) (rest : List Nat) (o : Oper) (k : List Item) (env : List V) (S : Mem) : Prop :=
 match g with
 | .d (.bool t) => guardB P I next stop t want ops rest o k env S
 | .tup [] => next (.inRegion ops rest :: k) (setV env o.dst (.tup [])) S
 | _ => False
def regS (P : Program) (I : Inv) (next stop : Cont) (ops : Array Oper) (i : Nat) (rest : List Nat) (k : List Item) (env : List V) (S : Mem) : Prop :=
 match ops[i]? with
 | some o => match o.guard with
  | none => doOp P I next stop ops rest o k env S
  | some (j, want) => guardS P I next stop (guardV env ops j) want ops rest o k env S
 | none => False
def upTo (i : Nat) : List Oper → List Nat
 | [] => []
 | _ :: l => i :: upTo (i + 1) l
theorem upTo_range : ∀ (l : List Oper) (i : Nat), upTo i l = List.range' i l.length
 | [], _ => rfl
 | _ :: l, i => by rw [upTo, upTo_range l]; rfl
theorem upTo_ops (ops : Array Oper) : upTo 0 ops.toList = List.range ops.size := by rw [upTo_range, List.range_eq_range']; simp
def codeS (I : Inv) (next stop : Cont) (c : Code) (k : List Item) (env : List V) (S : Mem) : Prop :=
 match c with
 | .seq a b => next (.code a :: .code b :: k) env S
 | .skip => next k env S
 | .label _ => next k env S
 | .block id a => next (.code a :: .inBlock id :: k) env S
 | .region _ ops false => next (.inRegion ops (upTo 0 ops.toList) :: k) env S
 | .cond x a b => match evalV I env x with
  | .d (.bool t) => condS next t (.code a :: k) env (.code b :: k) env S
  | _ => False
 | .exit id => match exitTo id k with
  | some k' => next k' env S
  | none => False
 | c => stop (.code c :: k) env S
def itemS (P : Program) (I : Inv) (next stop : Cont) (k : List Item) (env : List V) (S : Mem) : Prop :=
 match k with
 | .code c :: k => codeS I next stop c k env S
 | .inBlock _ :: k => next k env S
 | .inRegion _ [] :: k => next k env S
 | .inRegion ops (i :: rest) :: k => regS P I next stop ops i rest k env S
 | k => stop k env S
def steps (P : Program) (I : Inv) : Nat → Cont → Cont
 | 0, stop => stop
 | n + 1, stop => itemS P I (steps P I n stop) stop
theorem condS_true (next : Cont) (k1 : List Item) (e1 : List V) (k2 : List Item) (e2 : List V) (S : Mem) : condS next true k1 e1 k2 e2 S = next k1 e1 S := rfl
theorem condS_false (next : Cont) (k1 : List Item) (e1 : List V) (k2 : List Item) (e2 : List V) (S : Mem) : condS next false k1 e1 k2 e2 S = next k2 e2 S := rfl
theorem condS_of {next : Cont} {t : Bool} {k1 : List Item} {e1 : List V} {k2 : List Item} {e2 : List V} {S : Mem} (h1 : t = true → next k1 e1 S) (h2 : t = false → next k2 e2 S) : condS next t k1 e1 k2 e2 S := by
 cases t
 ·exact h2 rfl
 ·exact h1 rfl
theorem bindS_some (next : Cont) (v : V) (S : Mem) (k : List Item) (d : Option Tmp) (env : List V) : bindS next (some (v, S)) k d env = next k (setV env d v) S := rfl
theorem steps_zero (P : Program) (I : Inv) (stop : Cont) (k : List Item) (env : List V) (S : Mem) : steps P I 0 stop k env S = stop k env S := rfl
theorem steps_succ (P : Program) (I : Inv) (n : Nat) (stop : Cont) (k : List Item) (env : List V) (S : Mem) : steps P I (n + 1) stop k env S = itemS P I (steps P I n stop) stop k env S := rfl
theorem callS_fn {P : Program} {I : Inv} {stop : Cont} {g : FuncId} {args : List V} {k : List Item} {d : Option Tmp} {env : List V} {S : Mem} {Q : V → Mem → Prop} (h : AFn P I g args S Q) (hk : ∀ v S', Q v S' → stop k (setV env d v) S') : callS P I stop (.func g [] []) args k d env S := by
 unfold callS
 simp only [List.nil_append, List.append_nil]
 exact h.mono hk
theorem callS_of {P : Program} {I : Inv} {stop : Cont} {g : FuncId} {first args caps : List V} {k : List Item} {d : Option Tmp} {env : List V} {S : Mem} {Q : V → Mem → Prop} (h : AFn P I g (first ++ args ++ caps) S Q) (hk : ∀ v S', Q v S' → stop k (setV env d v) S') : callS P I stop (.func g first caps) args k d env S := h.mono hk
section
variable {P : Program} {I : Inv} {z : Nat × Nat} {fn : FuncId} {R : V → Mem → Prop}
theorem itemS_ok {next stop : Cont} (hn : ∀ k env S, next k env S → ARun P I z fn k env S R) (hs : ∀ k env S, stop k env S → ARun P I z fn k env S R) (k : List Item) (env : List V) (S : Mem) (h : itemS P I next stop k env S) : ARun P I z fn k env S R := by
 have hdo : ∀ (ops : Array Oper) (i : Nat) (rest : List Nat) (o : Oper) (k : List Item) (env : List V) (S : Mem), ops[i]? = some o → Wants env ops o → doOp P I next stop ops rest o k env S → ARun P I z fn (.inRegion ops (i :: rest) :: k) env S R := by
  intro ops i rest o k env S ho hw hd
  have hb : ∀ r, op1 P (evalV I env) S o.op = r → bindS next r (.inRegion ops rest :: k) o.dst env → ARun P I z fn (.inRegion ops (i :: rest) :: k) env S R := by
   intro r hr hb
   cases r with
   | none => exact hb.elim
   | some p => exact .op ho hw hr (hn _ _ _ hb)
  unfold doOp at hd
  split at hd
  ·rename_i q hq
   split at hd
   ·rename_i f hf
    unfold callS at hd
    split at hd
    ·rename_i g first caps hg
     exact .call ho hw hq hf hg (hd.mono fun v S' h => hs _ _ _ h)
    ·exact hd.elim
   ·exact hb _ (by rw [hq]; rfl) hd
  ·exact hb _ rfl hd
 unfold itemS at h
 split at h
 ·rename_i c k
  unfold codeS at h
  split at h
  ·exact .seq (hn _ _ _ h)
  ·exact .skip (hn _ _ _ h)
  ·exact .label (hn _ _ _ h)
  ·exact .block (hn _ _ _ h)
  ·rw [upTo_ops] at h
   exact .region (hn _ _ _ h)
  ·rename_i x a b
   split at h
   ·rename_i t ht
    refine .cond ht ?_
    unfold condS at h
    split at h
    ·rename_i ht2; rw [ht2]; exact hn _ _ _ h
    ·rename_i ht2
     have : t = false := by simpa using ht2
     rw [this]; exact hn _ _ _ h
   ·exact h.elim
  ·split at h
   ·rename_i k' hk
    exact .exit hk (hn _ _ _ h)
   ·exact h.elim
  ·exact hs _ _ _ h
 ·exact .inBlock (hn _ _ _ h)
 ·exact .regionEnd (hn _ _ _ h)
 ·rename_i ops i rest k
  unfold regS at h
  split at h
  ·rename_i o ho
   split at h
   ·rename_i hg
    exact hdo _ _ _ _ _ _ _ ho (.inl hg) h
   ·rename_i j want hg
    unfold guardS at h
    split at h
    ·rename_i t ht
     unfold guardB at h
     split at h
     ·rename_i hw
      have : t = want := by simpa using hw
      subst this
      exact hdo _ _ _ _ _ _ _ ho (.inr ⟨j, t, hg, ht⟩) h
     ·rename_i hw
      exact .opSkip ho ⟨j, want, hg, .inl ⟨t, ht, by simpa using hw⟩⟩ (hn _ _ _ h)
    ·rename_i ht
     exact .opSkip ho ⟨j, want, hg, .inr ht⟩ (hn _ _ _ h)
    ·exact h.elim
  ·exact h.elim
 ·exact hs _ _ _ h
theorem steps_ok {stop : Cont} (hs : ∀ k env S, stop k env S → ARun P I z fn k env S R) : ∀ (n : Nat) (k : List Item) (env : List V) (S : Mem), steps P I n stop k env S → ARun P I z fn k env S R
 | 0, _, _, _, h => hs _ _ _ h
 | n + 1, k, env, S, h => itemS_ok (steps_ok hs n) hs k env S h
theorem ARun.go (n : Nat) {k : List Item} {env : List V} {S : Mem} (h : steps P I n (fun k env S => ARun P I z fn k env S R) k env S) : ARun P I z fn k env S R := steps_ok (fun _ _ _ h => h) n k env S h
theorem ARun.token {k : List Item} {env : List V} {S : Mem} (q : Nat) (rows : List (List D)) (hq : env.getD q .undef = .sl rows .full) (sz : Nat) (h0 : 0 < sz) (hsz : rowsSz sz rows = true)
 (h : ARun P I z fn k (env.set q (.sl rows (.own S.toks.length))) { S with toks := S.toks ++ [(rows.length, sz)] } R) : ARun P I z fn k env S R := by
 intro b a c w c0 w0 h1 h2 h3 h4 h5 h6 hI
 have hv := h4.get q
 rw [hq] at hv
 obtain ⟨c', r1, r2, r3⟩ := h5.token hv sz h0 (rowsSz_iff hsz)
 refine h b a c' w c0 w0 h1 h2 h3 ?_ r1 (h6.trans r2) ⟨r2.I.trans hI.1, hI.2⟩
 have he := h4.ext r2
 refine ⟨by simpa using he.1, fun t ht => ?_⟩
 have ht' : t < env.length := by simpa using ht
 by_cases e : q = t
 ·subst e; simpa using r3
 ·have := he.2 t ht'
  simpa [e] using this
end
mutual
def wk (n m : Nat) : V → V
 | .undef => .undef
 | .d x => .d x
 | .sl rows .full => .d (.sl rows)
 | .sl rows (.own t) => if t < m then .sl rows (.own t) else .d (.sl rows)
 | .ptr i k => if i < n then .ptr i k else .undef
 | .eptr r k => .eptr r k
 | .bx i k cap => if i < n then .bx i k cap else .undef
 | .self i T => if i < n then .self i T else .undef
 | .buf rows t T => if t < m then .buf rows t T else .d (.sl rows)
 | .nilp => .nilp
 | .func f a b => .func f (wkL n m a) (wkL n m b)
 | .nilf => .nilf
 | .agg vs => .agg (wkL n m vs)
 | .tup vs => .tup (wkL n m vs)
def wkL (n m : Nat) : List V → List V
 | [] => []
 | v :: vs => wk n m v :: wkL n m vs
end
theorem wkL_map (n m : Nat) : ∀ vs : List V, wkL n m vs = vs.map (wk n m)
 | [] => by simp [wkL]
 | v :: vs => by simp [wkL, wkL_map n m vs]
mutual
def fit (n m : Nat) : V → Bool
 | .undef => true
 | .d _ => true
 | .sl _ .full => true
 | .sl _ (.own t) => decide (t < m)
 | .ptr i _ => decide (i < n)
 | .eptr _ _ => true
 | .bx i _ _ => decide (i < n)
 | .self i _ => decide (i < n)
 | .buf _ t _ => decide (t < m)
 | .nilp => true
 | .nilf => true
 | .func _ a b => fitL n m a && fitL n m b
 | .agg vs => fitL n m vs
 | .tup vs => fitL n m vs
def fitL (n m : Nat) : List V → Bool
 | [] => true
 | v :: vs => fit n m v && fitL n m vs
end
theorem fitL_iff (n m : Nat) : ∀ vs : List V, fitL n m vs = true ↔ ∀ (j : Nat) (h : j < vs.length), fit n m vs[j] = true
 | [] => by simp [fitL]
 | v :: vs => by
  simp only [fitL, Bool.and_eq_true, fitL_iff n m vs]
  constructor
  ·rintro ⟨h1, h2⟩ j hj
   cases j with
   | zero => exact h1
   | succ j => exact h2 j (by simpa using hj)
  ·intro h
   exact ⟨h 0 (by simp), fun j hj => h (j + 1) (by simpa using hj)⟩
def Cx.cut (c : Cx) (n m : Nat) : Cx := { c with ρ := c.ρ.take n, τ := c.τ.take m }
theorem cut_M {c : Cx} {n m g k : Nat} (h : (c.cut n m).M g k) : c.M g k := by
 rcases h with (h | h) | ⟨t, i, off, ht, r⟩
 ·exact .inl (.inl h)
 ·exact .inl (.inr (List.mem_of_mem_take h))
 ·have ht' : (c.τ.take m)[t]? = some i := ht
  rw [List.getElem?_take] at ht'
  split at ht'
  ·exact .inr ⟨t, i, off, ht', r⟩
  ·cases ht'
theorem DR.cut {c : Cx} {w : World} (n m : Nat) {x : D} {v : Value} (h : DR c.M w x v) : DR (c.cut n m).M w x v := h.mono fun _ _ _ hm hv => ⟨fun h => hm (cut_M h), hv⟩
theorem get_take {α : Type} {l : List α} {n i : Nat} {x : α} (h : l[i]? = some x) (hi : i < n) : (l.take n)[i]? = some x := by rw [List.getElem?_take, if_pos hi]; exact h
theorem VR.cut {c : Cx} {w : World} (n m : Nat) {x : V} {v : Value} (h : VR c w x v) : VR (c.cut n m) w (wk n m x) v := by
 induction h with
 | undef v => unfold wk; exact .undef v
 | d x v h => unfold wk; exact .d x v (h.cut n m)
 | full rows a h ha => unfold wk; exact .d _ _ (h.cut n m)
 | own rows t a cap i h ht hr hn hl =>
  unfold wk
  split
  ·rename_i hlt
   exact .own rows t a cap i (h.cut n m) (get_take ht hlt) hr hn hl
  ·exact .d _ _ (h.cut n m)
 | ptr i k b h =>
  unfold wk
  split
  ·rename_i hlt
   exact .ptr i k b (get_take h hlt)
  ·exact .undef _
 | eptr row k g o f h =>
  unfold wk
  refine .eptr row k g o f fun q hq => ?_
  obtain ⟨a, b, d⟩ := h q hq
  exact ⟨fun h => a (cut_M h), b, d.cut n m⟩
 | bx i k cap b h hn hm =>
  unfold wk
  split
  ·rename_i hlt
   exact .bx i k cap b (get_take h hlt) hn hm
  ·exact .undef _
 | self i T b v h hT hv =>
  unfold wk
  split
  ·rename_i hlt
   exact .self i T b v (get_take h hlt) hT hv
  ·exact .undef _
 | buf rows t T v h hT ih =>
  unfold wk at ih ⊢
  split
  ·rename_i hlt
   rw [if_pos hlt] at ih
   exact .buf rows t T v ih hT
  ·rename_i hlt
   rw [if_neg hlt] at ih
   exact ih
 | nilp => unfold wk; exact .nilp
 | func f first caps cf cc h1 h2 h3 h4 ih1 ih2 =>
  unfold wk
  rw [wkL_map, wkL_map]
  exact .func f _ _ cf cc (by simpa using h1) (by simpa using h2) (fun j hj => by simpa using ih1 j (by simpa using hj)) (fun j hj => by simpa using ih2 j (by simpa using hj))
 | nilf => unfold wk; exact .nilf
 | agg vs cs h1 h2 h3 ih =>
  unfold wk
  rw [wkL_map]
  exact .agg _ cs (by simpa using h1) (fun j hj => by simpa using ih j (by simpa using hj)) (fun j hj => h3 j (by simpa using hj))
 | tup vs cs h1 h2 ih =>
  unfold wk
  rw [wkL_map]
  exact .tup _ cs (by simpa using h1) (fun j hj => by simpa using ih j (by simpa using hj))
theorem VR.cut_fit {c : Cx} {w : World} (n m : Nat) {x : V} {v : Value} (h : VR c w x v) (hf : fit n m x = true) : VR (c.cut n m) w x v := by
 induction h with
 | undef v => exact .undef v
 | d x v h => exact .d x v (h.cut n m)
 | full rows a h ha => exact .full rows a (h.cut n m) ha
 | own rows t a cap i h ht hr hn hl => exact .own rows t a cap i (h.cut n m) (get_take ht (by simpa [fit] using hf)) hr hn hl
 | ptr i k b h => exact .ptr i k b (get_take h (by simpa [fit] using hf))
 | bx i k cap b h hn hm => exact .bx i k cap b (get_take h (by simpa [fit] using hf)) hn hm
 | self i T b v h hT hv => exact .self i T b v (get_take h (by simpa [fit] using hf)) hT hv
 | buf rows t T v h hT ih => exact .buf rows t T v (ih (by simpa [fit] using hf)) hT
 | eptr row k g o f h =>
  refine .eptr row k g o f fun q hq => ?_
  obtain ⟨a, b, d⟩ := h q hq
  exact ⟨fun h => a (cut_M h), b, d.cut n m⟩
 | nilp => exact .nilp
 | nilf => exact .nilf
 | func f first caps cf cc h1 h2 h3 h4 ih1 ih2 =>
  unfold fit at hf
  rw [Bool.and_eq_true, fitL_iff, fitL_iff] at hf
  exact .func f first caps cf cc h1 h2 (fun j hj => ih1 j hj (hf.1 j hj)) (fun j hj => ih2 j hj (hf.2 j hj))
 | agg vs cs h1 h2 h3 ih =>
  unfold fit at hf
  rw [fitL_iff] at hf
  exact .agg vs cs h1 (fun j hj => ih j hj (hf j hj)) h3
 | tup vs cs h1 h2 ih =>
  unfold fit at hf
  rw [fitL_iff] at hf
  exact .tup vs cs h1 (fun j hj => ih j hj (hf j hj))
theorem VR.fits {c : Cx} {w : World} {x : V} {v : Value} (h : VR c w x v) : fit c.ρ.length c.τ.length x = true := by
 induction h with
 | own rows t a cap i h ht hr hn hl => simpa [fit] using (List.getElem?_eq_some_iff.1 ht).1
 | ptr i k b h => simpa [fit] using (List.getElem?_eq_some_iff.1 h).1
 | bx i k cap b h hn hm => simpa [fit] using (List.getElem?_eq_some_iff.1 h).1
 | self i T b v h hT hv => simpa [fit] using (List.getElem?_eq_some_iff.1 h).1
 | buf rows t T v h hT ih => simpa [fit] using ih
 | func f first caps cf cc h1 h2 h3 h4 ih1 ih2 => unfold fit; rw [Bool.and_eq_true, fitL_iff, fitL_iff]; exact ⟨ih1, ih2⟩
 | agg vs cs h1 h2 h3 ih => unfold fit; rw [fitL_iff]; exact ih
 | tup vs cs h1 h2 ih => unfold fit; rw [fitL_iff]; exact ih
 | _ => simp [fit]
def FitL (n m : Nat) (B L : List (List V)) : Prop := ∀ (i : Nat) (vs : List V), L[i]? = some vs → B[i]? = some vs ∨ vs.all (fit n m) = true
theorem FitL.refl (n m : Nat) (B : List (List V)) : FitL n m B B := fun _ _ h => .inl h
theorem FitL.set {n m : Nat} {B L : List (List V)} (h : FitL n m B L) (i : Nat) {vs : List V} (hv : vs.all (fit n m) = true) : FitL n m B (L.set i vs) := by
 intro j us hj
 by_cases e : j = i
 ·subst e
  rw [List.getElem?_set_self'] at hj
  cases hl : L[j]? with
  | none => rw [hl] at hj; cases hj
  | some _ =>
   rw [hl] at hj
   obtain rfl : vs = us := by simpa using hj
   exact .inr hv
 ·rw [List.getElem?_set_ne (fun h => e h.symm)] at hj
  exact h j us hj
theorem prefix_take {c0 c : Cx} {w0 w : World} (hk : Keeps c0 w0 c w) : c.ρ.take c0.ρ.length = c0.ρ := by
 apply List.ext_getElem?
 intro i
 rcases Nat.lt_or_ge i c0.ρ.length with h | h
 ·rw [List.getElem?_take, if_pos h, List.getElem?_eq_getElem h]
  exact hk.ρ i _ (List.getElem?_eq_getElem h)
 ·rw [List.getElem?_take, if_neg (by omega), List.getElem?_eq_none h]
theorem forget {c0 c : Cx} {w0 w : World} {S : Mem} {v : V} {x : Value} {L J : List (List V)} {T K : List (Nat × Nat)} (h0 : Rep c0 w0 S) (hx : Ext c0 w0 c w) (h : Rep c w ⟨L ++ J, T ++ K⟩) (hv : VR c w v x) (hL : L.length = S.boxes.length) (hT : T.length = S.toks.length) (hf : FitL S.boxes.length S.toks.length S.boxes L) :
 Rep (c.cut S.boxes.length S.toks.length) w ⟨L, T⟩ ∧ Ext c0 w0 (c.cut S.boxes.length S.toks.length) w ∧ VR (c.cut S.boxes.length S.toks.length) w (wk S.boxes.length S.toks.length v) x := by
 have e1 : S.boxes.length = c0.ρ.length := h0.len
 have e2 : S.toks.length = c0.τ.length := by rw [h0.toks]; simp
 have hp := prefix_take hx.keeps
 have hn : c0.ρ.length ≤ c.ρ.length := by
  have := congrArg List.length hp
  simp at this; omega
 refine ⟨⟨by rw [show (c.cut S.boxes.length S.toks.length).B = c.B from rfl]; exact h.hB, ?_, fun i b hi => ?_, fun i j b hi hj => ?_, ?_, fun t i ht => ?_, fun t t' i i' g off off' ht ht' => ?_, h.inv⟩, ⟨⟨fun g k v hm hv => ?_, fun i b hi => ?_, fun t i hi => ?_, hx.B, hx.keeps.ty⟩, hx.B, hx.I, hx.X, hx.below⟩, hv.cut _ _⟩
 ·show L.length = (c.ρ.take S.boxes.length).length
  simp; omega
 ·have hi' : (c.ρ.take S.boxes.length)[i]? = some b := hi
  rw [List.getElem?_take] at hi'
  split at hi'
  case isFalse => cases hi'
  rename_i hlt
  obtain ⟨a, cs, Ty, hh, vs, g1, g2, g3⟩ := h.box i b hi'
  have g1' : L[i]? = some vs := by
   have : (L ++ J)[i]? = some vs := g1
   rwa [List.getElem?_append_left (by omega)] at this
  refine ⟨a, cs, Ty, hh, vs, g1', g2, fun j hj => ⟨?_, (g3 j hj).2⟩⟩
  rcases hf i vs g1' with hold | hfit
  ·obtain ⟨b0, hb0⟩ : ∃ b0, c0.ρ[i]? = some b0 := ⟨_, List.getElem?_eq_getElem (by omega)⟩
   obtain ⟨_, cs0, _, _, vs0, k1, _, k3⟩ := h0.box i b0 hb0
   rw [hold] at k1
   obtain rfl := Option.some.inj k1
   have := (k3 j hj).1.fits
   rw [← e1, ← e2] at this
   exact ((g3 j hj).1).cut_fit _ _ this
  ·exact ((g3 j hj).1).cut_fit _ _ (List.all_eq_true.1 hfit _ (List.getElem_mem hj))
 ·have hi' : (c.ρ.take S.boxes.length)[i]? = some b := hi
  have hj' : (c.ρ.take S.boxes.length)[j]? = some b := hj
  rw [List.getElem?_take] at hi' hj'
  split at hi'
  case isFalse => cases hi'
  split at hj'
  case isFalse => cases hj'
  exact h.inj i j b hi' hj'
 ·show T = (c.τ.take S.toks.length).map _
  have := h.toks
  have h2 : T ++ K = c.τ.map fun i => (i.n, i.sz) := this
  rw [List.map_take, ← h2, ← hT]
  simp
 ·have ht' : (c.τ.take S.toks.length)[t]? = some i := ht
  rw [List.getElem?_take] at ht'
  split at ht'
  case isFalse => cases ht'
  obtain ⟨a1, a2, a3, a4, a5⟩ := h.tok t i ht'
  refine ⟨a1, a2, a3, a4, fun hlt g off ha => ?_⟩
  obtain ⟨b1, b2, b3⟩ := a5 hlt g off ha
  exact ⟨b1, fun hm => b2 (List.mem_of_mem_take hm), b3⟩
 ·have ht1 : (c.τ.take S.toks.length)[t]? = some i := ht
  have ht2 : (c.τ.take S.toks.length)[t']? = some i' := ht'
  rw [List.getElem?_take] at ht1 ht2
  split at ht1
  case isFalse => cases ht1
  split at ht2
  case isFalse => cases ht2
  exact h.disj t t' i i' g off off' ht1 ht2
 ·exact ⟨fun h => (hx.keeps.cell g k v hm hv).1 (cut_M h), (hx.keeps.cell g k v hm hv).2⟩
 ·exact get_take (hx.keeps.ρ i b hi) (by have := (List.getElem?_eq_some_iff.1 hi).1; omega)
 ·obtain ⟨i', a1, a2⟩ := hx.keeps.τ t i hi
  exact ⟨i', get_take a1 (by have := (List.getElem?_eq_some_iff.1 hi).1; omega), a2⟩
def Left (S : Mem) (R : V → Mem → Prop) (v : V) (S' : Mem) : Prop :=
 ∃ L J T K, S' = ⟨L ++ J, T ++ K⟩ ∧ L.length = S.boxes.length ∧ T.length = S.toks.length ∧ FitL S.boxes.length S.toks.length S.boxes L ∧ R (wk S.boxes.length S.toks.length v) ⟨L, T⟩
theorem AFn.left {P : Program} {I : Inv} {f : FuncId} {args : List V} {S : Mem} {R : V → Mem → Prop} (h : AFn P I f args S (Left S R)) : AFn P I f args S R := by
 refine ⟨h.1, fun c w xs h1 h2 h3 hI cs => ?_⟩
 obtain ⟨e, w', fr, ⟨v, x, S', c', a1, ⟨L, J, T, K, rfl, b2, b3, b4, b5⟩, a3, a4, a5⟩, h⟩ := h.2 c w xs h1 h2 h3 hI cs
 obtain ⟨r1, r2, r3⟩ := forget h3 a4 a3 a5 b2 b3 b4
 exact ⟨e, w', fr, ⟨_, x, _, _, a1, b5, r1, r2, r3⟩, h⟩
theorem Left.of {B L J : List (List V)} {T U K : List (Nat × Nat)} {R : V → Mem → Prop} {v : V} (h1 : L.length = B.length) (h2 : U.length = T.length) (h3 : FitL B.length T.length B L) (h : R (wk B.length T.length v) ⟨L, U⟩) : Left ⟨B, T⟩ R v ⟨L ++ J, U ++ K⟩ := ⟨L, J, U, K, rfl, h1, h2, h3, h⟩
theorem Left.all {B J : List (List V)} {T K : List (Nat × Nat)} {R : V → Mem → Prop} {v : V} (h : R (wk B.length T.length v) ⟨B, T⟩) : Left ⟨B, T⟩ R v ⟨B ++ J, T ++ K⟩ := .of rfl rfl (.refl _ _ _) h
theorem Left.box {B J : List (List V)} {T : List (Nat × Nat)} {R : V → Mem → Prop} {v : V} (h : R (wk B.length T.length v) ⟨B, T⟩) : Left ⟨B, T⟩ R v ⟨B ++ J, T⟩ := by
 have := Left.all (J := J) (K := []) h
 rwa [List.append_nil] at this
theorem Left.tok {B : List (List V)} {T K : List (Nat × Nat)} {R : V → Mem → Prop} {v : V} (h : R (wk B.length T.length v) ⟨B, T⟩) : Left ⟨B, T⟩ R v ⟨B, T ++ K⟩ := by
 have := Left.all (J := []) (K := K) h
 rwa [List.append_nil] at this
theorem Left.none {B : List (List V)} {T : List (Nat × Nat)} {R : V → Mem → Prop} {v : V} (h : R (wk B.length T.length v) ⟨B, T⟩) : Left ⟨B, T⟩ R v ⟨B, T⟩ := by
 have := Left.box (J := []) h
 rwa [List.append_nil] at this
theorem Left.set {B J : List (List V)} {T : List (Nat × Nat)} {R : V → Mem → Prop} {v : V} {i : Nat} {vs : List V} (hf : vs.all (fit B.length T.length) = true) (h : R (wk B.length T.length v) ⟨B.set i vs, T⟩) : Left ⟨B, T⟩ R v ⟨B.set i vs ++ J, T⟩ := by
 have := Left.of (B := B) (J := J) (T := T) (K := []) (L := B.set i vs) (by simp) rfl ((FitL.refl _ _ _).set i hf) h
 rwa [List.append_nil] at this
theorem Left.set0 {B : List (List V)} {T : List (Nat × Nat)} {R : V → Mem → Prop} {v : V} {i : Nat} {vs : List V} (hf : vs.all (fit B.length T.length) = true) (h : R (wk B.length T.length v) ⟨B.set i vs, T⟩) : Left ⟨B, T⟩ R v ⟨B.set i vs, T⟩ := by
 have := Left.set (J := []) hf h
 rwa [List.append_nil] at this
theorem Left.setAll {B J : List (List V)} {T K : List (Nat × Nat)} {R : V → Mem → Prop} {v : V} {i : Nat} {vs : List V} (hf : vs.all (fit B.length T.length) = true) (h : R (wk B.length T.length v) ⟨B.set i vs, T⟩) : Left ⟨B, T⟩ R v ⟨B.set i vs ++ J, T ++ K⟩ :=
 Left.of (by simp) rfl ((FitL.refl _ _ _).set i hf) h
theorem AFn.body {P : Program} {I : Inv} {fn : FuncId} {f : Func} {body : Code} {args : List V} {S : Mem} {R : V → Mem → Prop} (hf : P.funcs[fn]? = some f) (hb : f.body = some body) (hname : (f.name == "runtime.NumGoroutine") = false)
 (h : ARun P I (S.boxes.length, S.toks.length) fn [.code body] (args ++ List.replicate (f.ntmps - args.length) .undef) S (Left S R)) : AFn P I fn args S R := AFn.left (AFn.enter hf hb hname h)
theorem AFn.of_calls {P : Program} {I : Inv} {f : FuncId} {args : List V} {S : Mem} {R : V → Mem → Prop} {fn : Func} (hf : P.funcs[f]? = some fn) (hb : fn.body.isSome = true) (hname : (fn.name == "runtime.NumGoroutine") = false)
 (h : ∀ (c : Cx) (w : World) (xs : Array Value), xs.size = args.length → (∀ j (h : j < args.length), VR c w args[j] (xs.getD j undef)) → Rep c w S → I.holds w → Calls P f xs w fun e w' => ∃ v x, e = .returned x ∧ R v S ∧ Below w.heap.size w w' ∧ VR c w' v x) : AFn P I f args S R := by
 have hn : ¬ fn.name = "runtime.NumGoroutine" := by simpa using hname
 obtain ⟨body, hb⟩ := Option.isSome_iff_exists.1 hb
 refine ⟨fun xs w => by simp [callFunc, hf, hn, hb], fun c w xs h1 h2 h3 hI cs => ?_⟩
 obtain ⟨e, w', fr, ⟨v, x, a1, a2, a3, a4⟩, r⟩ := h c w xs h1 h2 h3 (by rw [← hI]; exact h3.I) cs
 obtain ⟨q1, q2⟩ := h3.under a3
 exact ⟨e, w', fr, ⟨v, x, S, c, a1, a2, q1, q2, a4⟩, r⟩
section
variable {α : Type} {L m : List α} {n k i : Nat} {x : α}
theorem bx_loc (h : L.length = n) : (L ++ m)[n + k]? = m[k]? := by rw [← h, List.getElem?_append_right (by omega), Nat.add_sub_cancel_left]
theorem bx_loc0 (h : L.length = n) : (L ++ m)[n]? = m[0]? := by have := bx_loc (m := m) (k := 0) h; simpa using this
theorem bx_old (h : i < L.length) : (L ++ m)[i]? = L[i]? := List.getElem?_append_left h
theorem bx_set_loc (h : L.length = n) : (L ++ m).set (n + k) x = L ++ m.set k x := by rw [← h, List.set_append_right _ _ (by omega), Nat.add_sub_cancel_left]
theorem bx_set_loc0 (h : L.length = n) : (L ++ m).set n x = L ++ m.set 0 x := by have := bx_set_loc (m := m) (k := 0) (x := x) h; simpa using this
theorem bx_set_old (h : i < L.length) : (L ++ m).set i x = L.set i x ++ m := List.set_append_left _ _ h
theorem bx_get (h : i < L.length) : (L.set i x)[i]? = some x := by simp [h]
end
section
variable {P : Program} {I : Inv} {ops : Array Oper} {S : Mem}
theorem evalV_set {env : List V} {d : Tmp} {v : V} {x : Operand} (h : x ≠ .tmp d) : evalV I (env.set d v) x = evalV I env x := by
 cases x with
 | tmp t =>
  have hne : d ≠ t := fun e => h (e ▸ rfl)
  simp [evalV, List.getD, hne]
 | _ => rfl
theorem mapParts_congr {ev ev' : Operand → V} {ps : Array (Nat × Operand)} (h : ∀ x ∈ (ps.toList.map (·.2)).toArray, ev x = ev' x) : mapParts ev ps = mapParts ev' ps := by
 unfold mapParts
 refine List.map_congr_left fun p hp => ?_
 rw [h p.2 (by simp only [List.mem_toArray, List.mem_map]; exact ⟨p, hp, rfl⟩)]
theorem op1_congr {ev ev' : Operand → V} (op : Op) (h : ∀ x ∈ op.operands, ev x = ev' x) : op1 P ev S op = op1 P ev' S op := by
 have h0 := h
 cases op <;> simp only [Op.operands, List.mem_toArray, List.mem_cons, List.not_mem_nil, or_false, forall_eq_or_imp, forall_eq] at h <;> simp only [op1]
 case move x => rw [h]
 case assign x => rw [h]
 case pick c a b => rw [h.1, h.2.1, h.2.2]
 case box t x => rw [h]
 case build t ps => rw [mapParts_congr (by simpa using h)]
 case buildSlice t n ps => rw [mapParts_congr (by simpa using h)]
 case load t x => rw [h]
 case field s x f => rw [h]
 case store t x y => rw [h.1, h.2]
 case nilCheck x => rw [h]
 case binOp o t x y u => rw [h.1, h.2]
 case unOp o t x => rw [h]
 case convert s d x => rw [h]
 case makeFunc fn first caps =>
  cases fn <;> try rfl
  have h1 : first.toList.map ev = first.toList.map ev' := List.map_congr_left fun x hx => h x (by simp only [Array.mem_append]; exact .inl (by simpa using hx))
  have h2 : caps.toList.map ev = caps.toList.map ev' := List.map_congr_left fun x hx => h x (by simp only [Array.mem_append]; exact .inr (by simpa using hx))
  simp only
  rw [h1, h2]
 case slice t x lo hi mx =>
  cases mx <;> try rfl
  have h1 : lo.map ev = lo.map ev' := by
   cases lo with
   | none => rfl
   | some a => simp only [Option.map_some]; rw [h0 a (by simp [Op.operands])]
  have h2 : hi.map ev = hi.map ev' := by
   cases hi with
   | none => rfl
   | some a => simp only [Option.map_some]; rw [h0 a (by simp [Op.operands])]
  simp only
  rw [h0 x (by simp [Op.operands]), h1, h2]
 case fieldAddr s x f => rw [h]
 case indexAddr t x i => rw [h.1, h.2]
 case index t x i => rw [h.1, h.2]
 case extract x i => rw [h]
 case call q =>
  unfold opCall
  have ha : ∀ x ∈ q.args.toList, ev x = ev' x := fun x hx => h x (by unfold Call.operands; simp only [Array.mem_append]; exact .inr (by simpa using hx))
  split
  ·rename_i x t _ h2 _
   rw [ha x (by rw [h2]; simp)]
  ·rename_i s x t u _ h2 _
   rw [ha s (by rw [h2]; simp), ha x (by rw [h2]; simp)]
  ·rename_i s x t u _ h2 _
   rw [ha s (by rw [h2]; simp), ha x (by rw [h2]; simp)]
  ·rename_i s x t u _ h2 _
   rw [ha s (by rw [h2]; simp), ha x (by rw [h2]; simp)]
  ·rfl
def QOp (P : Program) (I : Inv) (o : Oper) (env : List V) (S : Mem) (v : V) : Prop :=
 op1 P (evalV I env) S o.op = some (v, S) ∨ ∃ q f g first caps, o.op = .call q ∧ q.callee = .value f ∧ evalV I env f = .func g first caps ∧ AFn P I g (first ++ q.args.toList.map (evalV I env) ++ caps) S fun r S' => r = v ∧ S' = S
def YA (P : Program) (I : Inv) (ops : Array Oper) (o : Oper) (env : List V) (S : Mem) (v : V) : Prop :=
 (Wants env ops o ∧ QOp P I o env S v) ∨ (Skips env ops o ∧ v = .tup [])
theorem guardV_set {env : List V} {d : Tmp} {x : V} {j : Nat} (h : (ops[j]?).bind (·.dst) ≠ some d) : guardV (env.set d x) ops j = guardV env ops j := by
 unfold guardV
 cases ho : (ops[j]?).bind (·.dst) with
 | none => rfl
 | some t =>
  have hne : d ≠ t := fun e => h (by rw [ho, e])
  simp [List.getD, hne]
theorem looks_op {o : Oper} {d : Tmp} (h : d ∉ o.looksAt ops) : ∀ x ∈ o.op.operands, x ≠ .tmp d := by
 intro x hx e
 subst e
 refine h ?_
 unfold Oper.looksAt
 rw [List.mem_append]
 exact .inl (List.mem_filterMap.2 ⟨_, by simpa using hx, rfl⟩)
theorem looks_guard {o : Oper} {d : Tmp} (h : d ∉ o.looksAt ops) {j : Nat} {t : Bool} (hg : o.guard = some (j, t)) : (ops[j]?).bind (·.dst) ≠ some d := by
 intro e
 refine h ?_
 unfold Oper.looksAt
 rw [List.mem_append, hg]
 simp only
 exact .inr (by rw [e]; simp)
theorem YA.congr {o : Oper} {env : List V} {d : Tmp} {x v : V} (h : d ∉ o.looksAt ops) : YA P I ops o (env.set d x) S v ↔ YA P I ops o env S v := by
 have he : ∀ y ∈ o.op.operands, evalV I (env.set d x) y = evalV I env y := fun y hy => evalV_set (looks_op h y hy)
 have hw : Wants (env.set d x) ops o ↔ Wants env ops o := by
  unfold Wants
  constructor
  ·rintro (h1 | ⟨j, t, h1, h2⟩)
   ·exact .inl h1
   ·exact .inr ⟨j, t, h1, by rw [← guardV_set (looks_guard h h1)]; exact h2⟩
  ·rintro (h1 | ⟨j, t, h1, h2⟩)
   ·exact .inl h1
   ·exact .inr ⟨j, t, h1, by rw [guardV_set (looks_guard h h1)]; exact h2⟩
 have hq : QOp P I o (env.set d x) S v ↔ QOp P I o env S v := by
  unfold QOp
  rw [op1_congr o.op he]
  refine or_congr Iff.rfl ?_
  refine exists_congr fun q => exists_congr fun f => exists_congr fun g => exists_congr fun first => exists_congr fun caps => ?_
  constructor
  ·rintro ⟨h1, h2, h3, h4⟩
   have hop : ∀ y ∈ q.operands, evalV I (env.set d x) y = evalV I env y := fun y hy => he y (by rw [h1]; exact hy)
   have h5 : q.args.toList.map (evalV I (env.set d x)) = q.args.toList.map (evalV I env) := List.map_congr_left fun y hy => hop y (by unfold Call.operands; simp only [Array.mem_append]; exact .inr (by simpa using hy))
   have h6 : evalV I (env.set d x) f = evalV I env f := hop f (by unfold Call.operands; rw [h2]; simp)
   exact ⟨h1, h2, by rw [← h6]; exact h3, by rw [← h5]; exact h4⟩
  ·rintro ⟨h1, h2, h3, h4⟩
   have hop : ∀ y ∈ q.operands, evalV I (env.set d x) y = evalV I env y := fun y hy => he y (by rw [h1]; exact hy)
   have h5 : q.args.toList.map (evalV I (env.set d x)) = q.args.toList.map (evalV I env) := List.map_congr_left fun y hy => hop y (by unfold Call.operands; simp only [Array.mem_append]; exact .inr (by simpa using hy))
   have h6 : evalV I (env.set d x) f = evalV I env f := hop f (by unfold Call.operands; rw [h2]; simp)
   exact ⟨h1, h2, by rw [h6]; exact h3, by rw [h5]; exact h4⟩
 unfold YA
 rw [hw, hq]
 refine or_congr Iff.rfl (and_congr ?_ Iff.rfl)
 unfold Skips
 refine exists_congr fun j => exists_congr fun want => ?_
 constructor
 ·rintro ⟨h1, h2⟩
  rw [guardV_set (looks_guard h h1)] at h2
  exact ⟨h1, h2⟩
 ·rintro ⟨h1, h2⟩
  rw [← guardV_set (looks_guard h h1)] at h2
  exact ⟨h1, h2⟩
theorem YA.congr' {o : Oper} {env : List V} {d : Option Tmp} {x v : V} (h : ∀ t, d = some t → t ∉ o.looksAt ops) : YA P I ops o (setV env d x) S v ↔ YA P I ops o env S v := by
 cases d with
 | none => rfl
 | some t => exact YA.congr (h t rfl)
theorem setV_comm (env : List V) {x y : Option Tmp} (v u : V) (h : ∀ d, x = some d → y ≠ some d) : setV (setV env x v) y u = setV (setV env y u) x v := by
 cases x with
 | none => rfl
 | some d =>
  cases y with
  | none => rfl
  | some e =>
   have hne : d ≠ e := fun he => h d rfl (he ▸ rfl)
   simp only [setV]
   exact List.set_comm _ _ hne
def anyA (P : Program) (I : Inv) (ops : Array Oper) (S : Mem) (K : List V → Prop) : Nat → Array Bool → List V → Prop
 | 0, listed, env => Region.ready .any ops listed = [] ∧ K env
 | n + 1, listed, env => (Region.ready .any ops listed = [] → K env) ∧ ∀ i ∈ Region.ready .any ops listed, ∃ o v, ops[i]? = some o ∧ YA P I ops o env S v ∧ anyA P I ops S K n (listed.setIfInBounds i true) (setV env o.dst v)
theorem anyA_first {K : List V → Prop} {i : Nat} {oi : Oper} {v : V} (hi : ops[i]? = some oi) : ∀ (n : Nat) (listed : Array Bool) (env : List V),
 (∀ j oj, ops[j]? = some oj → j ≠ i → listed.getD j true = false → (∀ e ∈ oj.after, Region.binds .any e = true → e.on ≠ i) → oi.apart ops oj = true) →
 i ∈ Region.ready .any ops listed → YA P I ops oi env S v → anyA P I ops S K n (listed.setIfInBounds i true) (setV env oi.dst v) → anyA P I ops S K (n + 1) listed env := by
 intro n
 induction n with
 | zero =>
  intro listed env _ hr hy H
  refine ⟨fun h => (by rw [h] at hr; cases hr), fun j hj => ?_⟩
  by_cases hji : j = i
  ·subst hji; exact ⟨oi, v, hi, hy, H⟩
  ·have := ready_mono hj hji
   rw [H.1] at this
   cases this
 | succ n ih =>
  intro listed env hfree hr hy H
  refine ⟨fun h => (by rw [h] at hr; cases hr), fun j hj => ?_⟩
  by_cases hji : j = i
  ·subst hji; exact ⟨oi, v, hi, hy, H⟩
  ·obtain ⟨oj, u, hoj, hyj, h1⟩ := H.2 j (ready_mono hj hji)
   obtain ⟨hjun, oj', hoj', hall⟩ := mem_ready.1 hj
   rw [hoj] at hoj'
   obtain rfl := Option.some.inj hoj'
   have hnot : ∀ e ∈ oj.after, Region.binds .any e = true → e.on ≠ i := fun e he hb heq => by
    have h1 := hall e he hb
    have h0 := (mem_ready.1 hr).1
    rw [heq] at h1
    rcases Nat.lt_or_ge i listed.size with h' | h'
    ·simp [h'] at h0 h1; rw [h0] at h1; cases h1
    ·simp [Array.getElem?_eq_none h'] at h1
   obtain ⟨a1, a2, a3⟩ := Oper.apart_spec (hfree j oj hoj hji hjun hnot)
   have hyj' : YA P I ops oj env S u := (YA.congr' a1).1 hyj
   have hyi' : YA P I ops oi (setV env oj.dst u) S v := (YA.congr' a3).2 hy
   have hfree' : ∀ k ok, ops[k]? = some ok → k ≠ i → (listed.setIfInBounds j true).getD k true = false →
    (∀ e ∈ ok.after, Region.binds .any e = true → e.on ≠ i) → oi.apart ops ok = true := fun k ok hk hki hun hno => by
    refine hfree k ok hk hki ?_ hno
    by_cases hjk : j = k
    ·subst hjk; exact hjun
    ·rw [getD_set_ne true hjk] at hun; exact hun
   refine ⟨oj, u, hoj, hyj', ih (listed.setIfInBounds j true) (setV env oj.dst u) hfree' (ready_mono hr (Ne.symm hji)) hyi' ?_⟩
   rw [Array.setIfInBounds_comm _ _ hji, ← setV_comm env v u a2]
   exact h1
def lexA (P : Program) (I : Inv) (ops : Array Oper) (S : Mem) (K : List V → Prop) : List Oper → List V → Prop
 | [], env => K env
 | o :: l, env => ∃ v, YA P I ops o env S v ∧ lexA P I ops S K l (setV env o.dst v)
theorem anyA_lex {K : List V → Prop} : ∀ (l : List Oper) (k : Nat) (listed : Array Bool) (env : List V), (∀ j, l[j]? = ops[k + j]?) →
 Region.lexFrom .any ops l.length k listed = true → lexA P I ops S K l env → anyA P I ops S K l.length listed env
 | [], _, _, _, _, hB, h => ⟨by simpa [Region.lexFrom] using hB, h⟩
 | o :: l, k, listed, env, hl, hB, h => by
  have h0 : ops[k]? = some o := by simpa using (hl 0).symm
  simp only [List.length_cons, Region.lexFrom, Bool.and_eq_true] at hB
  obtain ⟨⟨hr, hf⟩, hB'⟩ := hB
  obtain ⟨v, hy, hK⟩ := h
  exact anyA_first h0 l.length listed env (Region.free_spec h0 hf) (by simpa using hr) hy
   (anyA_lex l (k + 1) _ _ (fun j => by have := hl (j + 1); simpa [Nat.add_assoc, Nat.add_comm 1 j] using this) hB' hK)
theorem YA.step {z : Nat × Nat} {fn : FuncId} {k : List Item} {R : V → Mem → Prop} {i : Nat} {rest : List Nat} {o : Oper} {env : List V} {v : V} (ho : ops[i]? = some o) (hy : YA P I ops o env S v) (h : ARun P I z fn (.inRegion ops rest :: k) (setV env o.dst v) S R) : ARun P I z fn (.inRegion ops (i :: rest) :: k) env S R := by
 rcases hy with ⟨hw, hq | ⟨q, f, g, first, caps, h1, h2, h3, h4⟩⟩ | ⟨h1, rfl⟩
 ·exact .op ho hw hq h
 ·exact .call ho hw h1 h2 h3 (h4.mono fun r S' ⟨e1, e2⟩ => by subst e1 e2; exact h)
 ·exact .opSkip ho h1 h
theorem anyA_run {z : Nat × Nat} {fn : FuncId} {k : List Item} {R : V → Mem → Prop} : ∀ (n t : Nat) (listed : Array Bool) (env : List V), anyA P I ops S (fun env => ARun P I z fn k env S R) n listed env → ARun P I z fn (.inRegion ops (Region.linearise.go .any ops n t listed []) :: k) env S R
 | 0, t, listed, env, h => by
  simp only [Region.linearise.go, List.reverse_nil]
  exact .regionEnd h.2
 | n + 1, t, listed, env, h => by
  obtain ⟨h₀, h₁⟩ := h
  simp only [Region.linearise.go]
  change ARun P I z fn (.inRegion ops (match (Region.ready .any ops listed)[t % (Region.ready .any ops listed).length]? with
   | some i => Region.linearise.go .any ops n (t / (Region.ready .any ops listed).length) (listed.setIfInBounds i true) [i]
   | none => [].reverse) :: k) env S R
  cases hi : (Region.ready .any ops listed)[t % (Region.ready .any ops listed).length]? with
  | none =>
   have hnil : Region.ready .any ops listed = [] := by
    cases hr : Region.ready .any ops listed with
    | nil => rfl
    | cons x xs =>
     rw [hr] at hi
     have hlt : t % (x :: xs).length < (x :: xs).length := Nat.mod_lt _ (by simp)
     simp at hi
     simp at hlt
     omega
   exact .regionEnd (h₀ hnil)
  | some i =>
   simp only []
   rw [linearise_go_acc, List.reverse_singleton, List.singleton_append]
   obtain ⟨o, v, ho, hy, hn⟩ := h₁ i (List.mem_of_getElem? hi)
   exact YA.step ho hy (anyA_run n _ _ _ hn)
theorem ARun.draw {z : Nat × Nat} {fn : FuncId} {k : List Item} {R : V → Mem → Prop} {id : Nat} {env : List V} (hm : P.follows .mixedOrders = true) (hB : Region.lexB .any ops = true) (h : lexA P I ops S (fun env => ARun P I z fn k env S R) ops.toList env) : ARun P I z fn (.code (.region id ops true) :: k) env S R := by
 intro b a c w c0 w0 h1 h2 h3 h4 h5 h6 hI cs
 have hd : Below w.heap.size w { w with drawn := w.drawn + 1 } := ⟨rfl, rfl, rfl, Nat.le_refl _, fun _ _ => rfl⟩
 obtain ⟨r1, r2⟩ := h5.under hd
 simp only [Region.lexB, Bool.and_eq_true] at hB
 have hany := anyA_lex (P := P) (I := I) (S := S) (K := fun env => ARun P I z fn k env S R) ops.toList 0 (Array.replicate ops.size false) env (by simp) (by simpa using hB.2) h
 have hrun := anyA_run (fn := fn) (k := k) (R := R) ops.toList.length (w.tape w.drawn (.order b.fn id)) _ _ hany
 obtain ⟨e, w', fr, g1, g2, g3⟩ := hrun b a c _ c0 w0 h1 h2 h3 (h4.ext r2) r1 (h6.trans r2) ⟨r2.I.trans hI.1, hI.2⟩ cs
 refine ⟨e, w', fr, g1, .of_steps (.one ?_) g2, g3⟩
 have := step_region_draw (P := P) (b := b) (a := a) (k := k) (cs := cs) (w := w) (ops := ops) (id := id)
 rw [this]
 simp only [Region.schedule, hm, Bool.true_or, if_true, Region.linearise, Array.length_toList]
abbrev LCont := List Oper → List V → Prop
def bindQ (next : LCont) (S : Mem) (r : Option (V × Mem)) (l : List Oper) (d : Option Tmp) (env : List V) : Prop :=
 match r with
 | some (v, S') => S' = S ∧ next l (setV env d v)
 | none => False
def callQ (P : Program) (I : Inv) (next : LCont) (S : Mem) (q : Call) (f : V) (args : List V) (l : List Oper) (d : Option Tmp) (env : List V) : Prop :=
 match q.callee, f with
 | .value _, .func g first caps => ∃ v, AFn P I g (first ++ args ++ caps) S (fun r S' => r = v ∧ S' = S) ∧ next l (setV env d v)
 | _, _ => False
def opQ (P : Program) (I : Inv) (next : LCont) (S : Mem) (o : Oper) (l : List Oper) (env : List V) : Prop :=
 match o.op with
 | .call q => match q.callee with
  | .value f => callQ P I next S q (evalV I env f) (q.args.toList.map (evalV I env)) l o.dst env
  | _ => bindQ next S (opCall P (evalV I env) S q) l o.dst env
 | op => bindQ next S (op1 P (evalV I env) S op) l o.dst env
def guardQ (P : Program) (I : Inv) (next : LCont) (S : Mem) (t want : Bool) (o : Oper) (l : List Oper) (env : List V) : Prop :=
 if (t == want) = true then opQ P I next S o l env else next l (setV env o.dst (.tup []))
def stepQ (P : Program) (I : Inv) (ops : Array Oper) (next : LCont) (S : Mem) (o : Oper) (l : List Oper) (env : List V) : Prop :=
 match o.guard with
 | none => opQ P I next S o l env
 | some (j, want) => match guardV env ops j with
  | .d (.bool t) => guardQ P I next S t want o l env
  | .tup [] => next l (setV env o.dst (.tup []))
  | _ => False
def lexQ (P : Program) (I : Inv) (ops : Array Oper) (S : Mem) (K : List V → Prop) : Nat → List Oper → List V → Prop
 | _, [], env => K env
 | 0, _ :: _, _ => False
 | n + 1, o :: l, env => stepQ P I ops (lexQ P I ops S K n) S o l env
theorem lexQ_nil (K : List V → Prop) (n : Nat) (env : List V) : lexQ P I ops S K n [] env = K env := by cases n <;> rfl
theorem lexQ_cons (K : List V → Prop) (n : Nat) (o : Oper) (l : List Oper) (env : List V) : lexQ P I ops S K (n + 1) (o :: l) env = stepQ P I ops (lexQ P I ops S K n) S o l env := rfl
theorem bindQ_some (next : LCont) (v : V) (l : List Oper) (d : Option Tmp) (env : List V) : bindQ next S (some (v, S)) l d env = next l (setV env d v) := by simp [bindQ]
theorem guardQ_yes (next : LCont) (b : Bool) (o : Oper) (l : List Oper) (env : List V) : guardQ P I next S b b o l env = opQ P I next S o l env := by simp [guardQ]
theorem guardQ_tf (next : LCont) (o : Oper) (l : List Oper) (env : List V) : guardQ P I next S true false o l env = next l (setV env o.dst (.tup [])) := by simp [guardQ]
theorem guardQ_ft (next : LCont) (o : Oper) (l : List Oper) (env : List V) : guardQ P I next S false true o l env = next l (setV env o.dst (.tup [])) := by simp [guardQ]
theorem lexQ_ok {K : List V → Prop} : ∀ (n : Nat) (l : List Oper) (env : List V), lexQ P I ops S K n l env → lexA P I ops S K l env := by
 intro n
 induction n with
 | zero =>
  intro l env h
  cases l with
  | nil => exact h
  | cons o l => exact h.elim
 | succ n ih =>
  intro l env h
  cases l with
  | nil => exact h
  | cons o l =>
   have hop : Wants env ops o → opQ P I (lexQ P I ops S K n) S o l env → lexA P I ops S K (o :: l) env := by
    intro hw h
    have hb : ∀ r, op1 P (evalV I env) S o.op = r → bindQ (lexQ P I ops S K n) S r l o.dst env → lexA P I ops S K (o :: l) env := by
     intro r hr hb
     cases r with
     | none => exact hb.elim
     | some p =>
      obtain ⟨v, S'⟩ := p
      obtain ⟨rfl, hb⟩ := hb
      exact ⟨v, .inl ⟨hw, .inl hr⟩, ih l _ hb⟩
    unfold opQ at h
    split at h
    ·rename_i q hq
     split at h
     ·rename_i f hf
      unfold callQ at h
      rw [hf] at h
      split at h
      ·rename_i g first caps he hg
       obtain ⟨v, hv, hn⟩ := h
       exact ⟨v, .inl ⟨hw, .inr ⟨q, f, g, first, caps, hq, hf, hg, hv⟩⟩, ih l _ hn⟩
      ·exact h.elim
     ·exact hb _ (by rw [hq]; rfl) h
    ·exact hb _ rfl h
   have h' : stepQ P I ops (lexQ P I ops S K n) S o l env := h
   unfold stepQ at h'
   split at h'
   ·rename_i hg
    exact hop (.inl hg) h'
   ·rename_i j want hg
    split at h'
    ·rename_i t ht
     unfold guardQ at h'
     split at h'
     ·rename_i hw
      have : t = want := by simpa using hw
      subst this
      exact hop (.inr ⟨j, t, hg, ht⟩) h'
     ·rename_i hw
      exact ⟨.tup [], .inr ⟨⟨j, want, hg, .inl ⟨t, ht, by simpa using hw⟩⟩, rfl⟩, ih l _ h'⟩
    ·rename_i ht
     exact ⟨.tup [], .inr ⟨⟨j, want, hg, .inr ht⟩, rfl⟩, ih l _ h'⟩
    ·exact h'.elim
end
def EnvLe (n m : Nat) : List V → List V → Prop
 | [], [] => True
 | a :: aa, b :: bs => (a = .undef ∨ (a = b ∧ fit n m b = true)) ∧ EnvLe n m aa bs
 | _, _ => False
theorem EnvLe.get {n m : Nat} : ∀ {aa bs : List V}, EnvLe n m aa bs → aa.length = bs.length ∧ ∀ t (h : t < aa.length) (h' : t < bs.length), aa[t] = .undef ∨ (aa[t] = bs[t] ∧ fit n m bs[t] = true)
 | [], [], _ => ⟨rfl, fun t h => by simp at h⟩
 | a :: aa, b :: bs, h => by
  obtain ⟨h1, h2⟩ := h
  obtain ⟨h3, h4⟩ := EnvLe.get h2
  refine ⟨by simp [h3], fun t ht ht' => ?_⟩
  cases t with
  | zero => exact h1
  | succ t => exact h4 t (by simpa using ht) (by simpa using ht')
 | [], _ :: _, h => h.elim
 | _ :: _, [], h => h.elim
def Fits (S : Mem) : Prop := ∀ vs ∈ S.boxes, vs.all (fit S.boxes.length S.toks.length) = true
theorem Fits.of_rep {c : Cx} {w : World} {S : Mem} (h : Rep c w S) : Fits S := by
 intro vs hvs
 obtain ⟨i, hi⟩ := List.mem_iff_getElem?.1 hvs
 have hlt := (List.getElem?_eq_some_iff.1 hi).1
 obtain ⟨b, hb⟩ : ∃ b, c.ρ[i]? = some b := ⟨_, List.getElem?_eq_getElem (by rw [← h.len]; exact hlt)⟩
 obtain ⟨_, cs, _, _, vs', e1, e2, e3⟩ := h.box i b hb
 rw [hi] at e1
 obtain rfl := Option.some.inj e1
 rw [List.all_eq_true]
 intro v hv
 obtain ⟨j, hj, rfl⟩ := List.mem_iff_getElem.1 hv
 have := (e3 j hj).1.fits
 rw [h.len, h.toks, List.length_map]
 exact this
mutual
theorem fit_mono {n m n' m' : Nat} (hn : n ≤ n') (hm : m ≤ m') : ∀ v : V, fit n m v = true → fit n' m' v = true
 | .undef, _ => rfl
 | .d _, _ => rfl
 | .sl _ .full, _ => rfl
 | .sl _ (.own t), h => by simp only [fit, decide_eq_true_iff] at h ⊢; omega
 | .ptr i _, h => by simp only [fit, decide_eq_true_iff] at h ⊢; omega
 | .bx i _ _, h => by simp only [fit, decide_eq_true_iff] at h ⊢; omega
 | .self i _, h => by simp only [fit, decide_eq_true_iff] at h ⊢; omega
 | .buf _ _ _, h => by simp only [fit, decide_eq_true_iff] at h ⊢; omega
 | .eptr _ _, _ => rfl
 | .nilp, _ => rfl
 | .nilf, _ => rfl
 | .func _ a b, h => by
  simp only [fit, Bool.and_eq_true] at h ⊢
  exact ⟨fitL_mono hn hm a h.1, fitL_mono hn hm b h.2⟩
 | .agg vs, h => by simp only [fit] at h ⊢; exact fitL_mono hn hm vs h
 | .tup vs, h => by simp only [fit] at h ⊢; exact fitL_mono hn hm vs h
theorem fitL_mono {n m n' m' : Nat} (hn : n ≤ n') (hm : m ≤ m') : ∀ vs : List V, fitL n m vs = true → fitL n' m' vs = true
 | [], _ => rfl
 | v :: vs, h => by
  simp only [fitL, Bool.and_eq_true] at h ⊢
  exact ⟨fit_mono hn hm v h.1, fitL_mono hn hm vs h.2⟩
end
theorem all_mono {n m n' m' : Nat} (hn : n ≤ n') (hm : m ≤ m') {vs : List V} (h : vs.all (fit n m) = true) : vs.all (fit n' m') = true := by
 rw [List.all_eq_true] at h ⊢
 exact fun v hv => fit_mono hn hm v (h v hv)
theorem Fits.more {B X : List (List V)} {T Y : List (Nat × Nat)} (h : Fits ⟨B, T⟩) (hx : ∀ vs ∈ X, vs.all (fit (B ++ X).length (T ++ Y).length) = true) : Fits ⟨B ++ X, T ++ Y⟩ := by
 intro vs hvs
 rcases List.mem_append.1 hvs with h' | h'
 ·exact all_mono (by simp) (by simp) (h vs h')
 ·exact hx vs h'
theorem Fits.set {B : List (List V)} {T : List (Nat × Nat)} (h : Fits ⟨B, T⟩) {i : Nat} {vs : List V} (hv : vs.all (fit B.length T.length) = true) : Fits ⟨B.set i vs, T⟩ := by
 intro us hus
 simp only [List.length_set]
 rcases List.mem_or_eq_of_mem_set hus with h' | rfl
 ·exact h us h'
 ·exact hv
theorem Fits.toks {B : List (List V)} {T T' : List (Nat × Nat)} (h : Fits ⟨B, T⟩) (he : T'.length = T.length) : Fits ⟨B, T'⟩ := by
 intro us hus
 rw [show (⟨B, T'⟩ : Mem).toks.length = T.length from he]
 exact h us hus
section
variable {P : Program} {I : Inv} {z : Nat × Nat} {fn : FuncId} {R : V → Mem → Prop}
theorem ARun.at {k : List Item} {env env' : List V} {L J : List (List V)} {T K : List (Nat × Nat)} (hz : z.1 ≤ L.length ∧ z.2 ≤ T.length) (hf : Fits ⟨L, T⟩) (he : EnvLe L.length T.length env' env) (h : ARun P I z fn k env' ⟨L, T⟩ R) : ARun P I z fn k env ⟨L ++ J, T ++ K⟩ R := by
 intro b a c w c0 w0 h1 h2 h3 h4 h5 h6 hI
 have hn : c.ρ.length = L.length + J.length := by rw [← h5.len]; simp
 have hm : c.τ.length = T.length + K.length := by
  have := congrArg List.length h5.toks
  simp at this; omega
 have hrep : Rep (c.cut L.length T.length) w ⟨L, T⟩ := by
  refine ⟨h5.hB, by simp [Cx.cut]; omega, fun i b hi => ?_, fun i j b hi hj => ?_, ?_, fun t i ht => ?_, fun t t' i i' g off off' ht ht' => ?_, h5.inv⟩
  ·have hi' : (c.ρ.take L.length)[i]? = some b := hi
   rw [List.getElem?_take] at hi'
   split at hi'
   case isFalse => cases hi'
   rename_i hlt
   obtain ⟨a, cs, Ty, hh, vs, g1, g2, g3⟩ := h5.box i b hi'
   have g1' : L[i]? = some vs := by
    have : (L ++ J)[i]? = some vs := g1
    rwa [List.getElem?_append_left hlt] at this
   exact ⟨a, cs, Ty, hh, vs, g1', g2, fun j hj => ⟨((g3 j hj).1).cut_fit _ _ (List.all_eq_true.1 (hf vs (List.mem_of_getElem? g1')) _ (List.getElem_mem hj)), (g3 j hj).2⟩⟩
  ·have hi' : (c.ρ.take L.length)[i]? = some b := hi
   have hj' : (c.ρ.take L.length)[j]? = some b := hj
   rw [List.getElem?_take] at hi' hj'
   split at hi'
   case isFalse => cases hi'
   split at hj'
   case isFalse => cases hj'
   exact h5.inj i j b hi' hj'
  ·show T = (c.τ.take T.length).map _
   have h2 : T ++ K = c.τ.map fun i => (i.n, i.sz) := h5.toks
   rw [List.map_take, ← h2]
   simp
  ·have ht' : (c.τ.take T.length)[t]? = some i := ht
   rw [List.getElem?_take] at ht'
   split at ht'
   case isFalse => cases ht'
   obtain ⟨a1, a2, a3, a4, a5⟩ := h5.tok t i ht'
   refine ⟨a1, a2, a3, a4, fun hlt g off ha => ?_⟩
   obtain ⟨b1, b2, b3⟩ := a5 hlt g off ha
   exact ⟨b1, fun hm => b2 (List.mem_of_mem_take hm), b3⟩
  ·have ht1 : (c.τ.take T.length)[t]? = some i := ht
   have ht2 : (c.τ.take T.length)[t']? = some i' := ht'
   rw [List.getElem?_take] at ht1 ht2
   split at ht1
   case isFalse => cases ht1
   split at ht2
   case isFalse => cases ht2
   exact h5.disj t t' i i' g off off' ht1 ht2
 obtain ⟨l1, l2⟩ := he.get
 have henv : EnvR (c.cut L.length T.length) w env' a.tmps := by
  refine ⟨by rw [l1]; exact h4.1, fun t ht => ?_⟩
  rcases l2 t ht (by omega) with hu | ⟨heq, hfit⟩
  ·rw [hu]; exact .undef _
  ·rw [heq]; exact (h4.2 t (by omega)).cut_fit _ _ hfit
 refine h b a (c.cut L.length T.length) w c0 w0 h1 h2 h3 henv hrep ⟨⟨fun g k v hm hv => ?_, fun i b hi => ?_, fun t i hi => ?_, h6.B, h6.keeps.ty⟩, h6.B, h6.I, h6.X, h6.below⟩ ⟨hI.1, hI.2⟩
 ·exact ⟨fun h => (h6.keeps.cell g k v hm hv).1 (cut_M h), (h6.keeps.cell g k v hm hv).2⟩
 ·have := (List.getElem?_eq_some_iff.1 hi).1
  exact get_take (h6.keeps.ρ i b hi) (by omega)
 ·obtain ⟨i', a1, a2⟩ := h6.keeps.τ t i hi
  have := (List.getElem?_eq_some_iff.1 hi).1
  exact ⟨i', get_take a1 (by omega), a2⟩
def EnvW : List V → List V → Prop
 | [], [] => True
 | a :: aa, b :: bs => (a = .undef ∨ a = b) ∧ EnvW aa bs
 | _, _ => False
theorem EnvW.get : ∀ {aa bs : List V}, EnvW aa bs → aa.length = bs.length ∧ ∀ t (h : t < aa.length) (h' : t < bs.length), aa[t] = .undef ∨ aa[t] = bs[t]
 | [], [], _ => ⟨rfl, fun t h => by simp at h⟩
 | a :: aa, b :: bs, h => by
  obtain ⟨h1, h2⟩ := h
  obtain ⟨h3, h4⟩ := EnvW.get h2
  refine ⟨by simp [h3], fun t ht ht' => ?_⟩
  cases t with
  | zero => exact h1
  | succ t => exact h4 t (by simpa using ht) (by simpa using ht')
 | [], _ :: _, h => h.elim
 | _ :: _, [], h => h.elim
theorem ARun.weak {k : List Item} {env env' : List V} {S : Mem} (he : EnvW env' env) (h : ARun P I z fn k env' S R) : ARun P I z fn k env S R := by
 intro b a c w c0 w0 h1 h2 h3 h4 h5 h6 hI
 obtain ⟨l1, l2⟩ := he.get
 refine h b a c w c0 w0 h1 h2 h3 ⟨by rw [l1]; exact h4.1, fun t ht => ?_⟩ h5 h6 hI
 rcases l2 t ht (by omega) with hu | heq
 ·rw [hu]; exact .undef _
 ·rw [heq]; exact h4.2 t (by omega)
def envOf (n : Nat) (l : List (Nat × V)) : List V := l.foldl (fun e p => e.set p.1 p.2) (List.replicate n .undef)
theorem ARun.fits {k : List Item} {env : List V} {S : Mem} (h : Fits S → ARun P I z fn k env S R) : ARun P I z fn k env S R :=
 fun b a c w c0 w0 h1 h2 h3 h4 h5 h6 hI => h (.of_rep h5) b a c w c0 w0 h1 h2 h3 h4 h5 h6 hI
theorem ARun.loopI {α : Type} (st : α → List V × Mem) (ok : α → Prop) (μ : α → Nat) {x : Code} {k : List Item} (hs : ∀ a, ok a → (∀ b, ok b → μ b < μ a → ARun P I z fn (.inLoop x :: k) (st b).1 (st b).2 R) → ARun P I z fn (.code x :: .inLoop x :: k) (st a).1 (st a).2 R) (a : α) (ha : ok a) : ARun P I z fn (.code (.loop x) :: k) (st a).1 (st a).2 R := by
 have key : ∀ n a, μ a = n → ok a → ARun P I z fn (.code x :: .inLoop x :: k) (st a).1 (st a).2 R := by
  intro n
  induction n using Nat.strongRecOn with
  | _ n ih =>
   intro a hn ha
   exact hs a ha fun b hb hlt => .inLoop (ih (μ b) (by omega) b rfl hb)
 exact .loop (key _ a rfl ha)
theorem ARun.loopW {α : Type} (st : α → List V × Mem) (ok : α → Prop) (μ : α → Nat) {x : Code} {k : List Item} {env : List V} {S : Mem} (a : α) (ha : ok a) (he : EnvW (st a).1 env) (hS : (st a).2 = S)
 (hs : ∀ a, ok a → (∀ b, ok b → μ b < μ a → ∀ env' S', EnvW (st b).1 env' → (st b).2 = S' → ARun P I z fn (.inLoop x :: k) env' S' R) → ARun P I z fn (.code x :: .inLoop x :: k) (st a).1 (st a).2 R) : ARun P I z fn (.code (.loop x) :: k) env S R := by
 refine ARun.weak he ?_
 rw [← hS]
 refine ARun.loopI st ok μ (fun a ha ih => hs a ha fun b hb hlt env' S' he' hS' => ?_) a ha
 refine ARun.weak he' ?_
 rw [← hS']
 exact ih b hb hlt
theorem ARun.loopA {α : Type} (st : α → List V × Mem) (ok : α → Prop) (μ : α → Nat) {x : Code} {k : List Item} {env : List V} {S : Mem} (a : α) (ha : ok a) (he : EnvW (st a).1 env) (hS : (st a).2 = S)
 (hs : ∀ a, ok a → (∀ b, ok b → μ b < μ a → ∀ env' L J T K, (st b).2 = ⟨L, T⟩ → z.1 ≤ L.length ∧ z.2 ≤ T.length → Fits ⟨L, T⟩ → EnvLe L.length T.length (st b).1 env' → ARun P I z fn (.inLoop x :: k) env' ⟨L ++ J, T ++ K⟩ R) → ARun P I z fn (.code x :: .inLoop x :: k) (st a).1 (st a).2 R) : ARun P I z fn (.code (.loop x) :: k) env S R := by
 refine ARun.weak he ?_
 rw [← hS]
 refine ARun.loopI st ok μ (fun a ha ih => hs a ha fun b hb hlt env' L J T K hb2 hz hf he' => ?_) a ha
 refine ARun.at hz hf he' ?_
 rw [← hb2]
 exact ih b hb hlt
end
theorem Left.fits {S S' : Mem} {R : V → Mem → Prop} {v : V} (hf : Fits S') (h1 : S'.boxes.length = S.boxes.length) (h2 : S'.toks.length = S.toks.length) (h : R (wk S.boxes.length S.toks.length v) S') : Left S R v S' := by
 refine ⟨S'.boxes, [], S'.toks, [], by simp, h1, h2, fun i vs hi => .inr ?_, h⟩
 have := hf vs (List.mem_of_getElem? hi)
 rw [h1, h2] at this
 exact this
mutual
def sm : V → Bool
 | .d (.sl rows) => decide (rows.length ≤ 9223372036854775807)
 | .d (.str s) => decide (s.length ≤ 9223372036854775807)
 | .sl rows _ => decide (rows.length ≤ 9223372036854775807)
 | .agg vs => smL vs
 | _ => true
def smL : List V → Bool
 | [] => true
 | v :: vs => sm v && smL vs
end
theorem sm_int (k : IntKind) (n : Int) : sm (.d (.int k n)) = true := rfl
theorem sm_bool (b : Bool) : sm (.d (.bool b)) = true := rfl
theorem sm_ptr (i k : Nat) : sm (.ptr i k) = true := rfl
theorem sm_bx (i n c : Nat) : sm (.bx i n c) = true := rfl
theorem sm_nilp : sm .nilp = true := rfl
theorem sm_nilf : sm .nilf = true := rfl
theorem sm_func (f : FuncId) (a b : List V) : sm (.func f a b) = true := rfl
theorem sm_eptr (r : List D) (k : Nat) : sm (.eptr r k) = true := rfl
theorem sm_undef : sm .undef = true := rfl
theorem sm_tup (vs : List V) : sm (.tup vs) = true := rfl
theorem smL_iff : ∀ vs : List V, smL vs = true ↔ ∀ (j : Nat) (h : j < vs.length), sm vs[j] = true
 | [] => by simp [smL]
 | v :: vs => by
  simp only [smL, Bool.and_eq_true, smL_iff vs]
  constructor
  ·rintro ⟨h1, h2⟩ j hj
   cases j with
   | zero => exact h1
   | succ j => exact h2 j (by simpa using hj)
  ·exact fun h => ⟨h 0 (by simp), fun j hj => h (j + 1) (by simpa using hj)⟩
theorem DR.sm {M : Nat → Nat → Prop} {w : World} {x : D} {v : Value} (h : DR M w x v) : sm (.d x) = true := by
 cases h with
 | int k n => rfl
 | bool b => rfl
 | str s h => simpa [Ab.sm] using h
 | sl rows sz a cap f hsz hr hc hm hs hd => simp only [Ab.sm, decide_eq_true_iff]; omega
theorem VR.sm {c : Cx} {w : World} {x : V} {v : Value} (h : VR c w x v) : sm x = true := by
 induction h with
 | d x v h => exact h.sm
 | full rows a h ha => exact h.sm
 | own rows t a cap i h ht hr hn hl => exact h.sm
 | agg vs cs h1 h2 h3 ih => simp only [Ab.sm]; exact (smL_iff vs).2 ih
 | _ => rfl
theorem ARun.small {P : Program} {I : Inv} {z : Nat × Nat} {fn : FuncId} {R : V → Mem → Prop} {k : List Item} {env : List V} {S : Mem} (h : smL env = true → ARun P I z fn k env S R) : ARun P I z fn k env S R :=
 fun b a c w c0 w0 h1 h2 h3 h4 h5 h6 hI => h ((smL_iff env).2 fun j hj => (h4.2 j hj).sm) b a c w c0 w0 h1 h2 h3 h4 h5 h6 hI
theorem smL_pre {aa bs : List V} (h : smL (aa ++ bs) = true) : smL aa = true :=
 (smL_iff aa).2 fun j hj => by
  have := (smL_iff _).1 h j (by simp; omega)
  rwa [List.getElem_append_left hj] at this
theorem AFn.bodyS {P : Program} {I : Inv} {fn : FuncId} {f : Func} {body : Code} {args : List V} {S : Mem} {R : V → Mem → Prop} (hf : P.funcs[fn]? = some f) (hb : f.body = some body) (hname : (f.name == "runtime.NumGoroutine") = false)
 (h : smL args = true → ARun P I (S.boxes.length, S.toks.length) fn [.code body] (args ++ List.replicate (f.ntmps - args.length) .undef) S (Left S R)) : AFn P I fn args S R := AFn.body hf hb hname (ARun.small fun h1 => h (smL_pre h1))
theorem ARun.loopB {P : Program} {I : Inv} {z : Nat × Nat} {fn : FuncId} {R : V → Mem → Prop} {α : Type} (st : α → List V × Mem) (ok : α → Prop) (μ : α → Nat) {x : Code} {k : List Item} {env : List V} {S : Mem} (a : α) (ha : ok a) (he : EnvW (st a).1 env) (hS : (st a).2 = S)
 (hs : ∀ a, ok a → (∀ b, ok b → μ b < μ a → ∀ env' L J T, (st b).2 = ⟨L, T⟩ → z.1 ≤ L.length ∧ z.2 ≤ T.length → Fits ⟨L, T⟩ → EnvLe L.length T.length (st b).1 env' → ARun P I z fn (.inLoop x :: k) env' ⟨L ++ J, T⟩ R) → ARun P I z fn (.code x :: .inLoop x :: k) (st a).1 (st a).2 R) : ARun P I z fn (.code (.loop x) :: k) env S R := by
 refine ARun.loopA st ok μ a ha he hS fun a ha ih => hs a ha fun b hb hlt env' L J T h1 h2 h3 h4 => ?_
 have := ih b hb hlt env' L J T [] h1 h2 h3 h4
 rwa [List.append_nil] at this
theorem exitTo_app {id : Nat} {K : List Item} : ∀ {k k' : List Item}, exitTo id k = some k' → exitTo id (k ++ K) = some (k' ++ K)
 | [], _, h => by simp [exitTo] at h
 | i :: k, k', h => by
  cases i with
  | inBlock id' =>
   simp only [List.cons_append, exitTo] at h ⊢
   split at h
   ·rename_i he
    rw [if_pos he]
    obtain rfl := Option.some.inj h
    rfl
   ·rename_i he
    rw [if_neg he]
    exact exitTo_app h
  | _ =>
   simp only [List.cons_append, exitTo] at h ⊢
   exact exitTo_app h
section
variable {P : Program} {I : Inv} {z : Nat × Nat} {fn : FuncId} {R : V → Mem → Prop}
theorem itemJ_ok (K : List Item) {next stop : Cont} (hn : ∀ k env S, next k env S → ARun P I z fn (k ++ K) env S R) (hs : ∀ k env S, stop k env S → ARun P I z fn (k ++ K) env S R) (k : List Item) (env : List V) (S : Mem) (h : itemS P I next stop k env S) : ARun P I z fn (k ++ K) env S R := by
 have hdo : ∀ (ops : Array Oper) (i : Nat) (rest : List Nat) (o : Oper) (k : List Item) (env : List V) (S : Mem), ops[i]? = some o → Wants env ops o → doOp P I next stop ops rest o k env S → ARun P I z fn (.inRegion ops (i :: rest) :: (k ++ K)) env S R := by
  intro ops i rest o k env S ho hw hd
  have hb : ∀ r, op1 P (evalV I env) S o.op = r → bindS next r (.inRegion ops rest :: k) o.dst env → ARun P I z fn (.inRegion ops (i :: rest) :: (k ++ K)) env S R := by
   intro r hr hb
   cases r with
   | none => exact hb.elim
   | some p => exact .op ho hw hr (hn _ _ _ hb)
  unfold doOp at hd
  split at hd
  ·rename_i q hq
   split at hd
   ·rename_i f hf
    unfold callS at hd
    split at hd
    ·rename_i g first caps hg
     exact .call ho hw hq hf hg (hd.mono fun v S' h => hs _ _ _ h)
    ·exact hd.elim
   ·exact hb _ (by rw [hq]; rfl) hd
  ·exact hb _ rfl hd
 unfold itemS at h
 split at h
 ·rename_i c k
  unfold codeS at h
  split at h
  ·exact .seq (hn _ _ _ h)
  ·exact .skip (hn _ _ _ h)
  ·exact .label (hn _ _ _ h)
  ·exact .block (hn _ _ _ h)
  ·rw [upTo_ops] at h
   exact .region (hn _ _ _ h)
  ·rename_i x a b
   split at h
   ·rename_i t ht
    refine .cond ht ?_
    unfold condS at h
    split at h
    ·rename_i ht2; rw [ht2]; exact hn _ _ _ h
    ·rename_i ht2
     have : t = false := by simpa using ht2
     rw [this]; exact hn _ _ _ h
   ·exact h.elim
  ·split at h
   ·rename_i k' hk
    exact .exit (exitTo_app hk) (hn _ _ _ h)
   ·exact h.elim
  ·exact hs _ _ _ h
 ·exact .inBlock (hn _ _ _ h)
 ·exact .regionEnd (hn _ _ _ h)
 ·rename_i ops i rest k
  unfold regS at h
  split at h
  ·rename_i o ho
   split at h
   ·rename_i hg
    exact hdo _ _ _ _ _ _ _ ho (.inl hg) h
   ·rename_i j want hg
    unfold guardS at h
    split at h
    ·rename_i t ht
     unfold guardB at h
     split at h
     ·rename_i hw
      have : t = want := by simpa using hw
      subst this
      exact hdo _ _ _ _ _ _ _ ho (.inr ⟨j, t, hg, ht⟩) h
     ·rename_i hw
      exact .opSkip ho ⟨j, want, hg, .inl ⟨t, ht, by simpa using hw⟩⟩ (hn _ _ _ h)
    ·rename_i ht
     exact .opSkip ho ⟨j, want, hg, .inr ht⟩ (hn _ _ _ h)
    ·exact h.elim
  ·exact h.elim
 ·exact hs _ _ _ h
theorem stepsJ_ok (K : List Item) {stop : Cont} (hs : ∀ k env S, stop k env S → ARun P I z fn (k ++ K) env S R) : ∀ (n : Nat) (k : List Item) (env : List V) (S : Mem), steps P I n stop k env S → ARun P I z fn (k ++ K) env S R
 | 0, _, _, _, h => hs _ _ _ h
 | n + 1, k, env, S, h => itemJ_ok K (stepsJ_ok K hs n) hs k env S h
theorem ARun.goJ (n : Nat) {i : Item} {K : List Item} {env : List V} {S : Mem} (h : steps P I n (fun k env S => ARun P I z fn (k ++ K) env S R) [i] env S) : ARun P I z fn (i :: K) env S R := stepsJ_ok K (fun _ _ _ h => h) n [i] env S h
theorem ARun.goK (n : Nat) {k K : List Item} {env : List V} {S : Mem} (h : steps P I n (fun k env S => ARun P I z fn (k ++ K) env S R) k env S) : ARun P I z fn (k ++ K) env S R := stepsJ_ok K (fun _ _ _ h => h) n k env S h
theorem ARun.join {α : Type} (st : α → List V × Mem) (ok : α → Prop) {i : Item} {K : List Item} {env : List V} {S : Mem} (h1 : ∀ a, ok a → ARun P I z fn K (st a).1 (st a).2 R)
 (h2 : ∀ K' : List Item, (∀ a, ok a → ∀ env' S', EnvW (st a).1 env' → (st a).2 = S' → ARun P I z fn K' env' S' R) → ARun P I z fn (i :: K') env S R) : ARun P I z fn (i :: K) env S R :=
 h2 K fun a ha _ _ he hS => ARun.weak he (hS ▸ h1 a ha)
end
def lk : List (Nat × V) → Nat → V
 | [], _ => .undef
 | p :: l, t => cond (p.1 == t) p.2 (lk l t)
def envS (n : Nat) (u : List (Nat × V)) : List V := (List.range n).map (lk u)
theorem lk_cons (a : Nat) (v : V) (u : List (Nat × V)) (t : Nat) : lk ((a, v) :: u) t = cond (a == t) v (lk u t) := rfl
theorem lk_if (p : Nat × V) (u : List (Nat × V)) (t : Nat) : lk (p :: u) t = if p.1 = t then p.2 else lk u t := by
 rw [lk]
 by_cases h : p.1 = t
 ·rw [if_pos h, beq_iff_eq.2 h, cond_true]
 ·rw [if_neg h, beq_eq_false_iff_ne.2 h, cond_false]
theorem lk_nil (t : Nat) : lk [] t = .undef := rfl
theorem envS_get (n : Nat) (u : List (Nat × V)) (t : Nat) : (envS n u).getD t .undef = cond (t + 1 - n == 0) (lk u t) .undef := by
 unfold envS
 by_cases h : t < n
 ·have e : (t + 1 - n == 0) = true := beq_iff_eq.2 (by omega)
  rw [e, cond_true]
  simp [List.getD, h]
 ·have e : (t + 1 - n == 0) = false := beq_eq_false_iff_ne.2 (by omega)
  rw [e, cond_false]
  simp [List.getD, h]
theorem envS_eval (I : Inv) (n : Nat) (u : List (Nat × V)) (t : Nat) : evalV I (envS n u) (.tmp t) = cond (t + 1 - n == 0) (lk u t) .undef := envS_get n u t
theorem envS_put (n : Nat) (u : List (Nat × V)) (t : Nat) (v : V) : (envS n u).set t v = envS n ((t, v) :: u) := by
 unfold envS
 apply List.ext_getElem
 ·simp
 intro i h1 h2
 simp only [List.length_set, List.length_map, List.length_range] at h1
 rw [List.getElem_set]
 simp only [List.getElem_map, List.getElem_range, lk_if]
theorem envS_set (n : Nat) (u : List (Nat × V)) (t : Nat) (v : V) : setV (envS n u) (some t) v = envS n ((t, v) :: u) := envS_put n u t v
theorem envS_no (n : Nat) (u : List (Nat × V)) (v : V) : setV (envS n u) none v = envS n u := rfl
def numbered : Nat → List V → List (Nat × V)
 | _, [] => []
 | i, v :: l => (i, v) :: numbered (i + 1) l
theorem numbered_lk : ∀ (l : List V) (i t : Nat), lk (numbered i l) t = if i ≤ t then l.getD (t - i) .undef else .undef
 | [], i, t => by simp [numbered, lk, List.getD]
 | v :: l, i, t => by
  rw [numbered, lk_if, numbered_lk l (i + 1) t]
  by_cases h : i = t
  ·subst h; simp
  ·rw [if_neg h]
   by_cases h2 : i ≤ t
   ·have h3 : i + 1 ≤ t := by omega
    have h4 : t - i = (t - (i + 1)) + 1 := by omega
    rw [if_pos h3, if_pos h2, h4]
    simp [List.getD]
   ·rw [if_neg h2, if_neg (by omega)]
theorem envS_args (n : Nat) (args : List V) (h : args.length ≤ n) : args ++ List.replicate (n - args.length) .undef = envS n (numbered 0 args) := by
 unfold envS
 apply List.ext_getElem
 ·simp; omega
 intro i h1 h2
 simp only [List.length_map, List.length_range] at h2
 simp only [List.getElem_map, List.getElem_range, numbered_lk, Nat.zero_le, if_true, Nat.sub_zero]
 rw [List.getElem_append]
 split
 ·rename_i h3
  simp [List.getD, h3]
 ·rename_i h3
  simp only [List.getElem_replicate, List.getD]
  rw [List.getElem?_eq_none (by omega)]
  rfl
theorem AFn.bodyE {P : Program} {I : Inv} {fn : FuncId} {f : Func} {body : Code} {args : List V} {S : Mem} {R : V → Mem → Prop} (n : Nat) (hf : P.funcs[fn]? = some f) (hb : f.body = some body) (hname : (f.name == "runtime.NumGoroutine") = false) (hn : f.ntmps = n) (hl : args.length ≤ n)
 (h : smL args = true → ARun P I (S.boxes.length, S.toks.length) fn [.code body] (envS n (numbered 0 args)) S (Left S R)) : AFn P I fn args S R :=
 AFn.bodyS hf hb hname fun hs => by
  rw [hn, envS_args n args hl]
  exact h hs
def Agree (u : List (Nat × V)) : List (Nat × V) → Prop
 | [] => True
 | p :: l => lk u p.1 = p.2 ∧ Agree u l
theorem Agree.lk {u : List (Nat × V)} : ∀ {l : List (Nat × V)}, Agree u l → ∀ t, lk l t = .undef ∨ lk l t = Ab.lk u t
 | [], _, t => .inl rfl
 | p :: l, h, t => by
  rw [lk_if]
  by_cases e : p.1 = t
  ·rw [if_pos e, ← h.1, e]; exact .inr rfl
  ·rw [if_neg e]; exact Agree.lk h.2 t
theorem envW_map (f g : Nat → V) (h : ∀ t, f t = .undef ∨ f t = g t) : ∀ l : List Nat, EnvW (l.map f) (l.map g)
 | [] => trivial
 | t :: l => ⟨h t, envW_map f g h l⟩
theorem Agree.env {u l : List (Nat × V)} (n : Nat) (h : Agree u l) : EnvW (envS n l) (envS n u) := envW_map _ _ h.lk _
def AgreeF (a b : Nat) (u : List (Nat × V)) : List (Nat × V) → Prop
 | [] => True
 | p :: l => (lk u p.1 = p.2 ∧ fit a b p.2 = true) ∧ AgreeF a b u l
theorem AgreeF.lk {a b : Nat} {u : List (Nat × V)} : ∀ {l : List (Nat × V)}, AgreeF a b u l → ∀ t, lk l t = .undef ∨ (lk l t = Ab.lk u t ∧ fit a b (Ab.lk u t) = true)
 | [], _, t => .inl rfl
 | p :: l, h, t => by
  rw [lk_if]
  by_cases e : p.1 = t
  ·rw [if_pos e, ← e, h.1.1]; exact .inr ⟨rfl, h.1.2⟩
  ·rw [if_neg e]; exact AgreeF.lk h.2 t
theorem envLe_map (a b : Nat) (f g : Nat → V) (h : ∀ t, f t = .undef ∨ (f t = g t ∧ fit a b (g t) = true)) : ∀ l : List Nat, EnvLe a b (l.map f) (l.map g)
 | [] => trivial
 | t :: l => ⟨h t, envLe_map a b f g h l⟩
theorem AgreeF.env {a b : Nat} {u l : List (Nat × V)} (n : Nat) (h : AgreeF a b u l) : EnvLe a b (envS n l) (envS n u) := envLe_map a b _ _ h.lk _
theorem agree_nil (u : List (Nat × V)) : Agree u [] = True := rfl
theorem agree_cons (u : List (Nat × V)) (t : Nat) (v : V) (l : List (Nat × V)) : Agree u ((t, v) :: l) = (lk u t = v ∧ Agree u l) := rfl
theorem agreeF_nil (a b : Nat) (u : List (Nat × V)) : AgreeF a b u [] = True := rfl
theorem agreeF_cons (a b : Nat) (u : List (Nat × V)) (t : Nat) (v : V) (l : List (Nat × V)) : AgreeF a b u ((t, v) :: l) = ((lk u t = v ∧ fit a b v = true) ∧ AgreeF a b u l) := rfl
def bodyOf (f : Func) : Code :=
 match f.body with
 | some c => c
 | none => .skip
def opsOf : Code → Array Oper
 | .region _ o _ => o
 | _ => #[]
def opAt (a : Array Oper) (i : Nat) : Oper :=
 match a[i]? with
 | some o => o
 | none => ⟨none, .move (.tmp 0), 0, "", #[], none⟩
def condV (next : Cont) (v : V) (a b : Code) (k : List Item) (env : List V) (S : Mem) : Prop :=
 match v with
 | .d (.bool t) => condS next t (.code a :: k) env (.code b :: k) env S
 | _ => False
theorem condV_b (next : Cont) (t : Bool) (a b : Code) (k : List Item) (env : List V) (S : Mem) : condV next (.d (.bool t)) a b k env S = condS next t (.code a :: k) env (.code b :: k) env S := rfl
def exitV (next : Cont) (r : Option (List Item)) (env : List V) (S : Mem) : Prop :=
 match r with
 | some k => next k env S
 | none => False
theorem exitV_some (next : Cont) (k : List Item) (env : List V) (S : Mem) : exitV next (some k) env S = next k env S := rfl
def stepV (P : Program) (I : Inv) (next : LCont) (S : Mem) (v : V) (want : Bool) (o : Oper) (l : List Oper) (env : List V) : Prop :=
 match v with
 | .d (.bool t) => guardQ P I next S t want o l env
 | .tup [] => next l (setV env o.dst (.tup []))
 | _ => False
theorem stepV_b (P : Program) (I : Inv) (next : LCont) (S : Mem) (t want : Bool) (o : Oper) (l : List Oper) (env : List V) : stepV P I next S (.d (.bool t)) want o l env = guardQ P I next S t want o l env := rfl
theorem stepV_g (P : Program) (I : Inv) (next : LCont) (S : Mem) (want : Bool) (o : Oper) (l : List Oper) (env : List V) : stepV P I next S (.tup []) want o l env = next l (setV env o.dst (.tup [])) := rfl
def nodesA : Code → List Code → List Code
 | .seq a b, l => .seq a b :: nodesA a (nodesA b l)
 | .cond x a b, l => .cond x a b :: nodesA a (nodesA b l)
 | .block i a, l => .block i a :: nodesA a l
 | .loop a, l => .loop a :: nodesA a l
 | c, l => c :: l
def nth : List Code → Nat → Code
 | [], _ => .skip
 | c :: _, 0 => c
 | _ :: l, i + 1 => nth l i
def csz : Code → Nat
 | .seq a b => csz a + csz b + 1
 | .cond _ a b => csz a + csz b + 1
 | .block _ a => csz a + 1
 | .loop a => csz a + 1
 | _ => 1
def kF (f : Func) (i : Nat) : Code := nth (nodesA (bodyOf f) []) i
inductive Kx where
 | S (a b c : Nat) | B (a b j : Nat) | C (a : Nat) (x : Operand) (b c : Nat) | L (a b : Nat) | E (a j : Nat) | T (a : Nat) | N (a : Nat) | R (a : Nat) (l : List Nat) | D (a j : Nat) (l : List Nat)
 | r (a j : Nat) (q : Op) (d : Option Tmp) | g (a j t : Nat) (b : Bool) (q : Op) (d : Option Tmp) | q (a j : Nat) (q : Op) (d : Option Tmp) | h (a j t : Nat) (b : Bool) (q : Op) (d : Option Tmp)
def doO (P : Program) (I : Inv) (next stop : Cont) (ops : Array Oper) (rest : List Nat) (q : Op) (d : Option Tmp) (k : List Item) (env : List V) (S : Mem) : Prop :=
 match q with
 | .call c => match c.callee with
  | .value f => callS P I stop (evalV I env f) (c.args.toList.map (evalV I env)) (.inRegion ops rest :: k) d env S
  | _ => bindS next (opCall P (evalV I env) S c) (.inRegion ops rest :: k) d env
 | op => bindS next (op1 P (evalV I env) S op) (.inRegion ops rest :: k) d env
def opO (P : Program) (I : Inv) (next : LCont) (S : Mem) (q : Op) (d : Option Tmp) (l : List Oper) (env : List V) : Prop :=
 match q with
 | .call c => match c.callee with
  | .value f => callQ P I next S c (evalV I env f) (c.args.toList.map (evalV I env)) l d env
  | _ => bindQ next S (opCall P (evalV I env) S c) l d env
 | op => bindQ next S (op1 P (evalV I env) S op) l d env
def tabO (i : Nat) (draw : Bool) (A : Array Oper) : Nat → List Oper → List Kx → List Kx
 | _, [], l => l
 | j, o :: m, l => match o.guard with
  | none => (cond draw (.q i j o.op o.dst) (.r i j o.op o.dst)) :: tabO i draw A (j + 1) m l
  | some (t, b) => match (A[t]?).bind (·.dst) with
   | some t => (cond draw (.h i j t b o.op o.dst) (.g i j t b o.op o.dst)) :: tabO i draw A (j + 1) m l
   | none => tabO i draw A (j + 1) m l
def tabC (i : Nat) : Code → List Kx → List Kx
 | .seq a b, l => .S i (i + 1) (i + csz a + 1) :: tabC (i + 1) a (tabC (i + csz a + 1) b l)
 | .cond x a b, l => .C i x (i + 1) (i + csz a + 1) :: tabC (i + 1) a (tabC (i + csz a + 1) b l)
 | .block j a, l => .B i (i + 1) j :: tabC (i + 1) a l
 | .loop a, l => .L i (i + 1) :: tabC (i + 1) a l
 | .exit j, l => .E i j :: l
 | .ret, l => .T i :: l
 | .skip, l => .N i :: l
 | .label _, l => .N i :: l
 | .region _ A false, l => .R i (upTo 0 A.toList) :: tabO i false A 0 A.toList l
 | .region j A true, l => .D i j (upTo 0 A.toList) :: tabO i true A 0 A.toList l
 | _, l => l
def KxP (n : Nat → Code) : Kx → Prop
 | .S a b c => ∀ (I : Inv) (next stop : Cont) (k : List Item) (env : List V) (S : Mem), codeS I next stop (n a) k env S = next (.code (n b) :: .code (n c) :: k) env S
 | .B a b j => ∀ (I : Inv) (next stop : Cont) (k : List Item) (env : List V) (S : Mem), codeS I next stop (n a) k env S = next (.code (n b) :: .inBlock j :: k) env S
 | .C a x b c => ∀ (I : Inv) (next stop : Cont) (k : List Item) (env : List V) (S : Mem), codeS I next stop (n a) k env S = condV next (evalV I env x) (n b) (n c) k env S
 | .L a b => ∀ (I : Inv) (next stop : Cont) (k : List Item) (env : List V) (S : Mem), codeS I next stop (n a) k env S = stop (.code (.loop (n b)) :: k) env S
 | .E a j => ∀ (I : Inv) (next stop : Cont) (k : List Item) (env : List V) (S : Mem), codeS I next stop (n a) k env S = exitV next (exitTo j k) env S
 | .T a => ∀ (I : Inv) (next stop : Cont) (k : List Item) (env : List V) (S : Mem), codeS I next stop (n a) k env S = stop (.code .ret :: k) env S
 | .N a => ∀ (I : Inv) (next stop : Cont) (k : List Item) (env : List V) (S : Mem), codeS I next stop (n a) k env S = next k env S
 | .R a l => ∀ (I : Inv) (next stop : Cont) (k : List Item) (env : List V) (S : Mem), codeS I next stop (n a) k env S = next (.inRegion (opsOf (n a)) l :: k) env S
 | .D a j l => (∀ (I : Inv) (next stop : Cont) (k : List Item) (env : List V) (S : Mem), codeS I next stop (n a) k env S = stop (.code (.region j (opsOf (n a)) true) :: k) env S) ∧ (opsOf (n a)).toList = l.map (opAt (opsOf (n a)))
 | .r a j q d => ∀ (P : Program) (I : Inv) (next stop : Cont) (rest : List Nat) (k : List Item) (env : List V) (S : Mem), regS P I next stop (opsOf (n a)) j rest k env S = doO P I next stop (opsOf (n a)) rest q d k env S
 | .g a j t b q d => (∀ (P : Program) (I : Inv) (next stop : Cont) (rest : List Nat) (k : List Item) (env : List V) (S : Mem), regS P I next stop (opsOf (n a)) j rest k env S = guardS P I next stop (env.getD t .undef) b (opsOf (n a)) rest (opAt (opsOf (n a)) j) k env S) ∧ (∀ (P : Program) (I : Inv) (next stop : Cont) (rest : List Nat) (k : List Item) (env : List V) (S : Mem), doOp P I next stop (opsOf (n a)) rest (opAt (opsOf (n a)) j) k env S = doO P I next stop (opsOf (n a)) rest q d k env S) ∧ (opAt (opsOf (n a)) j).dst = d
 | .q a j q d => (∀ (P : Program) (I : Inv) (nq : LCont) (S : Mem) (l : List Oper) (env : List V), stepQ P I (opsOf (n a)) nq S (opAt (opsOf (n a)) j) l env = opO P I nq S q d l env) ∧ (opAt (opsOf (n a)) j).op = q ∧ (opAt (opsOf (n a)) j).dst = d
 | .h a j t b q d => (∀ (P : Program) (I : Inv) (nq : LCont) (S : Mem) (l : List Oper) (env : List V), stepQ P I (opsOf (n a)) nq S (opAt (opsOf (n a)) j) l env = stepV P I nq S (env.getD t .undef) b (opAt (opsOf (n a)) j) l env) ∧ (∀ (P : Program) (I : Inv) (nq : LCont) (S : Mem) (l : List Oper) (env : List V), opQ P I nq S (opAt (opsOf (n a)) j) l env = opO P I nq S q d l env) ∧ (opAt (opsOf (n a)) j).op = q ∧ (opAt (opsOf (n a)) j).dst = d
def KK (n : Nat → Code) : List Kx → Prop
 | [] => True
 | x :: l => KxP n x ∧ KK n l
theorem nodesA_app : ∀ (c : Code) (l : List Code), ∃ m, nodesA c l = c :: m ++ l ∧ m.length + 1 = csz c
 | .seq a b, l => by
  obtain ⟨m1, e1, n1⟩ := nodesA_app b l
  obtain ⟨m2, e2, n2⟩ := nodesA_app a (nodesA b l)
  exact ⟨a :: m2 ++ (b :: m1), by rw [nodesA, e2, e1]; simp, by simp [csz]; omega⟩
 | .cond x a b, l => by
  obtain ⟨m1, e1, n1⟩ := nodesA_app b l
  obtain ⟨m2, e2, n2⟩ := nodesA_app a (nodesA b l)
  exact ⟨a :: m2 ++ (b :: m1), by rw [nodesA, e2, e1]; simp, by simp [csz]; omega⟩
 | .block _ a, l => by
  obtain ⟨m, e, n⟩ := nodesA_app a l
  exact ⟨a :: m, by rw [nodesA, e]; simp, by simp [csz]; omega⟩
 | .loop a, l => by
  obtain ⟨m, e, n⟩ := nodesA_app a l
  exact ⟨a :: m, by rw [nodesA, e]; simp, by simp [csz]; omega⟩
 | .skip, _ | .region _ _ _, _ | .rangeFunc _ _ _ _, _ | .exit _, _ | .scope _, _ | .label _, _ | .goto _, _ | .ret, _ | .refuse _, _ => ⟨[], rfl, rfl⟩
theorem nth_drop : ∀ (L : List Code) (i : Nat) (c : Code) (m : List Code), L.drop i = c :: m → nth L i = c
 | [], i, c, m, h => by simp at h
 | x :: L, 0, c, m, h => by simp at h; exact h.1
 | x :: L, i + 1, c, m, h => nth_drop L i c m (by simpa using h)
theorem drop_more {L : List Code} {i : Nat} {a b : List Code} (h : L.drop i = a ++ b) : L.drop (i + a.length) = b := by
 rw [← List.drop_drop, h, List.drop_left]
theorem opAt_eq {A : Array Oper} {j : Nat} {o : Oper} (h : A[j]? = some o) : opAt A j = o := by unfold opAt; rw [h]
theorem tabO_ok {n : Nat → Code} {i : Nat} {draw : Bool} {A : Array Oper} (hA : opsOf (n i) = A) : ∀ (m : List Oper) (j : Nat) (l : List Kx), A.toList.drop j = m → KK n l → KK n (tabO i draw A j m l)
 | [], _, _, _, hl => hl
 | o :: m, j, l, hd, hl => by
  have hm : A.toList.drop (j + 1) = m := by rw [← List.drop_drop, hd]; rfl
  have ho : A[j]? = some o := by
   have h0 : (A.toList.drop j)[0]? = some o := by rw [hd]; rfl
   rw [List.getElem?_drop] at h0
   simpa using h0
  have ih := tabO_ok (draw := draw) hA m (j + 1) l hm hl
  have hp := opAt_eq ho
  unfold tabO
  split
  ·rename_i hg
   refine ⟨?_, ih⟩
   cases draw
   ·intro P I next stop rest k env S
    rw [hA]
    unfold regS
    rw [ho]
    simp only [hg]
    rfl
   ·refine ⟨?_, by rw [hA, hp], by rw [hA, hp]⟩
    intro P I nq S l env
    rw [hA, hp]
    unfold stepQ
    simp only [hg]
    rfl
  ·rename_i t b hg
   split
   ·rename_i t2 ht
    have hv : ∀ env : List V, guardV env A t = env.getD t2 .undef := fun env => by unfold guardV; rw [ht]
    refine ⟨?_, ih⟩
    cases draw
    ·refine ⟨?_, ?_, by rw [hA, hp]⟩
     ·intro P I next stop rest k env S
      rw [hA, hp]
      unfold regS
      rw [ho]
      simp only [hg, hv]
     ·intro P I next stop rest k env S
      rw [hA, hp]
      rfl
    ·refine ⟨?_, ?_, by rw [hA, hp], by rw [hA, hp]⟩
     ·intro P I nq S l env
      rw [hA, hp]
      unfold stepQ
      simp only [hg, hv]
      rfl
     ·intro P I nq S l env
      rw [hA, hp]
      rfl
   ·exact ih
theorem upTo_map (A : Array Oper) : ∀ (l : List Oper) (i : Nat), A.toList.drop i = l → (upTo i l).map (opAt A) = l
 | [], _, _ => rfl
 | o :: m, i, h => by
  have hm : A.toList.drop (i + 1) = m := by rw [← List.drop_drop, h]; rfl
  have ho : A[i]? = some o := by
   have h0 : (A.toList.drop i)[0]? = some o := by rw [h]; rfl
   rw [List.getElem?_drop] at h0
   simpa using h0
  rw [upTo, List.map_cons, opAt_eq ho, upTo_map A m (i + 1) hm]
theorem tabC_ok (L : List Code) : ∀ (c : Code) (i : Nat) (rest : List Code) (l : List Kx), L.drop i = nodesA c rest → KK (nth L) l → KK (nth L) (tabC i c l)
 | .seq a b, i, rest, l, h, hl => by
  obtain ⟨m1, e1, n1⟩ := nodesA_app b rest
  obtain ⟨m2, e2, n2⟩ := nodesA_app a (nodesA b rest)
  have h1 : L.drop (i + 1) = nodesA a (nodesA b rest) := by rw [← List.drop_drop, h]; rfl
  have h2 : L.drop (i + csz a + 1) = nodesA b rest := by
   have := drop_more (h1.trans e2)
   rw [← this]; congr 1; simp; omega
  have k0 := nth_drop L i _ _ h
  have k1 := nth_drop L (i + 1) _ _ (h1.trans e2)
  have k2 := nth_drop L (i + csz a + 1) _ _ (h2.trans e1)
  refine ⟨?_, tabC_ok L a (i + 1) _ _ h1 (tabC_ok L b _ _ _ h2 hl)⟩
  intro I next stop k env S
  rw [k0, k1, k2]; rfl
 | .cond x a b, i, rest, l, h, hl => by
  obtain ⟨m1, e1, n1⟩ := nodesA_app b rest
  obtain ⟨m2, e2, n2⟩ := nodesA_app a (nodesA b rest)
  have h1 : L.drop (i + 1) = nodesA a (nodesA b rest) := by rw [← List.drop_drop, h]; rfl
  have h2 : L.drop (i + csz a + 1) = nodesA b rest := by
   have := drop_more (h1.trans e2)
   rw [← this]; congr 1; simp; omega
  have k0 := nth_drop L i _ _ h
  have k1 := nth_drop L (i + 1) _ _ (h1.trans e2)
  have k2 := nth_drop L (i + csz a + 1) _ _ (h2.trans e1)
  refine ⟨?_, tabC_ok L a (i + 1) _ _ h1 (tabC_ok L b _ _ _ h2 hl)⟩
  intro I next stop k env S
  rw [k0, k1, k2]; rfl
 | .block j a, i, rest, l, h, hl => by
  obtain ⟨m, e, n⟩ := nodesA_app a rest
  have h1 : L.drop (i + 1) = nodesA a rest := by rw [← List.drop_drop, h]; rfl
  have k0 := nth_drop L i _ _ h
  have k1 := nth_drop L (i + 1) _ _ (h1.trans e)
  refine ⟨?_, tabC_ok L a (i + 1) _ _ h1 hl⟩
  intro I next stop k env S
  rw [k0, k1]; rfl
 | .loop a, i, rest, l, h, hl => by
  obtain ⟨m, e, n⟩ := nodesA_app a rest
  have h1 : L.drop (i + 1) = nodesA a rest := by rw [← List.drop_drop, h]; rfl
  have k0 := nth_drop L i _ _ h
  have k1 := nth_drop L (i + 1) _ _ (h1.trans e)
  refine ⟨?_, tabC_ok L a (i + 1) _ _ h1 hl⟩
  intro I next stop k env S
  rw [k0, k1]; rfl
 | .region j A false, i, rest, l, h, hl => by
  have k0 := nth_drop L i _ _ h
  refine ⟨?_, tabO_ok (by rw [k0]; rfl) _ _ _ rfl hl⟩
  intro I next stop k env S
  rw [k0]; rfl
 | .region j A true, i, rest, l, h, hl => by
  have k0 := nth_drop L i _ _ h
  refine ⟨⟨?_, ?_⟩, tabO_ok (by rw [k0]; rfl) _ _ _ rfl hl⟩
  ·intro I next stop k env S
   rw [k0]; rfl
  ·rw [k0]; exact (upTo_map A _ 0 rfl).symm
 | .skip, i, rest, l, h, hl => ⟨fun I next stop k env S => by rw [nth_drop L i _ _ h]; rfl, hl⟩
 | .label _, i, rest, l, h, hl => ⟨fun I next stop k env S => by rw [nth_drop L i _ _ h]; rfl, hl⟩
 | .ret, i, rest, l, h, hl => ⟨fun I next stop k env S => by rw [nth_drop L i _ _ h]; rfl, hl⟩
 | .exit j, i, rest, l, h, hl => ⟨fun I next stop k env S => by rw [nth_drop L i _ _ h]; unfold codeS exitV; rfl, hl⟩
 | .rangeFunc _ _ _ _, _, _, _, _, hl | .scope _, _, _, _, _, hl | .goto _, _, _, _, _, hl | .refuse _, _, _, _, _, hl => hl
theorem KK_of (f : Func) {t : List Kx} (h : tabC 0 (bodyOf f) [] = t) : KK (kF f) t := by
 subst h
 exact tabC_ok _ _ 0 [] [] rfl trivial
def FnIs (P : Program) (fn : FuncId) (f : Func) (n : Nat) : Prop := P.funcs[fn]? = some f ∧ (f.body, f.name == "runtime.NumGoroutine", f.ntmps) = (some (kF f 0), false, n)
theorem FnIs.run {P : Program} {I : Inv} {fn : FuncId} {f : Func} {n : Nat} (b : FnIs P fn f n) {args : List V} {S : Mem} {R : V → Mem → Prop} (hl : Nat.ble args.length n = true)
 (h : smL args = true → ARun P I (S.boxes.length, S.toks.length) fn [.code (kF f 0)] (envS n (numbered 0 args)) S (Left S R)) : AFn P I fn args S R :=
 AFn.bodyE n b.1 (Prod.mk.inj b.2).1 (Prod.mk.inj (Prod.mk.inj b.2).2).1 (Prod.mk.inj (Prod.mk.inj b.2).2).2 (Nat.le_of_ble_eq_true hl) h
theorem FnIs.go {P : Program} {I : Inv} {fn : FuncId} {f : Func} {n : Nat} (b : FnIs P fn f n) {args : List V} {S : Mem} {R : V → Mem → Prop} (m : Nat) (hl : Nat.ble args.length n = true)
 (h : smL args = true → steps P I m (fun k env S' => ARun P I (S.boxes.length, S.toks.length) fn k env S' (Left S R)) [.code (kF f 0)] (envS n (numbered 0 args)) S) : AFn P I fn args S R :=
 b.run hl fun hs => ARun.go m (h hs)
abbrev Same (v : V) (S : Mem) : V → Mem → Prop := fun v' S' => v' = v ∧ S' = S
def Cx.bare (c : Cx) (w : World) (hM : ∀ g k, c.M g k → c.I.top ≤ g ∧ g < w.heap.size) : Cx := ⟨w.heap.size, [], [], c.I, c.M, hM⟩
theorem Rep.M_in {c : Cx} {w : World} {S : Mem} (h : Rep c w S) (g k : Nat) (hm : c.M g k) : c.I.top ≤ g ∧ g < w.heap.size := by
 refine ⟨?_, ?_⟩
 ·have hB := h.hB.1
  rcases hm with (hm | hm) | ⟨t, i, off, ht, ha, h1, h2⟩
  ·exact (c.hX _ _ hm).1
  ·obtain ⟨i, hi⟩ := mem_ρ.1 hm
   have := (h.box i g hi).1
   omega
  ·obtain ⟨a1, a2, a3, a4, a5⟩ := h.tok t i ht
   have hlt : i.n < i.cap := by
    rcases Nat.lt_or_ge i.n i.cap with h' | h'
    ·exact h'
    ·have := Nat.mul_le_mul_right i.sz h'
     omega
   have := (a5 hlt g off ha).1
   omega
 ·rcases Nat.lt_or_ge g w.heap.size with h' | h'
  ·exact h'
  ·exact absurd hm (h.notM_new h')
theorem VR.move {c c' : Cx} {w : World} {v : V} {x : Value} (h : VR c w v x) (hM : ∀ g k, c'.M g k → c.M g k) : VR c' w (wk 0 0 v) x := by
 have hd : ∀ {d : D} {x : Value}, DR c.M w d x → DR c'.M w d x := fun h => h.mono fun _ _ _ hm hv => ⟨fun h => hm (hM _ _ h), hv⟩
 induction h with
 | undef v => unfold wk; exact .undef v
 | d x v h => unfold wk; exact .d x v (hd h)
 | full rows a h ha => unfold wk; exact .d _ _ (hd h)
 | own rows t a cap i h ht hr hn hl =>
  unfold wk
  rw [if_neg (by omega)]
  exact .d _ _ (hd h)
 | ptr i k b h =>
  unfold wk
  rw [if_neg (by omega)]
  exact .undef _
 | bx i k cap b h hn hm =>
  unfold wk
  rw [if_neg (by omega)]
  exact .undef _
 | self i T b v h hT hv =>
  unfold wk
  rw [if_neg (by omega)]
  exact .undef _
 | buf rows t T v h hT ih =>
  unfold wk at ih ⊢
  rw [if_neg (by omega)] at ih ⊢
  exact ih
 | eptr row k g o f h =>
  unfold wk
  refine .eptr row k g o f fun q hq => ?_
  obtain ⟨a, b, d⟩ := h q hq
  exact ⟨fun h => a (hM _ _ h), b, hd d⟩
 | nilp => unfold wk; exact .nilp
 | nilf => unfold wk; exact .nilf
 | func f first caps cf cc h1 h2 h3 h4 ih1 ih2 =>
  unfold wk
  rw [wkL_map, wkL_map]
  exact .func f _ _ cf cc (by simpa using h1) (by simpa using h2) (fun j hj => by simpa using ih1 j (by simpa using hj)) (fun j hj => by simpa using ih2 j (by simpa using hj))
 | agg vs cs h1 h2 h3 ih =>
  unfold wk
  rw [wkL_map]
  exact .agg _ cs (by simpa using h1) (fun j hj => by simpa using ih j (by simpa using hj)) (fun j hj => h3 j (by simpa using hj))
 | tup vs cs h1 h2 ih =>
  unfold wk
  rw [wkL_map]
  exact .tup _ cs (by simpa using h1) (fun j hj => by simpa using ih j (by simpa using hj))
theorem AFn.frame {P : Program} {I : Inv} {f : FuncId} {args : List V} {R : V → Mem → Prop} (h : AFn P I f (wkL 0 0 args) ⟨[], []⟩ R) (S : Mem) : AFn P I f args S fun v S' => S' = S ∧ ∃ v0 S0, R v0 S0 ∧ v = wk 0 0 v0 := by
 refine ⟨h.1, fun c w xs h1 h2 h3 hI cs => ?_⟩
 have hM := h3.M_in
 have hc1 : ∀ g k, (c.bare w hM).M g k ↔ c.M g k := by
  intro g k
  constructor
  ·rintro ((h' | h') | ⟨t, i, off, ht, _⟩)
   ·exact h'
   ·simp [Cx.bare] at h'
   ·simp [Cx.bare] at ht
  ·exact fun h' => .inl (.inl h')
 have hr : Rep (c.bare w hM) w ⟨[], []⟩ :=
  ⟨⟨by have := h3.hB; show c.I.top ≤ w.heap.size; omega, Nat.le_refl _⟩, rfl, fun i b h => by simp [Cx.bare] at h, fun i j b h => by simp [Cx.bare] at h, rfl, fun t i h => by simp [Cx.bare] at h, fun t t' i i' g off off' h => by simp [Cx.bare] at h,
    fun w' hw => h3.inv w' (hw.mono h3.hB.2)⟩
 have hwl : (wkL 0 0 args).length = args.length := by rw [wkL_map, List.length_map]
 obtain ⟨e, w', fr, ⟨v, x, S0, c', rfl, a2, a3, a4, a5⟩, r⟩ := h.2 (c.bare w hM) w xs (by rw [hwl]; exact h1) (fun j hj => by
  have hj' : j < args.length := by rw [← hwl]; exact hj
  have e : (wkL 0 0 args)[j] = wk 0 0 args[j] := by simp [wkL_map]
  rw [e]
  exact (h2 j hj').move fun g k h' => (hc1 g k).1 h') hr hI cs
 have hb : Below w.heap.size w w' := a4.below
 obtain ⟨q1, q2⟩ := h3.under hb
 refine ⟨.returned x, w', fr, ⟨wk 0 0 v, x, S, c, rfl, ⟨rfl, v, S0, a2, rfl⟩, q1, q2, ?_⟩, r⟩
 refine a5.move fun g k hm => ?_
 have hX : c'.X = c.M := a4.X
 refine .inl (.inl ?_)
 show c'.X g k
 rw [hX]
 exact hm
theorem AFn.same {P : Program} {I : Inv} {f : FuncId} {args : List V} {v : V} (h : AFn P I f args ⟨[], []⟩ (Same v ⟨[], []⟩)) (hd : wkL 0 0 args = args) (hv : wk 0 0 v = v) (S : Mem) : AFn P I f args S (Same v S) :=
 AFn.mono (AFn.frame (R := Same v ⟨[], []⟩) (by rw [hd]; exact h) S) fun v' S' h => by
  obtain ⟨h1, v0, S0, ⟨h2, _⟩, h3⟩ := h
  exact ⟨by rw [h3, h2, hv], h1⟩
theorem ARun.fitE {P : Program} {I : Inv} {z : Nat × Nat} {fn : FuncId} {R : V → Mem → Prop} {k : List Item} {env : List V} {S : Mem} (h : (∀ t, fit S.boxes.length S.toks.length (env.getD t .undef) = true) → ARun P I z fn k env S R) : ARun P I z fn k env S R :=
 fun b a c w c0 w0 h1 h2 h3 h4 h5 h6 hI => h (fun t => by
  have := (h4.get t).fits
  rw [h5.len, h5.toks, List.length_map]
  exact this) b a c w c0 w0 h1 h2 h3 h4 h5 h6 hI
end Go.Ab
namespace Go.Proofs.YtfaoamebphckbaaGreatDoor
open Go.RowKit Go.Av Go.Ab
def tabRow (l : List (List UInt8)) : List D := l.map .str
theorem tabRow_cell {w : World} {g : Nat} {l : List (List UInt8)} {t : TypeId} {fr : Nat × Nat} (h : w.heap[g]? = some (.cells (tabV l) t fr)) (hs : l.all (fun s => decide (s.length ≤ 9223372036854775807)) = true) (q : Nat) (hq : q < (tabRow l).length) : ∃ v, flatV (tabRow l)[q] = some v ∧ w.cell? ⟨g, q, none⟩ = some v := by
 have hq' : q < l.length := by simpa [tabRow] using hq
 have hsl := of_decide_eq_true (List.all_eq_true.1 hs l[q] (List.getElem_mem hq'))
 refine ⟨.string ⟨(l[q]).toArray⟩, ?_, ?_⟩
 ·simp [tabRow, flatV, hsl]
 ·simp [World.cell?, h, tabV, hq']
def tabG (g : Nat) : Option (List D) := bif g == 0 then some (tabRow signsL) else bif g == 1 then some (tabRow keysL) else none
def TabI : Inv := ⟨Tabs, 1 + 0 + 1, tabG, by
 intro w g row h hg
 unfold tabG at hg
 by_cases e : (g == 0) = true
 ·rw [e, cond_true] at hg
  obtain rfl := Option.some.inj hg
  obtain rfl := eq_of_beq e
  obtain ⟨t, fr, h1⟩ := h.signs
  exact ⟨by decide, fun q hq => tabRow_cell h1 (by kernel_rfl) q hq⟩
 ·rw [Bool.eq_false_iff.2 e, cond_false] at hg
  by_cases e : (g == 1) = true
  ·rw [e, cond_true] at hg
   obtain rfl := Option.some.inj hg
   obtain rfl := eq_of_beq e
   obtain ⟨t, fr, h1⟩ := h.keys
   exact ⟨by decide, fun q hq => tabRow_cell h1 (by kernel_rfl) q hq⟩
  ·rw [Bool.eq_false_iff.2 e, cond_false] at hg
   cases hg⟩
end Go.Proofs.YtfaoamebphckbaaGreatDoor
namespace Go.Ab
open Go.RowKit Go.Av
set_option maxRecDepth 100000
set_option linter.defProp false
def awC := And.intro @Go.Ab.steps_succ (And.intro @Go.Ab.steps_zero (And.intro @Go.Ab.itemS.eq_1 (And.intro @Go.Ab.itemS.eq_2 (And.intro @Go.Ab.itemS.eq_3 (And.intro @Go.Ab.itemS.eq_4 (And.intro @Go.Ab.itemS.eq_5 (And.intro @Go.Ab.guardS.eq_1 (And.intro @Go.Ab.guardS.eq_2 (And.intro @Go.Ab.guardS.eq_3 (And.intro @Go.Ab.guardV.eq_1 (And.intro @Go.Ab.guardB_yes (And.intro @Go.Ab.guardB_tf (And.intro @Go.Ab.guardB_ft (And.intro @Go.Ab.condS_true (And.intro @Go.Ab.condS_false (And.intro @Go.Ab.bindS_some (And.intro @Go.Ab.op1.eq_1 (And.intro @Go.Ab.op1.eq_2 (And.intro @Go.Ab.op1.eq_3 (And.intro @Go.Ab.op1.eq_4 (And.intro @Go.Ab.op1.eq_5 (And.intro @Go.Ab.op1.eq_6 (And.intro @Go.Ab.op1.eq_7 (And.intro @Go.Ab.op1.eq_8 (And.intro @Go.Ab.op1.eq_9 (And.intro @Go.Ab.op1.eq_10 (And.intro @Go.Ab.op1.eq_11 (And.intro @Go.Ab.op1.eq_12 (And.intro @Go.Ab.op1.eq_13 (And.intro @Go.Ab.op1.eq_14 (And.intro @Go.Ab.op1.eq_15 (And.intro @Go.Ab.op1.eq_16 (And.intro @Go.Ab.op1.eq_17 (And.intro @Go.Ab.op1.eq_18 (And.intro @Go.Ab.op1.eq_19 (And.intro @Go.Ab.op1.eq_20 (And.intro @Go.Ab.op1.eq_21 (And.intro @Go.Ab.opCall.eq_1 (And.intro @Go.Ab.opStore.eq_def (And.intro @Go.Ab.opLoad.eq_1 (And.intro @Go.Ab.opLoad.eq_2 (And.intro @Go.Ab.opLoad.eq_3 (And.intro @Go.Ab.loadV.eq_1 (And.intro @Go.Ab.loadD.eq_1 (And.intro @Go.Ab.opField.eq_1 (And.intro @Go.Ab.moveV.eq_1 (And.intro @Go.Ab.moveV.eq_2 (And.intro @Go.Ab.moveV.eq_3 (And.intro @Go.Ab.opIndexAddr.eq_def (And.intro @Go.Ab.opLen.eq_1 (And.intro @Go.Ab.opBuild.eq_1 (And.intro @Go.Ab.fillV.eq_1 (And.intro @Go.Ab.fillV.eq_2 (And.intro @Go.Ab.opBuildSlice.eq_1 (And.intro @Go.Ab.rep.eq_1 (And.intro @Go.Ab.rep.eq_2 (And.intro @Go.Ab.chunk.eq_1 (And.intro @Go.Ab.chunk.eq_2 (And.intro @Go.Ab.opSlice.eq_1 (And.intro @Go.Ab.bnd.eq_1 (And.intro @Go.Ab.bnd.eq_2 (And.intro @Go.Ab.bnd.eq_3 (And.intro @Go.Ab.opIndex.eq_def (And.intro @Go.Ab.binI.eq_1 (And.intro @Go.Ab.binI.eq_2 (And.intro @Go.Ab.binI.eq_3 (And.intro @Go.Ab.binI.eq_4 (And.intro @Go.Ab.binI.eq_5 (And.intro @Go.Ab.binI.eq_6 (And.intro @Go.Ab.binI.eq_7 (And.intro @Go.Ab.binI.eq_8 (And.intro @Go.Ab.binI.eq_9 (And.intro @Go.Ab.binI.eq_10 (And.intro @Go.Ab.binI.eq_11 (And.intro @Go.Ab.binI.eq_12 (And.intro @Go.Ab.binI.eq_13 (And.intro @Go.Ab.binI.eq_14 (And.intro @Go.Ab.binI.eq_15 (And.intro @Go.Ab.binI.eq_16 (And.intro @Go.Ab.binI.eq_17 (And.intro @Go.Ab.binI.eq_18 (And.intro @Go.Ab.binS.eq_1 (And.intro @Go.Ab.binS.eq_2 (And.intro @Go.Ab.binS.eq_3 (And.intro @Go.Ab.binS.eq_4 (And.intro @Go.Ab.binS.eq_5 (And.intro @Go.Ab.binS.eq_6 (And.intro @Go.Ab.binS.eq_7 (And.intro @Go.Ab.binS.eq_8 (And.intro @Go.Ab.opBin.eq_1 (And.intro @Go.Ab.opBin.eq_2 (And.intro @Go.Ab.opBin.eq_3 (And.intro @Go.Ab.opBin.eq_4 (And.intro @Go.Ab.opUn.eq_1 (And.intro @Go.Ab.opUn.eq_2 (And.intro @Go.Ab.opUn.eq_3 (And.intro @Go.Ab.opConv.eq_1 (And.intro @Go.Ab.newRows.eq_1 (And.intro @Go.Ab.opAppend.eq_1 (And.intro @Go.Ab.opAppend.eq_2 (And.intro @Go.Ab.opAppendT.eq_def (And.intro @Go.Ab.opAppendF.eq_1 (And.intro @Go.Ab.pickV.eq_1 (And.intro @Go.Ab.pickV.eq_2 (And.intro @Go.Ab.mapParts.eq_1 (And.intro @Go.Ab.still.eq_1 (And.intro @Go.Ab.cellsV.eq_1 (And.intro @Go.Ab.cellsV.eq_2 (And.intro @Go.Ab.cellsV.eq_3 (And.intro @Go.Ab.cellsV.eq_4 (And.intro @Go.Ab.toD.eq_1 (And.intro @Go.Ab.toD.eq_2 (And.intro @Go.Ab.toD.eq_3 (And.intro @Go.Ab.toD.eq_4 (And.intro @Go.Ab.evalV.eq_1 (And.intro @Go.Ab.evalV.eq_2 (And.intro @Go.Ab.evalV.eq_3 (And.intro @Go.Ab.evalV.eq_4 (And.intro @Go.Ab.ofVal.eq_1 (And.intro @Go.Ab.ofVal.eq_2 (And.intro @Go.Ab.ofVal1.eq_1 (And.intro @Go.Ab.ofVal1.eq_2 (And.intro @Go.Ab.ofVal1.eq_3 (And.intro @Go.Ab.ofVal1.eq_4 (And.intro @Go.Ab.ofVal1.eq_5 (And.intro @Go.Ab.ofVal1.eq_6 (And.intro @Go.Ab.ofVal1.eq_7 (And.intro @Go.Ab.setV.eq_1 (And.intro @Go.Ab.setV.eq_2 (And.intro @Go.Ab.upTo.eq_1 (And.intro @Go.Ab.upTo.eq_2 (And.intro @Go.exitTo.eq_1 (And.intro @Go.exitTo.eq_2 (And.intro @Go.exitTo.eq_3 (And.intro @List.getElem?_toArray.{0} (And.intro @List.getElem?_cons_zero.{0} (And.intro @List.getElem?_cons_succ.{0} (And.intro @List.set_cons_zero.{0} (And.intro @List.set_cons_succ.{0} (And.intro @Option.map_some.{0, 0} (And.intro @Option.map_none.{0, 0} (And.intro @Option.bind_some.{0, 0} (And.intro @if_true.{1} (And.intro @if_false.{1} (And.intro @ite_true.{1} (And.intro @ite_false.{1} (And.intro @Bool.false_eq_true (And.intro @eq_self.{1} (And.intro @beq_self_eq_true.{0} (And.intro @List.size_toArray.{0} (And.intro @List.length_cons.{0} (And.intro @List.length_nil.{0} (And.intro @List.length_append.{0} (And.intro @List.length_set.{0} (And.intro @List.length_map.{0, 0} (And.intro @List.take_succ_cons.{0} (And.intro @List.take_zero.{0} (And.intro @List.drop_succ_cons.{0} (And.intro @List.drop_zero.{0} (And.intro @List.nil_append.{0} (And.intro @List.cons_append.{0} (And.intro @List.append_nil.{0} (And.intro @List.append_assoc.{0} (And.intro @Nat.zero_add (And.intro @Nat.add_zero (And.intro @List.map_cons.{0, 0} (And.intro @List.map_nil.{0, 0} (And.intro @List.toList_toArray.{0} (And.intro @Array.toList_map.{0, 0} (And.intro @true_and (And.intro @and_true (And.intro @cond_true.{1} (And.intro @cond_false.{1} (And.intro @Go.Ab.bx_loc (And.intro @Go.Ab.bx_loc0 (And.intro @Go.Ab.bx_old (And.intro @Go.Ab.bx_set_loc (And.intro @Go.Ab.bx_set_loc0 (And.intro @Go.Ab.bx_set_old (And.intro @Go.Ab.bx_get (And.intro @List.set_set.{0} (And.intro @List.all_cons.{0} (And.intro @List.all_nil.{0} (And.intro @Bool.and_true (And.intro @Bool.true_and (And.intro @Int.natCast_one (And.intro @Int.natCast_zero (And.intro @Int.cast_ofNat_Int (And.intro @Int.toNat_natCast (And.intro @Int.natCast_nonneg (And.intro @decide_true (And.intro @decide_false (And.intro @Nat.le_refl (And.intro @Int.le_refl (And.intro @Int.natCast_add (And.intro @Int.toNat_zero (And.intro @Nat.sub_zero (And.intro @Go.Ab.lexQ_cons (And.intro @Go.Ab.lexQ_nil (And.intro @Go.Ab.bindQ_some (And.intro @Go.Ab.guardQ_yes (And.intro @Go.Ab.guardQ_tf (And.intro @Go.Ab.guardQ_ft (And.intro @Go.Ab.callQ.eq_def (And.intro @Bool.not_false (And.intro @Bool.not_true (And.intro @Go.Ab.opMin.eq_1 (And.intro @Go.Ab.opMin.eq_2 (And.intro @Go.Ab.opMax.eq_1 (And.intro @Go.Ab.opMax.eq_2 (And.intro @Go.Ab.opPtr.eq_1 (And.intro @Go.Ab.ptrEq.eq_1 (And.intro @Go.Ab.ptrEq.eq_2 (And.intro @Go.Ab.ptrEq.eq_3 (And.intro @Go.Ab.ptrEq.eq_4 (And.intro @Go.Ab.ptrEq.eq_5 (And.intro @Go.Ab.ptrEq.eq_6 (And.intro @Go.Ab.convSame.eq_1 (And.intro @Go.Ab.convSame.eq_2 (And.intro @Go.Ab.globV.eq_1 @Go.Ab.globV.eq_2))))))))))))))))))))))))))))))))))))))))))))))))))))))))))))))))))))))))))))))))))))))))))))))))))))))))))))))))))))))))))))))))))))))))))))))))))))))))))))))))))))))))))))))))))))))))))))))))))))))))))))))))))))))))))))
def awO := And.intro @Go.Ab.codeS.eq_1 (And.intro @Go.Ab.codeS.eq_2 (And.intro @Go.Ab.codeS.eq_3 (And.intro @Go.Ab.codeS.eq_4 (And.intro @Go.Ab.codeS.eq_5 (And.intro @Go.Ab.codeS.eq_6 (And.intro @Go.Ab.codeS.eq_7 (And.intro @Go.Ab.codeS.eq_8 (And.intro @Go.Ab.regS.eq_1 (And.intro @Go.Ab.doOp.eq_1 (And.intro @List.getD_cons_zero.{0} (And.intro @List.getD_cons_succ.{0} (And.intro @List.replicate_succ.{0} (And.intro @List.replicate_zero.{0} (And.intro @Go.Ab.envOf.eq_1 (And.intro @List.foldl_cons.{0, 0} (And.intro @List.foldl_nil.{0, 0} (And.intro @Go.Ab.stepQ.eq_1 @Go.Ab.opQ.eq_1)))))))))))))))))
def awN := And.intro @Go.Ab.exitV_some (And.intro @Go.Ab.envS_eval (And.intro @Go.Ab.envS_get (And.intro @Go.Ab.envS_put (And.intro @Go.Ab.envS_set (And.intro @Go.Ab.envS_no (And.intro @Go.Ab.lk_cons (And.intro @Go.Ab.lk_nil (And.intro @Go.Ab.numbered.eq_1 (And.intro @Go.Ab.numbered.eq_2 (And.intro @Go.Ab.condV_b (And.intro @Go.Ab.stepV_b @Go.Ab.stepV_g)))))))))))
end Go.Ab
namespace Go.Proofs.YtfaoamebphckbaaGreatDoor
open Go.RowKit Go.Av Go.Ab
set_option linter.unusedSimpArgs false
set_option maxRecDepth 100000
mutual
def tyD : TyT → List D
 | .mk k n es => [.int .i64 k, .str n, .sl (tyDs es)]
def tyDs : List TyT → List (List D)
 | [] => []
 | t :: l => tyD t :: tyDs l
end
theorem tyDs_map : ∀ l : List TyT, tyDs l = l.map tyD
 | [] => by simp [tyDs]
 | t :: l => by simp [tyDs, tyDs_map l]
theorem tyD_eq (t : TyT) : tyD t = [.int .i64 t.kind, .str t.name, .sl (t.elem.map tyD)] := by
 cases t
 rw [tyD, tyDs_map]
 rfl
def ssD (l : List (List UInt8)) : List (List D) := l.map fun s => [.str s]
mutual
def exD : ExT → List D
 | .mk k t i ty ns ks => [.int .i64 k, .str t, .int .u64 i, .int .i64 ty.kind, .str ty.name, .sl (ty.elem.map tyD), .sl (ssD ns), .sl (exDs ks)]
def exDs : List ExT → List (List D)
 | [] => []
 | x :: l => exD x :: exDs l
end
theorem exDs_map : ∀ l : List ExT, exDs l = l.map exD
 | [] => by simp [exDs]
 | t :: l => by simp [exDs, exDs_map l]
theorem exD_eq (x : ExT) : exD x = [.int .i64 x.kind, .str x.text, .int .u64 x.int, .int .i64 x.type.kind, .str x.type.name, .sl (x.type.elem.map tyD), .sl (ssD x.names), .sl (x.kids.map exD)] := by
 cases x
 rw [exD, exDs_map]
 rfl
mutual
def stD : StT → List D
 | .mk k ns ty ls es b e cs => [.int .i64 k, .sl (ssD ns), .int .i64 ty.kind, .str ty.name, .sl (ty.elem.map tyD), .sl (ls.map exD), .sl (es.map exD), .sl (stDs b), .sl (stDs e), .sl (caDs cs)]
def stDs : List StT → List (List D)
 | [] => []
 | x :: l => stD x :: stDs l
def caD : CaT → List D
 | .mk i b => [.int .u64 i, .sl (stDs b)]
def caDs : List CaT → List (List D)
 | [] => []
 | x :: l => caD x :: caDs l
end
theorem stDs_map : ∀ l : List StT, stDs l = l.map stD
 | [] => by simp [stDs]
 | t :: l => by simp [stDs, stDs_map l]
theorem caDs_map : ∀ l : List CaT, caDs l = l.map caD
 | [] => by simp [caDs]
 | t :: l => by simp [caDs, caDs_map l]
theorem caD_eq (c : CaT) : caD c = [.int .u64 c.int, .sl (c.body.map stD)] := by
 cases c
 rw [caD, stDs_map]
 rfl
theorem stD_eq (s : StT) : stD s = [.int .i64 s.kind, .sl (ssD s.names), .int .i64 s.type.kind, .str s.type.name, .sl (s.type.elem.map tyD), .sl (s.lefts.map exD), .sl (s.exprs.map exD), .sl (s.body.map stD), .sl (s.els.map stD), .sl (s.cases.map caD)] := by
 cases s
 rw [stD, stDs_map, stDs_map, caDs_map]
 rfl
def paD (p : PaT) : List D := [.str p.name, .int .i64 p.type.kind, .str p.type.name, .sl (p.type.elem.map tyD)]
def suD (s : SuT) : List D := [.str s.name, .sl (s.fields.map paD)]
def fuD (f : FuT) : List D := [.str f.name, .sl (f.params.map paD), .sl (f.results.map tyD), .sl (f.body.map stD)]
theorem paD_eq (p : PaT) : paD p = [.str p.name, .int .i64 p.type.kind, .str p.type.name, .sl (p.type.elem.map tyD)] := rfl
theorem suD_eq (s : SuT) : suD s = [.str s.name, .sl (s.fields.map paD)] := rfl
theorem fuD_eq (f : FuT) : fuD f = [.str f.name, .sl (f.params.map paD), .sl (f.results.map tyD), .sl (f.body.map stD)] := rfl
def tyV (t : TyT) : V := .agg [.d (.int .i64 t.kind), .d (.str t.name), .d (.sl (t.elem.map tyD))]
def exV (x : ExT) : V := .agg [.d (.int .i64 x.kind), .d (.str x.text), .d (.int .u64 x.int), .d (.int .i64 x.type.kind), .d (.str x.type.name), .d (.sl (x.type.elem.map tyD)), .d (.sl (ssD x.names)), .d (.sl (x.kids.map exD))]
def stV (s : StT) : V := .agg [.d (.int .i64 s.kind), .d (.sl (ssD s.names)), .d (.int .i64 s.type.kind), .d (.str s.type.name), .d (.sl (s.type.elem.map tyD)), .d (.sl (s.lefts.map exD)), .d (.sl (s.exprs.map exD)), .d (.sl (s.body.map stD)), .d (.sl (s.els.map stD)), .d (.sl (s.cases.map caD))]
def caV (c : CaT) : V := .agg [.d (.int .u64 c.int), .d (.sl (c.body.map stD))]
def paV (p : PaT) : V := .agg [.d (.str p.name), .d (.int .i64 p.type.kind), .d (.str p.type.name), .d (.sl (p.type.elem.map tyD))]
def suV (s : SuT) : V := .agg [.d (.str s.name), .d (.sl (s.fields.map paD))]
def fuV (f : FuT) : V := .agg [.d (.str f.name), .d (.sl (f.params.map paD)), .d (.sl (f.results.map tyD)), .d (.sl (f.body.map stD))]
def prV (p : PrT) : V := .agg [.d (.sl (p.structs.map suD)), .d (.sl (p.funcs.map fuD))]
theorem rowsSz_ss (l : List (List UInt8)) : rowsSz 1 (ssD l) = true := rowsSz_map (fun s : List UInt8 => [D.str s]) (fun _ => rfl) l
theorem rowsSz_ty (l : List TyT) : rowsSz 3 (l.map tyD) = true := rowsSz_map _ (fun x => by rw [tyD_eq]; rfl) l
theorem rowsSz_ex (l : List ExT) : rowsSz 8 (l.map exD) = true := rowsSz_map _ (fun x => by rw [exD_eq]; rfl) l
theorem rowsSz_st (l : List StT) : rowsSz 10 (l.map stD) = true := rowsSz_map _ (fun x => by rw [stD_eq]; rfl) l
theorem rowsSz_ca (l : List CaT) : rowsSz 2 (l.map caD) = true := rowsSz_map _ (fun x => by rw [caD_eq]; rfl) l
theorem rowsSz_pa (l : List PaT) : rowsSz 4 (l.map paD) = true := rowsSz_map paD (fun _ => rfl) l
theorem rowsSz_su (l : List SuT) : rowsSz 2 (l.map suD) = true := rowsSz_map suD (fun _ => rfl) l
theorem rowsSz_fu (l : List FuT) : rowsSz 4 (l.map fuD) = true := rowsSz_map fuD (fun _ => rfl) l
theorem ssD_length (l : List (List UInt8)) : (ssD l).length = l.length := by simp [ssD]
theorem ssD_get (l : List (List UInt8)) (i : Nat) : (ssD l)[i]? = (l[i]?).map fun s => [.str s] := by simp [ssD]
theorem ssD_take (l : List (List UInt8)) (n : Nat) : (ssD l).take n = ssD (l.take n) := by simp [ssD, List.map_take]
theorem ssD_drop (l : List (List UInt8)) (n : Nat) : (ssD l).drop n = ssD (l.drop n) := by simp [ssD, List.map_drop]
set_option linter.defProp false in
def awT := And.intro @rowsSz_ss ( And.intro @rowsSz_ty ( And.intro @rowsSz_ex ( And.intro @rowsSz_st ( And.intro @rowsSz_ca ( And.intro @rowsSz_pa ( And.intro @rowsSz_su ( And.intro @rowsSz_fu ( And.intro @ssD_length ( And.intro @ssD_get ( And.intro @ssD_take (@ssD_drop)))))))))))
set_option linter.defProp false
def W := And.intro awC (And.intro awN (And.intro awT tys))
def WO := And.intro awC (And.intro awO (And.intro awT tys))
def agb := And.intro @and_self (And.intro @true_and (And.intro @and_true (And.intro @eq_self.{1} (And.intro @Int.natCast_add (And.intro @Int.natCast_one (And.intro @Int.natCast_zero (And.intro @envS_get (And.intro @envS_eval (And.intro @lk_cons (And.intro @lk_nil (And.intro @cond_true.{1} (@cond_false.{1}))))))))))))
def agw := And.intro @agree_cons (And.intro @agree_nil agb)
def agf := And.intro @agreeF_cons (And.intro @agreeF_nil (And.intro @Bool.and_true (And.intro @Bool.true_and (And.intro @Bool.and_self (And.intro @decide_true (And.intro @List.length_set.{0} (And.intro @fit.eq_1 (And.intro @fit.eq_2 (And.intro @fit.eq_3 (And.intro @fit.eq_4 (And.intro @fit.eq_5 (And.intro @fit.eq_6 (And.intro @fit.eq_7 (And.intro @fit.eq_8 (And.intro @fit.eq_9 (And.intro @fit.eq_10 (And.intro @fit.eq_11 (And.intro @fit.eq_12 (And.intro @fitL.eq_1 (And.intro @fitL.eq_2 (agb)))))))))))))))))))))
def fnw := And.intro @List.getD_cons_zero.{0} (And.intro @List.getD_cons_succ.{0} (And.intro @wk.eq_1 (And.intro @wk.eq_2 (And.intro @wk.eq_3 (And.intro @wk.eq_4 (And.intro @wk.eq_5 (And.intro @wk.eq_6 (And.intro @wk.eq_7 (And.intro @wk.eq_8 (And.intro @wk.eq_9 (And.intro @wk.eq_10 (And.intro @wk.eq_11 (And.intro @wk.eq_12 (agb))))))))))))))
def dnw := And.intro @decide_eq_true_eq (And.intro @decide_eq_false_iff_not (And.intro @Bool.not_eq_true' @Bool.not_eq_false'))
def smw := And.intro @smL.eq_1 (And.intro @smL.eq_2 (And.intro @sm.eq_1 (And.intro @sm.eq_2 (And.intro @sm.eq_3 (And.intro @sm.eq_4 (And.intro @sm_int (And.intro @sm_bool (And.intro @sm_ptr (And.intro @sm_bx (And.intro @sm_nilp (And.intro @sm_nilf (And.intro @sm_func (And.intro @sm_eptr (And.intro @sm_undef (And.intro @sm_tup (And.intro @exV.eq_1 (And.intro @stV.eq_1 (And.intro @tyV.eq_1 (And.intro @caV.eq_1 (And.intro @paV.eq_1 (And.intro @suV.eq_1 (And.intro @fuV.eq_1 (And.intro @prV.eq_1 (And.intro @Bool.and_eq_true (And.intro @decide_eq_true_eq (And.intro @and_true (And.intro @true_and (And.intro @List.length_map.{0, 0} (@ssD_length)))))))))))))))))))))))))))))
theorem wrap_in (n : Int) (h : -9223372036854775808 ≤ n ∧ n ≤ 9223372036854775807) : IntKind.i64.wrap n = n := IntWalk.i64_in _ h
theorem part_ab (c : Nat) (d p : Int) (B : List (List V)) (T : List (Nat × Nat)) (h : B[c]? = some [.d (.int .i64 p)]) (hp : 0 ≤ p ∧ p ≤ 60000) :
 AFn Tryz.prog TabI 78 [.ptr c 0, .d (.int .i64 d)] ⟨B, T⟩ (Same (.d (.bool (partOk d p))) ⟨B.set c [.d (.int .i64 (p + 1))], T⟩) := by
 have hi := (List.getElem?_eq_some_iff.1 h).1
 have hw := wrap_in (p + 1) (by omega)
 unfold partOk
 refine AFn.body Tryz.func78 rfl (by kernel_rfl) ?_
 refine ARun.go 100 ?_
 simp only [Tryz.f78, WO, seval, h, hi, hw]
 refine guardB_of (fun h1 => ?_) (fun h1 => ?_)
 all_goals
  simp only [WO, seval, h1]
  refine ARun.ret Tryz.func78 rfl (Left.set0 rfl ?_)
  exact ⟨rfl, rfl⟩
theorem ident_ab (s : List UInt8) (S : Mem) : AFn Tryz.prog TabI 79 [.d (.str s)] S (Same (.d (.bool (identS s))) S) := by
 refine AFn.of_calls Tryz.func79 rfl (by kernel_rfl) fun c w xs h1 h2 h3 hI => ?_
 have hv := h2 0 (by simp)
 obtain ⟨x, rfl⟩ : ∃ x, xs = #[x] := ⟨xs[0]'(by simp at h1; omega), by apply Array.ext <;> simp_all⟩
 simp at hv
 cases hv with
 | d _ _ hv => cases hv with
  | str _ hl =>
   refine (gIdent s w hI hl).mono ?_
   rintro e w' ⟨rfl, hb⟩
   exact ⟨_, _, rfl, ⟨rfl, rfl⟩, hb, .d _ _ (.bool _)⟩
theorem zero_ab (t : TyT) (B : List (List V)) (T : List (Nat × Nat)) : AFn Tryz.prog TabI 134 [tyV t] ⟨B, T⟩ (Same (.d (.bool (zeroS t))) ⟨B, T⟩) := by
 obtain ⟨n, hn⟩ : ∃ n, B.length = n := ⟨_, rfl⟩
 unfold tyV
 refine AFn.body Tryz.func134 rfl (by kernel_rfl) ?_
 refine ARun.go 100 ?_
 simp only [Tryz.f134, WO, seval, hn]
 repeat' ((first | refine guardB_of (fun h => ?_) (fun h => ?_) | refine condS_of (fun h => ?_) (fun h => ?_)) <;> simp only [WO, seval, h, hn])
 all_goals
  refine ARun.ret Tryz.func134 rfl (Left.box ?_)
  exact ⟨by simp [wk, zeroS, *], rfl⟩
end Go.Proofs.YtfaoamebphckbaaGreatDoor
namespace Go.Ab
open Go.RowKit Go.Av
theorem Left.empty {R : V → Mem → Prop} {v : V} {S' : Mem} (h : R (wk 0 0 v) ⟨[], []⟩) : Left ⟨[], []⟩ R v S' := ⟨[], S'.boxes, [], S'.toks, rfl, rfl, rfl, fun i vs h => by simp at h, h⟩
section
variable {P : Program} {I : Inv} {ops : Array Oper} {W : List Nat} {M : Nat → Mem}
def QA (P : Program) (I : Inv) (ops : Array Oper) (M : Nat → Mem) (o : Oper) (env env' : List V) : Prop := ∀ b, ∃ v, YA P I ops o env (M b) v ∧ env' = setV env o.dst v
def WA (P : Program) (I : Inv) (ops : Array Oper) (M : Nat → Mem) (o : Oper) (env : List V) (a : Nat) (v : V) : Prop := Wants env ops o ∧ op1 P (evalV I env) (M a) o.op = some (v, M (a + 1))
theorem WA.congr {o : Oper} {env : List V} {d : Option Tmp} {x v : V} {a : Nat} (h : ∀ t, d = some t → t ∉ o.looksAt ops) : WA P I ops M o (setV env d x) a v ↔ WA P I ops M o env a v := by
 cases d with
 | none => rfl
 | some t =>
  have h := h t rfl
  unfold WA
  have he : ∀ y ∈ o.op.operands, evalV I (env.set t x) y = evalV I env y := fun y hy => evalV_set (looks_op h y hy)
  have hw : Wants (env.set t x) ops o ↔ Wants env ops o := by
   unfold Wants
   constructor
   ·rintro (h1 | ⟨j, t, h1, h2⟩)
    ·exact .inl h1
    ·exact .inr ⟨j, t, h1, by rw [← guardV_set (looks_guard h h1)]; exact h2⟩
   ·rintro (h1 | ⟨j, t, h1, h2⟩)
    ·exact .inl h1
    ·exact .inr ⟨j, t, h1, by rw [guardV_set (looks_guard h h1)]; exact h2⟩
  show Wants (env.set t x) ops o ∧ op1 P (evalV I (env.set t x)) (M a) o.op = _ ↔ _
  rw [hw, op1_congr o.op he]
theorem setV_len (env : List V) (d : Option Tmp) (v : V) : (setV env d v).length = env.length := by
 cases d with
 | none => rfl
 | some t => simp [setV]
theorem QA.len {o : Oper} {env env' : List V} (h : QA P I ops M o env env') : env'.length = env.length := by
 obtain ⟨v, _, rfl⟩ := h 0
 exact setV_len _ _ _
def Free (ops : Array Oper) (listed : Array Bool) (i : Nat) (oi : Oper) : Prop := ∀ j oj, ops[j]? = some oj → j ≠ i → listed.getD j true = false → (∀ e ∈ oj.after, Region.binds .any e = true → e.on ≠ i) → oi.apart ops oj = true
theorem Free.next {listed : Array Bool} {i j : Nat} {oi : Oper} (h : Free ops listed i oi) (hj : listed.getD j true = false) : Free ops (listed.setIfInBounds j true) i oi := fun k ok hk hki hun hno => by
 refine h k ok hk hki ?_ hno
 by_cases hjk : j = k
 ·subst hjk; exact hj
 ·rw [getD_set_ne true hjk] at hun; exact hun
theorem Free.apart {listed : Array Bool} {i j : Nat} {oi oj : Oper} (h : Free ops listed i oi) (hr : i ∈ Region.ready .any ops listed) (hj : j ∈ Region.ready .any ops listed) (hji : j ≠ i) (hoj : ops[j]? = some oj) :
 (∀ d, oi.dst = some d → d ∉ oj.looksAt ops) ∧ (∀ d, oi.dst = some d → oj.dst ≠ some d) ∧ (∀ d, oj.dst = some d → d ∉ oi.looksAt ops) := by
 obtain ⟨hjun, oj', hoj', hall⟩ := mem_ready.1 hj
 rw [hoj] at hoj'
 obtain rfl := Option.some.inj hoj'
 refine Oper.apart_spec (h j oj hoj hji hjun fun e he hb heq => ?_)
 have h1 := hall e he hb
 have h0 := (mem_ready.1 hr).1
 rw [heq] at h1
 rcases Nat.lt_or_ge i listed.size with h' | h'
 ·simp [h'] at h0 h1; rw [h0] at h1; cases h1
 ·simp [Array.getElem?_eq_none h'] at h1
variable {K : List V → Mem → Prop}
def Waits (ops : Array Oper) (W : List Nat) (listed : Array Bool) (i : Nat) : Prop := ∀ j oj, ops[j]? = some oj → W.contains j = true → j ≠ i → listed.getD j true = false → ∃ e ∈ oj.after, Region.binds .any e = true ∧ W.contains e.on = true ∧ listed.getD e.on true = false
def waitsB (ops : Array Oper) (W : List Nat) : Bool := (W.all fun k => Nat.ble (k + 1) ops.size) && W.all fun k => W.all fun j => Nat.ble j k || (match ops[j]? with
 | some o => o.after.any fun e => Region.binds .any e && Nat.ble k e.on && W.contains e.on
 | none => true)
end
section
variable {P : Program} {I : Inv} {ops : Array Oper} {W : List Nat} {MM : Mem → Prop}
def OpR (P : Program) (I : Inv) (o : Oper) (env : List V) (S : Mem) (Q : V → Mem → Prop) : Prop :=
 ∀ (c : Cx) (w : World) (ev : Operand → Value), Rep c w S → c.I = I → (∀ y ∈ o.op.operands, VR c w (evalV I env y) (ev y)) → ∃ x w' c' v S', (execOp ev o).run P w = .ok (.value x) w' ∧ Q v S' ∧ Rep c' w' S' ∧ Ext c w c' w' ∧ VR c' w' v x
theorem OpR.congr {o : Oper} {env env' : List V} {S : Mem} {Q : V → Mem → Prop} (he : ∀ y ∈ o.op.operands, evalV I env' y = evalV I env y) : OpR P I o env' S Q ↔ OpR P I o env S Q := by
 constructor
 ·exact fun h c w ev h1 h2 h3 => h c w ev h1 h2 fun y hy => by rw [he y hy]; exact h3 y hy
 ·exact fun h c w ev h1 h2 h3 => h c w ev h1 h2 fun y hy => by rw [← he y hy]; exact h3 y hy
theorem OpR.step {z : Nat × Nat} {fn : FuncId} {k : List Item} {R : V → Mem → Prop} {i : Nat} {rest : List Nat} {o : Oper} {env : List V} {S : Mem} {Q : V → Mem → Prop} (ho : ops[i]? = some o) (hw : Wants env ops o) (h : OpR P I o env S Q) (hk : ∀ v S', Q v S' → ARun P I z fn (.inRegion ops rest :: k) (setV env o.dst v) S' R) : ARun P I z fn (.inRegion ops (i :: rest) :: k) env S R := by
 intro b a c w c0 w0 h1 h2 h3 h4 h5 h6 hI
 obtain ⟨x, w', c', v, S', hrun, hQ, hrep, hext, hv⟩ := h c w a.eval h5 hI.1 fun y _ => by
  have := EnvR.eval h5 h4 y
  rwa [hI.1] at this
 have hg := fun cs => stepG_op (P := P) (b := b) (k := k) (cs := cs) (w := w) (rest := rest) ho (wants_ok h4 hw)
 have hs : ∀ cs, Go.step P (lone (b.at a (.inRegion ops (i :: rest) :: k)) cs w) = .next (lone (b.at (a.put o.dst x) (.inRegion ops rest :: k)) cs w') := by
  intro cs
  refine step_lone_go ?_
  have hfin : (b.at a (.inRegion ops (i :: rest) :: k)).finish x = b.at (a.put o.dst x) (.inRegion ops rest :: k) := by rw [Frame.finish_at, ho]; rfl
  rw [hg cs, ← hfin]
  simp [stepG.apply, hrun]
 refine Goes.step hs (hk v S' hQ b (a.put o.dst x) c' w' c0 w0 h1 h2 ?_ ?_ hrep (h6.trans hext) ⟨hext.I.trans hI.1, hI.2⟩)
 ·cases o.dst <;> simpa [Act.put] using h3
 ·exact (h4.ext hext).put o.dst hv
def WO (P : Program) (I : Inv) (o : Oper) (env : List V) (S : Mem) (Q : V → Mem → Prop) : Prop :=
 (∃ v S', op1 P (evalV I env) S o.op = some (v, S') ∧ Q v S') ∨ (∃ q f g first caps, o.op = .call q ∧ q.callee = .value f ∧ evalV I env f = .func g first caps ∧ AFn P I g (first ++ q.args.toList.map (evalV I env) ++ caps) S Q) ∨ OpR P I o env S Q
theorem WO.congr {o : Oper} {env : List V} {d : Option Tmp} {x : V} {S : Mem} {Q : V → Mem → Prop} (h : ∀ t, d = some t → t ∉ o.looksAt ops) : WO P I o (setV env d x) S Q ↔ WO P I o env S Q := by
 cases d with
 | none => rfl
 | some t =>
  have h := h t rfl
  have he : ∀ y ∈ o.op.operands, evalV I (env.set t x) y = evalV I env y := fun y hy => evalV_set (looks_op h y hy)
  unfold WO
  show (∃ v S', op1 P (evalV I (env.set t x)) S o.op = some (v, S') ∧ Q v S') ∨ _ ↔ _
  rw [op1_congr o.op he]
  refine or_congr Iff.rfl (or_congr ?_ (OpR.congr he))
  refine exists_congr fun q => exists_congr fun f => exists_congr fun g => exists_congr fun first => exists_congr fun caps => ?_
  constructor
  ·rintro ⟨h1, h2, h3, h4⟩
   have hop : ∀ y ∈ q.operands, evalV I (env.set t x) y = evalV I env y := fun y hy => he y (by rw [h1]; exact hy)
   have h5 : q.args.toList.map (evalV I (env.set t x)) = q.args.toList.map (evalV I env) := List.map_congr_left fun y hy => hop y (by unfold Call.operands; simp only [Array.mem_append]; exact .inr (by simpa using hy))
   have h6 : evalV I (env.set t x) f = evalV I env f := hop f (by unfold Call.operands; rw [h2]; simp)
   exact ⟨h1, h2, by rw [← h6]; exact h3, by rw [← h5]; exact h4⟩
  ·rintro ⟨h1, h2, h3, h4⟩
   have hop : ∀ y ∈ q.operands, evalV I (env.set t x) y = evalV I env y := fun y hy => he y (by rw [h1]; exact hy)
   have h5 : q.args.toList.map (evalV I (env.set t x)) = q.args.toList.map (evalV I env) := List.map_congr_left fun y hy => hop y (by unfold Call.operands; simp only [Array.mem_append]; exact .inr (by simpa using hy))
   have h6 : evalV I (env.set t x) f = evalV I env f := hop f (by unfold Call.operands; rw [h2]; simp)
   exact ⟨h1, h2, by show evalV I (env.set t x) f = _; rw [h6]; exact h3, by show AFn P I g (first ++ q.args.toList.map (evalV I (env.set t x)) ++ caps) S Q; rw [h5]; exact h4⟩
def WC (P : Program) (I : Inv) (o : Oper) (env : List V) (S : Mem) (K : V → Mem → Prop) : Prop := o.guard = none ∧ ∃ Q, (∃ v S', Q v S') ∧ WO P I o env S Q ∧ ∀ v S', Q v S' → K v S'
def QC (P : Program) (I : Inv) (MM : Mem → Prop) (o : Oper) (env : List V) (v : V) : Prop := o.guard = none ∧ ∀ S, MM S → op1 P (evalV I env) S o.op = some (v, S)
theorem QC.congr {o : Oper} {env : List V} {d : Option Tmp} {x v : V} (h : ∀ t, d = some t → t ∉ o.looksAt ops) : QC P I MM o (setV env d x) v ↔ QC P I MM o env v := by
 cases d with
 | none => rfl
 | some t =>
  have h := h t rfl
  have he : ∀ y ∈ o.op.operands, evalV I (env.set t x) y = evalV I env y := fun y hy => evalV_set (looks_op h y hy)
  unfold QC
  refine and_congr Iff.rfl (forall_congr' fun S => ?_)
  show (MM S → op1 P (evalV I (env.set t x)) S o.op = _) ↔ _
  rw [op1_congr o.op he]
theorem QC.one {o : Oper} {env : List V} {v u : V} {S : Mem} (hS : MM S) (h : QC P I MM o env v) (h' : QC P I MM o env u) : v = u := by
 have h1 := h.2 S hS
 rw [h'.2 S hS] at h1
 cases h1
 rfl
def anyC (P : Program) (I : Inv) (ops : Array Oper) (W : List Nat) (MM : Mem → Prop) (K : List V → Mem → Prop) : Nat → Array Bool → List V → Mem → Prop
 | 0, listed, env, S => MM S ∧ Region.ready .any ops listed = [] ∧ K env S
 | n + 1, listed, env, S => MM S ∧ (Region.ready .any ops listed = [] → K env S) ∧ ∀ i ∈ Region.ready .any ops listed, ∃ o, ops[i]? = some o ∧
  ((W.contains i = true ∧ WC P I o env S fun v S' => anyC P I ops W MM K n (listed.setIfInBounds i true) (setV env o.dst v) S') ∨
   (W.contains i = false ∧ ∃ v, QC P I MM o env v ∧ anyC P I ops W MM K n (listed.setIfInBounds i true) (setV env o.dst v) S))
variable {K : List V → Mem → Prop}
theorem anyC.in : ∀ {n : Nat} {listed : Array Bool} {env : List V} {S : Mem}, anyC P I ops W MM K n listed env S → MM S
 | 0, _, _, _, h => h.1
 | _ + 1, _, _, _, h => h.1
theorem anyC_quiet {i : Nat} {oi : Oper} (hi : ops[i]? = some oi) (hq : W.contains i = false) {v : V} : ∀ (n : Nat) (listed : Array Bool) (env : List V) (S : Mem), Free ops listed i oi → i ∈ Region.ready .any ops listed → QC P I MM oi env v → anyC P I ops W MM K n (listed.setIfInBounds i true) (setV env oi.dst v) S → anyC P I ops W MM K (n + 1) listed env S := by
 intro n
 induction n with
 | zero =>
  intro listed env S _ hr hy H
  refine ⟨H.in, fun h => (by rw [h] at hr; cases hr), fun j hj => ?_⟩
  by_cases hji : j = i
  ·subst hji; exact ⟨oi, hi, .inr ⟨hq, v, hy, H⟩⟩
  ·have := ready_mono hj hji
   rw [H.2.1] at this
   cases this
 | succ n ih =>
  intro listed env S hfree hr hy H
  refine ⟨H.in, fun h => (by rw [h] at hr; cases hr), fun j hj => ?_⟩
  by_cases hji : j = i
  ·subst hji; exact ⟨oi, hi, .inr ⟨hq, v, hy, H⟩⟩
  obtain ⟨oj, hoj, hH⟩ := H.2.2 j (ready_mono hj hji)
  have hjun := (mem_ready.1 hj).1
  obtain ⟨a1, a2, a3⟩ := hfree.apart hr hj hji hoj
  have hready := ready_mono hr (Ne.symm hji)
  rcases hH with ⟨hwj, hg, Q, hne, hwo, hk⟩ | ⟨hwj, u, hqj, h1⟩
  ·refine ⟨oj, hoj, .inl ⟨hwj, hg, Q, hne, (WO.congr a1).1 hwo, fun u S' hQ => ?_⟩⟩
   refine ih (listed.setIfInBounds j true) (setV env oj.dst u) S' (hfree.next hjun) hready ((QC.congr a3).2 hy) ?_
   rw [Array.setIfInBounds_comm _ _ hji, ← setV_comm env v u a2]
   exact hk u S' hQ
  ·refine ⟨oj, hoj, .inr ⟨hwj, u, (QC.congr a1).1 hqj, ih (listed.setIfInBounds j true) (setV env oj.dst u) S (hfree.next hjun) hready ((QC.congr a3).2 hy) ?_⟩⟩
   rw [Array.setIfInBounds_comm _ _ hji, ← setV_comm env v u a2]
   exact h1
theorem anyC_write {i : Nat} {oi : Oper} (hi : ops[i]? = some oi) (hq : W.contains i = true) : ∀ (n : Nat) (listed : Array Bool) (env : List V) (S : Mem), MM S → Free ops listed i oi → Waits ops W listed i → i ∈ Region.ready .any ops listed → WC P I oi env S (fun v S' => anyC P I ops W MM K n (listed.setIfInBounds i true) (setV env oi.dst v) S') → anyC P I ops W MM K (n + 1) listed env S := by
 intro n
 induction n with
 | zero =>
  intro listed env S hS _ _ hr hy
  refine ⟨hS, fun h => (by rw [h] at hr; cases hr), fun j hj => ?_⟩
  by_cases hji : j = i
  ·subst hji; exact ⟨oi, hi, .inl ⟨hq, hy⟩⟩
  ·have := ready_mono hj hji
   obtain ⟨hg, Q, ⟨v0, S0, h0⟩, _, hk⟩ := hy
   rw [(hk v0 S0 h0).2.1] at this
   cases this
 | succ n ih =>
  intro listed env S hS hfree hwait hr hy
  refine ⟨hS, fun h => (by rw [h] at hr; cases hr), fun j hj => ?_⟩
  by_cases hji : j = i
  ·subst hji; exact ⟨oi, hi, .inl ⟨hq, hy⟩⟩
  obtain ⟨hg, Q, ⟨v0, S0, h0⟩, hwo, hk⟩ := hy
  obtain ⟨oj, hoj, hH⟩ := (hk v0 S0 h0).2.2 j (ready_mono hj hji)
  obtain ⟨hjun, oj', hoj', hall⟩ := mem_ready.1 hj
  rw [hoj] at hoj'
  obtain rfl := Option.some.inj hoj'
  obtain ⟨a1, a2, a3⟩ := hfree.apart hr hj hji hoj
  have hready := ready_mono hr (Ne.symm hji)
  rcases hH with ⟨hwj, _⟩ | ⟨hwj, u, hqj, _⟩
  ·obtain ⟨e, he, hb, _, hun⟩ := hwait j oj hoj hwj hji hjun
   have h1 := hall e he hb
   rcases Nat.lt_or_ge e.on listed.size with h' | h'
   ·simp [h'] at hun h1; rw [hun] at h1; cases h1
   ·simp [Array.getElem?_eq_none h'] at h1
  ·have hqj' := (QC.congr a1).1 hqj
   refine ⟨oj, hoj, .inr ⟨hwj, u, hqj', ih (listed.setIfInBounds j true) (setV env oj.dst u) S hS (hfree.next hjun) (fun k ok hk hwk hki hun => ?_) hready ⟨hg, Q, ⟨v0, S0, h0⟩, (WO.congr a3).2 hwo, fun v S' hQ => ?_⟩⟩⟩
   ·by_cases hjk : j = k
    ·subst hjk
     rw [hwj] at hwk; cases hwk
    ·rw [getD_set_ne true hjk] at hun
     obtain ⟨e, he, hb, hwe, hue⟩ := hwait k ok hk hwk hki hun
     refine ⟨e, he, hb, hwe, ?_⟩
     have hne : j ≠ e.on := fun h => by rw [← h, hwj] at hwe; cases hwe
     rw [getD_set_ne true hne]
     exact hue
   ·obtain ⟨oj', hoj', hH'⟩ := (hk v S' hQ).2.2 j (ready_mono hj hji)
    rw [hoj] at hoj'
    obtain rfl := Option.some.inj hoj'
    rcases hH' with ⟨hwj', _⟩ | ⟨_, u', hqj', h1⟩
    ·rw [hwj] at hwj'; cases hwj'
    ·have e := QC.one hS hqj' ((QC.congr a1).2 ((QC.congr a1).1 hqj))
     have e2 : QC P I MM oj env u' := (QC.congr a1).1 hqj'
     have e3 := QC.one hS e2 ((QC.congr a1).1 hqj)
     subst e3
     rw [Array.setIfInBounds_comm _ _ hji, ← setV_comm env v u' a2]
     exact h1
def lexC (P : Program) (I : Inv) (W : List Nat) (MM : Mem → Prop) (K : List V → Mem → Prop) : List Oper → Nat → List V → Mem → Prop
 | [], _, env, S => MM S ∧ K env S
 | o :: l, k, env, S => (W.contains k = true → MM S ∧ WC P I o env S fun v S' => lexC P I W MM K l (k + 1) (setV env o.dst v) S') ∧
  (W.contains k = false → ∃ v, QC P I MM o env v ∧ lexC P I W MM K l (k + 1) (setV env o.dst v) S)
theorem anyC_lex (hW0 : (W.all fun k => Nat.ble (k + 1) ops.size) = true) (hWB : (W.all fun k => W.all fun j => Nat.ble j k || (match ops[j]? with
 | some o => o.after.any fun e => Region.binds .any e && Nat.ble k e.on && W.contains e.on
 | none => true)) = true) : ∀ (l : List Oper) (k : Nat) (listed : Array Bool) (env : List V) (S : Mem), (∀ j, l[j]? = ops[k + j]?) → (∀ j, j < ops.size → listed.getD j true = decide (j < k)) →
  Region.lexFrom .any ops l.length k listed = true → lexC P I W MM K l k env S → anyC P I ops W MM K l.length listed env S
 | [], _, _, _, _, _, _, hB, h => ⟨h.1, by simpa [Region.lexFrom] using hB, h.2⟩
 | o :: l, k, listed, env, S, hl, hls, hB, h => by
  have h0 : ops[k]? = some o := by simpa using (hl 0).symm
  have hk := (Array.getElem?_eq_some_iff.1 h0).1
  simp only [List.length_cons, Region.lexFrom, Bool.and_eq_true] at hB
  obtain ⟨⟨hr, hf⟩, hB'⟩ := hB
  have hnext : ∀ j, j < ops.size → (listed.setIfInBounds k true).getD j true = decide (j < k + 1) := by
   intro j hj
   by_cases hjk : k = j
   ·subst hjk
    have : decide (k < k + 1) = true := decide_eq_true (by omega)
    rw [this]
    by_cases hs : k < listed.size <;> simp [hs]
   ·rw [getD_set_ne true hjk, hls j hj]
    exact decide_eq_decide.2 (by omega)
  have hfree : Free ops listed k o := Region.free_spec h0 hf
  cases hw : W.contains k with
  | true =>
   obtain ⟨hS, hg, Q, hne, hwo, hK⟩ := h.1 hw
   refine anyC_write h0 hw l.length listed env S hS hfree (fun j oj hoj hwj hjk hun => ?_) (by simpa using hr) ⟨hg, Q, hne, hwo, fun v S' hQ => anyC_lex hW0 hWB l (k + 1) _ _ _ (fun j => by have := hl (j + 1); simpa [Nat.add_assoc, Nat.add_comm 1 j] using this) hnext hB' (hK v S' hQ)⟩
   have hjs := (Array.getElem?_eq_some_iff.1 hoj).1
   rw [hls j hjs] at hun
   have hkj : k < j := by have := of_decide_eq_false hun; omega
   have h1 := List.all_eq_true.1 (List.all_eq_true.1 hWB k (List.contains_iff_mem.1 hw)) j (List.contains_iff_mem.1 hwj)
   have h2 : Nat.ble j k = false := by
    cases hb : Nat.ble j k with
    | false => rfl
    | true => have := Nat.le_of_ble_eq_true hb; omega
   rw [h2, Bool.false_or, hoj] at h1
   simp only [Array.any_eq_true] at h1
   obtain ⟨e, hes, h3⟩ := h1
   simp only [Bool.and_eq_true, Nat.ble_eq] at h3
   refine ⟨oj.after[e], Array.getElem_mem hes, h3.1.1, h3.2, ?_⟩
   have hlt : oj.after[e].on < ops.size := Nat.le_of_ble_eq_true (List.all_eq_true.1 hW0 _ (List.contains_iff_mem.1 h3.2))
   rw [hls _ hlt]
   exact decide_eq_false (by have := h3.1.2; omega)
  | false =>
   obtain ⟨v, hv, hK⟩ := h.2 hw
   exact anyC_quiet h0 hw l.length listed env S hfree (by simpa using hr) hv (anyC_lex hW0 hWB l (k + 1) _ _ _ (fun j => by have := hl (j + 1); simpa [Nat.add_assoc, Nat.add_comm 1 j] using this) hnext hB' hK)
theorem WO.step {z : Nat × Nat} {fn : FuncId} {k : List Item} {R : V → Mem → Prop} {i : Nat} {rest : List Nat} {o : Oper} {env : List V} {S : Mem} {Q : V → Mem → Prop} (ho : ops[i]? = some o) (hg : o.guard = none) (hw : WO P I o env S Q) (h : ∀ v S', Q v S' → ARun P I z fn (.inRegion ops rest :: k) (setV env o.dst v) S' R) : ARun P I z fn (.inRegion ops (i :: rest) :: k) env S R := by
 rcases hw with ⟨v, S', h1, h2⟩ | ⟨q, f, g, first, caps, h1, h2, h3, h4⟩ | hr
 ·exact .op ho (.inl hg) h1 (h v S' h2)
 ·exact .call ho (.inl hg) h1 h2 h3 (h4.mono fun v S' hQ => h v S' hQ)
 ·exact hr.step ho (.inl hg) h
theorem anyC_run {z : Nat × Nat} {fn : FuncId} {k : List Item} {R : V → Mem → Prop} : ∀ (n t : Nat) (listed : Array Bool) (env : List V) (S : Mem), anyC P I ops W MM (fun env S => ARun P I z fn k env S R) n listed env S → ARun P I z fn (.inRegion ops (Region.linearise.go .any ops n t listed []) :: k) env S R
 | 0, t, listed, env, S, h => by
  simp only [Region.linearise.go, List.reverse_nil]
  exact .regionEnd h.2.2
 | n + 1, t, listed, env, S, h => by
  obtain ⟨hS, h₀, h₁⟩ := h
  simp only [Region.linearise.go]
  change ARun P I z fn (.inRegion ops (match (Region.ready .any ops listed)[t % (Region.ready .any ops listed).length]? with
   | some i => Region.linearise.go .any ops n (t / (Region.ready .any ops listed).length) (listed.setIfInBounds i true) [i]
   | none => [].reverse) :: k) env S R
  cases hi : (Region.ready .any ops listed)[t % (Region.ready .any ops listed).length]? with
  | none =>
   have hnil : Region.ready .any ops listed = [] := by
    cases hr : Region.ready .any ops listed with
    | nil => rfl
    | cons x xs =>
     rw [hr] at hi
     have hlt : t % (x :: xs).length < (x :: xs).length := Nat.mod_lt _ (by simp)
     simp at hi
     simp at hlt
     omega
   exact .regionEnd (h₀ hnil)
  | some i =>
   simp only []
   rw [linearise_go_acc, List.reverse_singleton, List.singleton_append]
   obtain ⟨o, ho, ⟨_, hg, Q, _, hwo, hn⟩ | ⟨_, v, hy, hn⟩⟩ := h₁ i (List.mem_of_getElem? hi)
   ·exact hwo.step ho hg fun v S' hQ => anyC_run n _ _ _ _ (hn v S' hQ)
   ·exact .op ho (.inl hy.1) (hy.2 S hS) (anyC_run n _ _ _ _ hn)
theorem ARun.drawC {z : Nat × Nat} {fn : FuncId} {k : List Item} {R : V → Mem → Prop} {id : Nat} {env : List V} {S : Mem} (W : List Nat) (MM : Mem → Prop) (hm : P.follows .mixedOrders = true) (hB : Region.lexB .any ops = true) (hW : waitsB ops W = true) (h : lexC P I W MM (fun env S => ARun P I z fn k env S R) ops.toList 0 env S) : ARun P I z fn (.code (.region id ops true) :: k) env S R := by
 intro b a c w c0 w0 h1 h2 h3 h4 h5 h6 hI cs
 have hd : Below w.heap.size w { w with drawn := w.drawn + 1 } := ⟨rfl, rfl, rfl, Nat.le_refl _, fun _ _ => rfl⟩
 obtain ⟨r1, r2⟩ := h5.under hd
 simp only [Region.lexB, Bool.and_eq_true] at hB
 simp only [waitsB, Bool.and_eq_true] at hW
 have hany := anyC_lex (P := P) (I := I) (MM := MM) (K := fun env S => ARun P I z fn k env S R) hW.1 hW.2 ops.toList 0 (Array.replicate ops.size false) env S (by simp) (fun j hj => by simp [hj]) (by simpa using hB.2) h
 have hrun := anyC_run (fn := fn) (k := k) (R := R) ops.toList.length (w.tape w.drawn (.order b.fn id)) _ _ _ hany
 obtain ⟨e, w', fr, g1, g2, g3⟩ := hrun b a c _ c0 w0 h1 h2 h3 (h4.ext r2) r1 (h6.trans r2) ⟨r2.I.trans hI.1, hI.2⟩ cs
 refine ⟨e, w', fr, g1, .of_steps (.one ?_) g2, g3⟩
 have := step_region_draw (P := P) (b := b) (a := a) (k := k) (cs := cs) (w := w) (ops := ops) (id := id)
 rw [this]
 simp only [Region.schedule, hm, Bool.true_or, if_true, Region.linearise, Array.length_toList]
theorem lexC_q {o : Oper} {l : List Oper} {k : Nat} {env : List V} {S : Mem} {v : V} (hk : W.contains k = false) (hg : o.guard = none) (h1 : ∀ S, MM S → op1 P (evalV I env) S o.op = some (v, S)) (h2 : lexC P I W MM K l (k + 1) (setV env o.dst v) S) : lexC P I W MM K (o :: l) k env S :=
 ⟨fun h => absurd (hk.symm.trans h) (by decide), fun _ => ⟨v, ⟨hg, h1⟩, h2⟩⟩
theorem lexC_w {o : Oper} {l : List Oper} {k : Nat} {env : List V} {S S' : Mem} {v : V} (hS : MM S) (hk : W.contains k = true) (hg : o.guard = none) (h1 : op1 P (evalV I env) S o.op = some (v, S')) (h2 : lexC P I W MM K l (k + 1) (setV env o.dst v) S') : lexC P I W MM K (o :: l) k env S :=
 ⟨fun _ => ⟨hS, hg, fun u T => u = v ∧ T = S', ⟨v, S', rfl, rfl⟩, .inl ⟨v, S', h1, rfl, rfl⟩, fun u T ⟨e1, e2⟩ => by subst e1 e2; exact h2⟩, fun h => absurd (hk.symm.trans h) (by decide)⟩
theorem lexC_c {o : Oper} {l : List Oper} {k : Nat} {env : List V} {S : Mem} {q : Call} {f : Operand} {g : FuncId} {first caps : List V} {Q : V → Mem → Prop} (hS : MM S) (hk : W.contains k = true) (hg : o.guard = none) (h1 : o.op = .call q) (h2 : q.callee = .value f) (h3 : evalV I env f = .func g first caps) (hne : ∃ v S', Q v S')
 (h4 : AFn P I g (first ++ q.args.toList.map (evalV I env) ++ caps) S Q) (h5 : ∀ v S', Q v S' → lexC P I W MM K l (k + 1) (setV env o.dst v) S') : lexC P I W MM K (o :: l) k env S :=
 ⟨fun _ => ⟨hS, hg, Q, hne, .inr (.inl ⟨q, f, g, first, caps, h1, h2, h3, h4⟩), h5⟩, fun h => absurd (hk.symm.trans h) (by decide)⟩
theorem lexC_end {k : Nat} {env : List V} {S : Mem} (hS : MM S) (h : K env S) : lexC P I W MM K [] k env S := ⟨hS, h⟩
end
section
variable {P : Program} {I : Inv} {ops : Array Oper} {W : List Nat} {MM : Mem → Prop} {p : Nat}
def anyE (P : Program) (I : Inv) (ops : Array Oper) (W : List Nat) (p : Nat) (MM : Mem → Prop) (K : Array Bool → List V → Mem → Prop) : Nat → Array Bool → List V → Mem → Prop
 | 0, listed, env, S => MM S ∧ (∀ i ∈ Region.ready .any ops listed, p ≤ i) ∧ K listed env S
 | n + 1, listed, env, S => MM S ∧ Region.ready .any ops listed ≠ [] ∧ ∀ i ∈ Region.ready .any ops listed, i < p ∧ ∃ o, ops[i]? = some o ∧
  ((W.contains i = true ∧ WC P I o env S fun v S' => anyE P I ops W p MM K n (listed.setIfInBounds i true) (setV env o.dst v) S') ∨
   (W.contains i = false ∧ ∃ v, QC P I MM o env v ∧ anyE P I ops W p MM K n (listed.setIfInBounds i true) (setV env o.dst v) S))
variable {K : Array Bool → List V → Mem → Prop}
theorem anyE.in : ∀ {n : Nat} {listed : Array Bool} {env : List V} {S : Mem}, anyE P I ops W p MM K n listed env S → MM S
 | 0, _, _, _, h => h.1
 | _ + 1, _, _, _, h => h.1
end
def CellsL (c : Cx) (w : World) (vs : List V) (l : List Value) : Prop := l.length = vs.length ∧ ∀ (j : Nat) (v : V), vs[j]? = some v → ∃ x, l[j]? = some x ∧ VR c w v x ∧ x.oneCell' = true
section
variable {P : Program} {c : Cx} {w : World} {S : Mem}
theorem CellsL.nil : CellsL c w [] [] := ⟨rfl, fun j v h => by simp at h⟩
theorem CellsL.append {a b : List V} {A B : List Value} (h : CellsL c w a A) (k : CellsL c w b B) : CellsL c w (a ++ b) (A ++ B) := by
 refine ⟨by simp [h.1, k.1], fun j v hv => ?_⟩
 rcases Nat.lt_or_ge j a.length with h' | h'
 ·rw [List.getElem?_append_left h'] at hv
  rw [List.getElem?_append_left (by rw [h.1]; exact h')]
  exact h.2 j v hv
 ·rw [List.getElem?_append_right h'] at hv
  rw [List.getElem?_append_right (by rw [h.1]; exact h'), h.1]
  exact k.2 _ v hv
theorem CellsL.take {a : List V} {A : List Value} (h : CellsL c w a A) (n : Nat) : CellsL c w (a.take n) (A.take n) := by
 refine ⟨by simp [h.1], fun j v hv => ?_⟩
 rw [List.getElem?_take] at hv ⊢
 split at hv
 ·rename_i hlt
  rw [if_pos hlt]
  exact h.2 j v hv
 ·cases hv
theorem CellsL.drop {a : List V} {A : List Value} (h : CellsL c w a A) (n : Nat) : CellsL c w (a.drop n) (A.drop n) := by
 refine ⟨by simp [h.1], fun j v hv => ?_⟩
 rw [List.getElem?_drop] at hv ⊢
 exact h.2 _ v hv
theorem CellsL.keep {c' : Cx} {w' : World} (hk : Keeps c w c' w') {a : List V} {A : List Value} (h : CellsL c w a A) : CellsL c' w' a A := ⟨h.1, fun j v hv => by
 obtain ⟨x, h1, h2, h3⟩ := h.2 j v hv
 exact ⟨x, h1, h2.keep hk, h3⟩⟩
theorem CellsL.at {a : List V} {A : List Value} (h : CellsL c w a A) (j : Nat) (hj : j < a.length) : VR c w a[j] (A.toArray.getD j undef) ∧ (A.toArray.getD j undef).oneCell' = true := by
 obtain ⟨x, h1, h2⟩ := h.2 j a[j] (List.getElem?_eq_getElem hj)
 obtain ⟨hl, rfl⟩ := List.getElem?_eq_some_iff.1 h1
 rw [getD_list_arr hl]
 exact h2
def BxIs (n sz : Nat) (G : List (List V)) (rows : List (List D)) (v : V) : Prop :=
 (G = [] ∧ rows = [] ∧ v = .sl [] .full) ∨ ∃ G0 cap, G = G0 ++ [rows.flatten.map .d ++ List.replicate ((cap - rows.length) * sz) .undef] ∧ v = .bx (n + G0.length) rows.length cap ∧ rowsSz sz rows = true ∧ (∀ vs ∈ G0, vs.all (fit 0 0) = true) ∧ rows.length ≤ cap
theorem fit_flat (rows : List (List D)) (k : Nat) : (rows.flatten.map V.d ++ List.replicate k V.undef).all (fit 0 0) = true := by
 rw [List.all_eq_true]
 intro v hv
 rcases List.mem_append.1 hv with h | h
 ·obtain ⟨d, _, rfl⟩ := List.mem_map.1 h
  rfl
 ·obtain rfl := List.eq_of_mem_replicate h
  rfl
theorem BxIs.fits {n sz : Nat} {G : List (List V)} {rows : List (List D)} {v : V} (h : BxIs n sz G rows v) : ∀ vs ∈ G, vs.all (fit 0 0) = true := by
 rcases h with ⟨rfl, _, _⟩ | ⟨G0, cap, rfl, _, _, h, _⟩
 ·intro vs h; cases h
 ·intro vs hv
  rcases List.mem_append.1 hv with h' | h'
  ·exact h vs h'
  ·obtain rfl := List.mem_singleton.1 h'
   exact fit_flat _ _
theorem flat_len {sz : Nat} : ∀ {rows : List (List D)}, (∀ r ∈ rows, r.length = sz) → rows.flatten.length = rows.length * sz
 | [], _ => by simp
 | r :: rows, h => by
  rw [List.flatten_cons, List.length_append, h r (by simp), flat_len fun q hq => h q (List.mem_cons_of_mem _ hq), List.length_cons, Nat.add_mul]
  omega
theorem flat_get {sz : Nat} : ∀ {rows : List (List D)}, (∀ r ∈ rows, r.length = sz) → ∀ (j q : Nat) (r : List D) (d : D), rows[j]? = some r → r[q]? = some d → rows.flatten[j * sz + q]? = some d
 | [], _, j, q, r, d, h, _ => by simp at h
 | r0 :: rows, hs, j, q, r, d, h, hq => by
  have h0 := hs r0 (by simp)
  cases j with
  | zero =>
   obtain rfl : r0 = r := by simpa using h
   have := (List.getElem?_eq_some_iff.1 hq).1
   rw [List.flatten_cons, Nat.zero_mul, Nat.zero_add, List.getElem?_append_left this]
   exact hq
  | succ j =>
   have := flat_get (fun x hx => hs x (List.mem_cons_of_mem _ hx)) j q r d (by simpa using h) hq
   rw [List.flatten_cons, List.getElem?_append_right (by rw [h0, Nat.add_mul]; omega), h0, ← this]
   congr 1
   rw [Nat.add_mul]
   omega
theorem flat_mlen {sz : Nat} {rows : List (List D)} (h : ∀ r ∈ rows, r.length = sz) : (rows.flatten.map V.d).length = rows.length * sz := by rw [List.length_map]; exact flat_len h
theorem one_row {x : V} {X : Value} {r : List D} {sz : Nat} (hx : VR c w x X) (hd : toD x = some (.sl [r])) (hr : r.length = sz) : ∃ (a : Option Addr) (cap : Nat) (F : Nat → Value), X = .slice a 1 cap ∧ CellsL c w (r.map .d) ((List.range (1 * sz)).map F) ∧
 ∀ W : World, W.heap = w.heap → (Builtin.firstCells sz 1 X).run P W = .ok ((List.range (1 * sz)).map F).toArray W := by
 have hD := VR_toD hx hd
 have hsl : ∃ a n cap, X = .slice a n cap := by cases hD; exact ⟨_, _, _, rfl⟩
 obtain ⟨a, n, cap, rfl⟩ := hsl
 obtain ⟨hn, _, _, F, hF, hFd⟩ := hD.flat sz (fun q hq => by rw [List.mem_singleton.1 hq]; exact hr)
 have hn : n = 1 := hn
 subst hn
 refine ⟨a, cap, F, rfl, ⟨by simp [hr], fun j v hv => ?_⟩, fun W hW => run_first (rows := [r]) rfl hF W hW⟩
 rw [List.getElem?_map] at hv
 obtain ⟨d, hd, rfl⟩ := Option.map_eq_some_iff.1 hv
 obtain ⟨hj, rfl⟩ := List.getElem?_eq_some_iff.1 hd
 have := hFd 0 (by simp) j (by simpa using hj)
 simp only [List.getElem_cons_zero, Nat.zero_mul, Nat.zero_add] at this
 exact ⟨F j, by simp [← hr, hj], .d _ _ this, this.one⟩
theorem zeros_ok {z : Value} (h1 : ∀ u ∈ z.cells.toList, u.oneCell' = true) (sz : Nat) (h2 : z.cells.size = sz) (n : Nat) : CellsL c w (List.replicate (n * sz) .undef) (Builtin.zeroCells z.cells n).toList := by
 have hsz : (Builtin.zeroCells z.cells n).toList.length = n * sz := by simp [size_zeroCells, h2]
 refine ⟨by rw [hsz]; simp, fun j v hv => ?_⟩
 rw [List.getElem?_replicate] at hv
 split at hv
 case isFalse => cases hv
 rename_i hj
 obtain rfl := Option.some.inj hv
 have hj2 : j < n * z.cells.size := by rw [h2]; exact hj
 have hz0 : 0 < z.cells.size := by
  rcases Nat.eq_zero_or_pos z.cells.size with h | h
  ·rw [h] at hj2; omega
  ·exact h
 have hm := Nat.mod_lt j hz0
 refine ⟨z.cells[j % z.cells.size], ?_, .undef _, h1 _ (by simp)⟩
 simp only [Builtin.zeroCells, Array.getElem?_toList, Array.getElem?_map]
 rw [Array.getElem?_range, if_pos hj2]
 simp only [Option.map_some]
 rw [getElem!_pos z.cells (j % z.cells.size) hm]
theorem Rep.grow {L : List (List V)} {T : List (Nat × Nat)} (h : Rep c w ⟨L, T⟩) {ts us ty e : TypeId} {ti te ui : TyI} (hti : tyOf P ts = some ti) (he : ti.d = .slice e) (hte : tyOf P e = some te) (hui : tyOf P us = some ui) (hue : ∃ k, ui.d = .slice k) (a : Option Addr) (n cap : Nat) (old : List V) (xs : List Value)
 (hxs : CellsL c w old xs) (hold : ∀ W : World, W.heap = w.heap → (Builtin.firstCells te.size n (.slice a n cap)).run P W = .ok xs.toArray W) (hcap : ¬ n + 1 ≤ cap) (hc63 : n + 1 ≤ 9223372036854775807) {x : V} {X : Value} {r : List D} (hx : VR c w x X) (hd : toD x = some (.sl [r])) (hr : r.length = te.size) (hb : (n + 1) * te.bytes ≤ 140737488355328) :
 ∃ w' c' cap', (Builtin.append_ #[ts, us] ty #[.slice a n cap, X]).run P w = .ok (.slice (some ⟨w.heap.size, 0, none⟩) (n + 1) cap') w' ∧ n + 1 ≤ cap' ∧ Rep c' w' ⟨L ++ [old ++ r.map .d ++ List.replicate ((cap' - (n + 1)) * te.size) .undef], T⟩ ∧ Ext c w c' w' ∧ VR c' w' (.bx L.length (n + 1) cap') (.slice (some ⟨w.heap.size, 0, none⟩) (n + 1) cap') := by
 obtain ⟨fi, d, z, h1, h2, h3, h4, h5, h6, _⟩ := tyOf_info hti
 obtain ⟨gi, d2, z2, g1, g2, g3, g4, g5, g6, g7, g8, g9, g10⟩ := tyOf_info hte
 obtain ⟨ui1, d3, z3, u1, u2, u3, u4, u5, u6, _⟩ := tyOf_info hui
 rw [he] at h6
 obtain rfl := tdOf_slice h6
 obtain ⟨ke, hke⟩ := hue
 rw [hke] at u6
 obtain rfl := tdOf_slice u6
 have Ty : SlTy P ts e te.size te.bytes := ⟨h2, gi, z2, g1, g3, g4, g5, g8⟩
 obtain ⟨ax, capx, F, rfl, hF, hfirst⟩ := one_row (P := P) hx hd hr
 obtain ⟨i, zz, k1, k2, k3, hrun⟩ := run_app_grow (P := P) (w := w) (ty := ty) Ty ⟨_, u2, by simp⟩ a n cap 1 hcap (.slice ax 1 capx) xs ((List.range (1 * te.size)).map F) (fun W => by simp [Builtin.lenOf]) hfirst hold hc63 hb
 rw [g1] at k1
 obtain rfl := Option.some.inj k1
 rw [g3] at k2
 obtain rfl := Option.some.inj k2
 have hge := grownCap_ge w (n + 1) cap e
 have hcm : grownCap w (n + 1) cap e ≤ 9223372036854775807 := grownCap_le_maxLen w (n + 1) cap e (by unfold maxLen; omega)
 unfold grownWorld at hrun
 generalize grownCap w (n + 1) cap e = cap' at hrun hge hcm
 have hdr : Below w.heap.size w w.drew := (Below.refl _ _).drew
 obtain ⟨r1, r2⟩ := h.under hdr
 have hcells := ((hxs.append hF).append (zeros_ok (c := c) (w := w) g10 te.size k3 (cap' - (n + 1)))).keep r2.keeps
 have harr : xs.toArray ++ ((List.range (1 * te.size)).map F).toArray ++ Builtin.zeroCells z2.cells (cap' - (n + 1)) = (xs ++ (List.range (1 * te.size)).map F ++ (Builtin.zeroCells z2.cells (cap' - (n + 1))).toList).toArray := by
  apply Array.ext'
  simp
 rw [harr] at hrun
 obtain ⟨q1, q2⟩ := r1.box_new _ e _ (by simpa using hcells.1) (hcells.at)
 refine ⟨_, _, cap', hrun, hge, q1, r2.trans q2, .bx _ _ _ _ ?_ hge hcm⟩
 show (c.ρ ++ [w.drew.heap.size])[L.length]? = _
 rw [show L.length = c.ρ.length from h.len]
 simp
theorem BxIs.store {L G : List (List V)} {T : List (Nat × Nat)} {t : TypeId} {te : TyI} {rows : List (List D)} {v : V} {i k cap j : Nat} {r : List D} (hte : tyOf P t = some te) (h : BxIs L.length te.size G rows v) (hv : v = .bx i k cap) (hj : j < rows.length) (hr : r.length = te.size) :
 ∃ G', opStore P ⟨L ++ G, T⟩ t (.ptr i (j * te.size)) (.agg (r.map .d)) = some (.undef, ⟨L ++ G', T⟩) ∧ BxIs L.length te.size G' (rows.set j r) v := by
 rcases h with ⟨rfl, rfl, h2⟩ | ⟨G0, cap2, rfl, h2, hrs, hG0, hcap⟩
 ·exact absurd hj (by simp)
 ·rw [h2] at hv
  cases hv
  obtain ⟨J, hJe⟩ : ∃ J, List.replicate ((cap - rows.length) * te.size) V.undef = J := ⟨_, rfl⟩
  rw [hJe]
  have hrows := rowsSz_iff hrs
  have hfl := flat_mlen hrows
  have hlt := row_lt (sz := te.size) hj (q := 0)
  have hle : j * te.size + te.size ≤ rows.length * te.size := by
   have := Nat.mul_le_mul_right te.size (show j + 1 ≤ rows.length by omega)
   rw [Nat.add_mul] at this
   omega
  have hg : (⟨L ++ (G0 ++ [rows.flatten.map V.d ++ J]), T⟩ : Mem).boxes[L.length + G0.length]? = some (rows.flatten.map .d ++ J) := by
   show (L ++ (G0 ++ [rows.flatten.map .d ++ J]))[L.length + G0.length]? = _
   rw [← List.append_assoc, List.getElem?_append_right (by simp)]
   simp
  refine ⟨G0 ++ [(rows.set j r).flatten.map .d ++ J], ?_, .inr ⟨G0, cap, by rw [List.length_set, hJe], by rw [List.length_set]; exact h2, ?_, hG0, by simpa using hcap⟩⟩
  ·unfold opStore
   simp only [hte, cellsV, hg]
   rw [if_pos ⟨by simpa using hr, by rw [List.length_append, hfl]; omega⟩]
   have hset : (rows.flatten.map V.d ++ J).take (j * te.size) ++ r.map .d ++ (rows.flatten.map V.d ++ J).drop (j * te.size + (r.map V.d).length) = (rows.set j r).flatten.map .d ++ J := by
    have e1 : rows = rows.take j ++ rows[j] :: rows.drop (j + 1) := by rw [← List.drop_eq_getElem_cons hj, List.take_append_drop]
    have e2 : rows.set j r = rows.take j ++ r :: rows.drop (j + 1) := List.set_eq_take_append_cons_drop.trans (if_pos hj)
    have f1 : ((rows.take j).flatten.map V.d).length = j * te.size := by
     rw [flat_mlen (fun q hq => hrows q (List.mem_of_mem_take hq))]
     simp only [List.length_take]
     rw [Nat.min_eq_left (by omega)]
    have f2 : (rows[j].map V.d).length = te.size := by simpa using hrows _ (List.getElem_mem hj)
    rw [e2]
    conv => lhs; rw [e1]
    simp only [List.flatten_append, List.flatten_cons, List.map_append, List.append_assoc]
    generalize (rows.take j).flatten.map V.d = A at f1 ⊢
    generalize rows[j].map V.d = X at f2 ⊢
    rw [show (r.map V.d).length = te.size by simpa using hr]
    rw [List.take_append_of_le_length (by omega), List.take_of_length_le (by omega), List.drop_append, List.drop_append]
    rw [List.drop_eq_nil_of_le (by omega), List.nil_append, f1, f2, Nat.add_sub_cancel_left, List.drop_eq_nil_of_le (by omega), List.nil_append, Nat.sub_self, List.drop_zero]
   rw [hset]
   congr 3
   rw [← List.append_assoc, List.set_append_right _ _ (by simp)]
   simp
  ·simp only [rowsSz, List.all_eq_true] at hrs ⊢
   intro q hq
   rcases List.mem_or_eq_of_mem_set hq with h | rfl
   ·exact hrs q h
   ·simpa using hr
theorem BxIs.load {L G : List (List V)} {T : List (Nat × Nat)} {t : TypeId} {te : TyI} {rows : List (List D)} {v : V} {i k cap j : Nat} {r : List D} (hte : tyOf P t = some te) (hag : te.agg = true) (h : BxIs L.length te.size G rows v) (hv : v = .bx i k cap) (hj : rows[j]? = some r) : opLoad P ⟨L ++ G, T⟩ t (.ptr i (j * te.size)) = some (.agg (r.map .d)) := by
 obtain ⟨hjl, hjr⟩ := List.getElem?_eq_some_iff.1 hj
 clear hj
 have hj := hjl
 subst hjr
 rcases h with ⟨rfl, rfl, h2⟩ | ⟨G0, cap2, rfl, h2, hrs, hG0, hcap⟩
 ·exact absurd hj (by simp)
 ·rw [h2] at hv
  cases hv
  obtain ⟨J, hJe⟩ : ∃ J, List.replicate ((cap - rows.length) * te.size) V.undef = J := ⟨_, rfl⟩
  rw [hJe]
  have hrows := rowsSz_iff hrs
  have hfl := flat_mlen hrows
  have hle : j * te.size + te.size ≤ rows.length * te.size := by
   have := Nat.mul_le_mul_right te.size (show j + 1 ≤ rows.length by omega)
   rw [Nat.add_mul] at this
   omega
  have hg : (⟨L ++ (G0 ++ [rows.flatten.map V.d ++ J]), T⟩ : Mem).boxes[L.length + G0.length]? = some (rows.flatten.map .d ++ J) := by
   show (L ++ (G0 ++ [rows.flatten.map .d ++ J]))[L.length + G0.length]? = _
   rw [← List.append_assoc, List.getElem?_append_right (by simp)]
   simp
  unfold opLoad
  simp only [hte, hg, loadV, hag, if_true]
  rw [if_pos (by rw [List.length_append, hfl]; omega)]
  congr 2
  have e1 : rows = rows.take j ++ rows[j] :: rows.drop (j + 1) := by rw [← List.drop_eq_getElem_cons hj, List.take_append_drop]
  have f1 : ((rows.take j).flatten.map V.d).length = j * te.size := by
   rw [flat_mlen (fun q hq => hrows q (List.mem_of_mem_take hq))]
   simp only [List.length_take]
   rw [Nat.min_eq_left (by omega)]
  have f2 : (rows[j].map V.d).length = te.size := by simpa using hrows _ (List.getElem_mem hj)
  conv => lhs; rw [e1]
  simp only [List.flatten_append, List.flatten_cons, List.map_append, List.append_assoc]
  generalize (rows.take j).flatten.map V.d = A at f1 ⊢
  generalize rows[j].map V.d = X at f2 ⊢
  rw [List.drop_append, List.drop_eq_nil_of_le (by omega), List.nil_append, f1, Nat.sub_self, List.drop_zero, List.take_append_of_le_length (by omega), List.take_of_length_le (by omega)]
theorem BxIs.lt {n sz : Nat} {G : List (List V)} {rows : List (List D)} {v : V} {i k cap : Nat} (h : BxIs n sz G rows v) (hv : v = .bx i k cap) : i < n + G.length := by
 rcases h with ⟨_, rfl, h2⟩ | ⟨G0, cap2, rfl, h2, hrs, hG0, hcap⟩
 ·rw [h2] at hv; cases hv
 ·rw [h2] at hv; cases hv; simp
theorem BxIs.idx {t e : TypeId} {ti te : TyI} {i k cap j : Nat} {q : IntKind} (hti : tyOf P t = some ti) (he : ti.d = .slice e) (hte : tyOf P e = some te) (hj : j < k) : opIndexAddr P t (.bx i k cap) (.d (.int q (j : Int))) = some (.ptr i (j * te.size)) := by
 unfold opIndexAddr
 simp only [hti, toD, opIdxB, he, hte]
 rw [if_pos ⟨by omega, by omega⟩]
 simp
theorem BxIs.opLen {n sz : Nat} {G : List (List V)} {rows : List (List D)} {v : V} {t e : TypeId} {ti : TyI} (hti : tyOf P t = some ti) (he : ti.d = .slice e) (h : BxIs n sz G rows v) : Ab.opLen P t v = some (.d (.int .i64 (rows.length : Int))) := by
 rcases h with ⟨rfl, rfl, rfl⟩ | ⟨G0, cap, rfl, rfl, _⟩
 ·simp [Ab.opLen, hti, toD, he]
 ·simp [Ab.opLen, hti, toD, opLenB, he]
theorem BxIs.len {n sz : Nat} {G : List (List V)} {rows : List (List D)} {v : V} {i k cap : Nat} (h : BxIs n sz G rows v) (hv : v = .bx i k cap) : k = rows.length := by
 rcases h with ⟨_, rfl, h2⟩ | ⟨G0, cap2, rfl, h2, hrs, hG0, hcap⟩
 ·rw [h2] at hv; cases hv
 ·rw [h2] at hv; cases hv; rfl
end
mutual
def frz (n i : Nat) (rows : List (List D)) : V → V
 | .ptr j k => if j < n then .ptr j k else .undef
 | .bx j k cap => if j < n then .bx j k cap else if j = i ∧ k = rows.length then .d (.sl rows) else .undef
 | .self j T => if j < n then .self j T else .undef
 | .buf r t T => .buf r t T
 | .func f a b => .func f (frzL n i rows a) (frzL n i rows b)
 | .agg vs => .agg (frzL n i rows vs)
 | .tup vs => .tup (frzL n i rows vs)
 | .undef => .undef
 | .d x => .d x
 | .sl r t => .sl r t
 | .eptr r k => .eptr r k
 | .nilp => .nilp
 | .nilf => .nilf
def frzL (n i : Nat) (rows : List (List D)) : List V → List V
 | [] => []
 | v :: vs => frz n i rows v :: frzL n i rows vs
end
theorem frzL_map (n i : Nat) (rows : List (List D)) : ∀ vs : List V, frzL n i rows vs = vs.map (frz n i rows)
 | [] => by simp [frzL]
 | v :: vs => by simp [frzL, frzL_map n i rows vs]
theorem VR.frz {c : Cx} {w : World} {n i b : Nat} {rows : List (List D)} (hi : c.ρ[i]? = some b) (hD : ∀ cap, rows.length ≤ cap → cap ≤ 9223372036854775807 → DR (c.cut n c.τ.length).M w (.sl rows) (.slice (some ⟨b, 0, none⟩) rows.length cap)) {x : V} {v : Value} (h : VR c w x v) : VR (c.cut n c.τ.length) w (frz n i rows x) v := by
 induction h with
 | undef v => unfold Ab.frz; exact .undef v
 | d x v h => unfold Ab.frz; exact .d x v (h.cut _ _)
 | full r a h ha => unfold Ab.frz; exact .full r a (h.cut _ _) ha
 | own r t a cap j h ht hr hn hl => unfold Ab.frz; exact .own r t a cap j (h.cut _ _) (get_take ht (List.getElem?_eq_some_iff.1 ht).1) hr hn hl
 | ptr j k b h =>
  unfold Ab.frz
  split
  ·rename_i hlt
   exact .ptr j k b (get_take h hlt)
  ·exact .undef _
 | bx j k cap b2 h hn hm =>
  unfold Ab.frz
  split
  ·rename_i hlt
   exact .bx j k cap b2 (get_take h hlt) hn hm
  ·split
   ·rename_i he
    obtain ⟨rfl, rfl⟩ := he
    rw [hi] at h
    obtain rfl := Option.some.inj h
    exact .d _ _ (hD cap hn hm)
   ·exact .undef _
 | self j T b2 v h hT hv =>
  unfold Ab.frz
  split
  ·rename_i hlt
   exact .self j T b2 v (get_take h hlt) hT hv
  ·exact .undef _
 | buf r t T v h hT ih =>
  unfold Ab.frz at ih ⊢
  exact .buf r t T v ih hT
 | eptr row k g o f h =>
  unfold Ab.frz
  refine .eptr row k g o f fun q hq => ?_
  obtain ⟨a, b, d⟩ := h q hq
  exact ⟨fun h => a (cut_M h), b, d.cut _ _⟩
 | nilp => unfold Ab.frz; exact .nilp
 | nilf => unfold Ab.frz; exact .nilf
 | func f first caps cf cc h1 h2 h3 h4 ih1 ih2 =>
  unfold Ab.frz
  rw [frzL_map, frzL_map]
  exact .func f _ _ cf cc (by simpa using h1) (by simpa using h2) (fun j hj => by simpa using ih1 j (by simpa using hj)) (fun j hj => by simpa using ih2 j (by simpa using hj))
 | agg vs cs h1 h2 h3 ih =>
  unfold Ab.frz
  rw [frzL_map]
  exact .agg _ cs (by simpa using h1) (fun j hj => by simpa using ih j (by simpa using hj)) (fun j hj => h3 j (by simpa using hj))
 | tup vs cs h1 h2 ih =>
  unfold Ab.frz
  rw [frzL_map]
  exact .tup _ cs (by simpa using h1) (fun j hj => by simpa using ih j (by simpa using hj))
section
variable {P : Program} {I : Inv} {z : Nat × Nat} {fn : FuncId} {R : V → Mem → Prop} {k : List Item} {env : List V}
theorem ARun.freeze {L G J : List (List V)} {T : List (Nat × Nat)} {sz i len cap : Nat} {rows : List (List D)} (h0 : 0 < sz) (hB : BxIs L.length sz G rows (.bx i len cap)) (hz : z.1 ≤ L.length ∧ z.2 ≤ T.length) (h : ARun P I z fn k (env.map (frz L.length i rows)) ⟨L.map (·.map (frz L.length i rows)), T⟩ R) : ARun P I z fn k env ⟨L ++ (G ++ J), T⟩ R := by
 rcases hB with ⟨_, _, h2⟩ | ⟨G0, cap2, rfl, h2, hrs, _, hcap⟩
 ·cases h2
 cases h2
 generalize List.replicate ((cap - rows.length) * sz) V.undef = X at *
 intro b a c w c0 w0 h1 h2 h3 h4 h5 h6 hI
 have hrows := rowsSz_iff hrs
 have hm : c.τ.length = T.length := by
  have := congrArg List.length h5.toks
  simp at this; omega
 have hbl : (L ++ ((G0 ++ [rows.flatten.map V.d ++ X]) ++ J)).length = c.ρ.length := h5.len
 obtain ⟨b0, hb0⟩ : ∃ b0, c.ρ[L.length + G0.length]? = some b0 := ⟨_, List.getElem?_eq_getElem (by rw [← hbl]; simp)⟩
 have hbox : (⟨L ++ ((G0 ++ [rows.flatten.map .d ++ X]) ++ J), T⟩ : Mem).boxes[L.length + G0.length]? = some (rows.flatten.map .d ++ X) := by
  show (L ++ ((G0 ++ [rows.flatten.map .d ++ X]) ++ J))[L.length + G0.length]? = _
  rw [← List.append_assoc, ← List.append_assoc, List.getElem?_append_left (by simp), List.getElem?_append_right (by simp)]
  simp
 obtain ⟨cs, Ty, hh, hsz, hcs⟩ := h5.boxCells hb0 hbox
 have hnM : ∀ q, ¬ (c.cut L.length c.τ.length).M b0 q := by
  rintro q ((hm | hm) | ⟨t, i, off, ht, ha, e1, e2⟩)
  ·have e1 := (c.hX _ _ hm).2
   have e2 : c.X b0 q := hm
   obtain ⟨e3, _⟩ := h5.box _ _ hb0
   omega
  ·obtain ⟨j, hj⟩ := mem_ρ.1 hm
   have hj' : (c.ρ.take L.length)[j]? = some b0 := hj
   rw [List.getElem?_take] at hj'
   split at hj'
   case isFalse => cases hj'
   have := h5.inj _ _ _ hj' hb0
   omega
  ·have ht' : (c.τ.take c.τ.length)[t]? = some i := ht
   rw [List.take_length] at ht'
   obtain ⟨a1, a2, a3, a4, a5⟩ := h5.tok t i ht'
   have hlt : i.n < i.cap := by
    rcases Nat.lt_or_ge i.n i.cap with h' | h'
    ·exact h'
    ·have := Nat.mul_le_mul_right i.sz h'
     omega
   exact (a5 hlt b0 off ha).2.1 (mem_ρ.2 ⟨_, hb0⟩)
 have hD : ∀ cp, rows.length ≤ cp → cp ≤ 9223372036854775807 → DR (c.cut L.length c.τ.length).M w (.sl rows) (.slice (some ⟨b0, 0, none⟩) rows.length cp) := by
  intro cp hc1 hc2
  have hget : ∀ (j q : Nat) (r : List D) (d : D), rows[j]? = some r → r[q]? = some d → w.cell? ⟨b0, j * sz + q, none⟩ = some (cs.getD (j * sz + q) undef) ∧ DR c.M w d (cs.getD (j * sz + q) undef) := by
   intro j q r d hj hq
   have e1 := flat_get hrows j q r d hj hq
   have e2 := (List.getElem?_eq_some_iff.1 e1).1
   have hlt : j * sz + q < (rows.flatten.map V.d ++ X).length := by rw [List.length_append, List.length_map]; omega
   obtain ⟨q1, q2, _⟩ := hcs _ hlt
   refine ⟨q1, ?_⟩
   have e3 : (rows.flatten.map V.d ++ X)[j * sz + q] = .d d := by
    rw [List.getElem_append_left (by rw [List.length_map]; exact e2), List.getElem_map]
    congr 1
    exact (List.getElem?_eq_some_iff.1 e1).2
   rw [e3] at q2
   cases q2 with
   | d _ _ h => exact h
  refine .sl rows sz _ cp (fun j q => cs.getD (j * sz + q) undef) h0 hrows hc1 hc2 (fun _ => ⟨b0, 0, rfl, fun j hj q hq => ⟨hnM _, ?_⟩⟩) (fun j hj q hq => ?_)
  ·rw [Nat.zero_add]
   exact (hget j q _ _ (List.getElem?_eq_getElem hj) (List.getElem?_eq_getElem hq)).1
  ·exact (hget j q _ _ (List.getElem?_eq_getElem hj) (List.getElem?_eq_getElem hq)).2.cut _ _
 have hrep : Rep (c.cut L.length c.τ.length) w ⟨L.map (·.map (frz L.length (L.length + G0.length) rows)), T⟩ := by
  refine ⟨h5.hB, by simp [Cx.cut]; simp at hbl; omega, fun i b hi => ?_, fun i j b hi hj => ?_, ?_, fun t i ht => ?_, fun t t' i i' g off off' ht ht' => ?_, h5.inv⟩
  ·have hi' : (c.ρ.take L.length)[i]? = some b := hi
   rw [List.getElem?_take] at hi'
   split at hi'
   case isFalse => cases hi'
   rename_i hlt
   obtain ⟨a, cs, Ty, hh, vs, g1, g2, g3⟩ := h5.box i b hi'
   have g1' : L[i]? = some vs := by
    have : (L ++ ((G0 ++ [rows.flatten.map .d ++ X]) ++ J))[i]? = some vs := g1
    rwa [List.getElem?_append_left hlt] at this
   refine ⟨a, cs, Ty, hh, vs.map (frz L.length (L.length + G0.length) rows), ?_, by simpa using g2, fun j hj => ?_⟩
   ·show (L.map _)[i]? = _
    rw [List.getElem?_map, g1']
    rfl
   ·have hj' : j < vs.length := by simpa using hj
    rw [List.getElem_map]
    exact ⟨(g3 j hj').1.frz hb0 hD, (g3 j hj').2⟩
  ·have hi' : (c.ρ.take L.length)[i]? = some b := hi
   have hj' : (c.ρ.take L.length)[j]? = some b := hj
   rw [List.getElem?_take] at hi' hj'
   split at hi'
   case isFalse => cases hi'
   split at hj'
   case isFalse => cases hj'
   exact h5.inj i j b hi' hj'
  ·show T = (c.τ.take c.τ.length).map _
   rw [List.take_length]
   exact h5.toks
  ·have ht' : (c.τ.take c.τ.length)[t]? = some i := ht
   rw [List.take_length] at ht'
   obtain ⟨a1, a2, a3, a4, a5⟩ := h5.tok t i ht'
   refine ⟨a1, a2, a3, a4, fun hlt g off ha => ?_⟩
   obtain ⟨b1, b2, b3⟩ := a5 hlt g off ha
   exact ⟨b1, fun hm => b2 (List.mem_of_mem_take hm), b3⟩
  ·have ht1 : (c.τ.take c.τ.length)[t]? = some i := ht
   have ht2 : (c.τ.take c.τ.length)[t']? = some i' := ht'
   rw [List.take_length] at ht1 ht2
   exact h5.disj t t' i i' g off off' ht1 ht2
 have henv : EnvR (c.cut L.length c.τ.length) w (env.map (frz L.length (L.length + G0.length) rows)) a.tmps := by
  refine ⟨by simpa using h4.1, fun t ht => ?_⟩
  have ht' : t < env.length := by simpa using ht
  rw [List.getElem_map]
  exact (h4.2 t ht').frz hb0 hD
 refine h b a (c.cut L.length c.τ.length) w c0 w0 h1 h2 h3 henv hrep ⟨⟨fun g k v hm hv => ?_, fun i b hi => ?_, fun t i hi => ?_, h6.B, h6.keeps.ty⟩, h6.B, h6.I, h6.X, h6.below⟩ ⟨hI.1, hI.2⟩
 ·exact ⟨fun h => (h6.keeps.cell g k v hm hv).1 (cut_M h), (h6.keeps.cell g k v hm hv).2⟩
 ·have := (List.getElem?_eq_some_iff.1 hi).1
  exact get_take (h6.keeps.ρ i b hi) (by omega)
 ·obtain ⟨i', a1, a2⟩ := h6.keeps.τ t i hi
  have := (List.getElem?_eq_some_iff.1 a1).1
  exact ⟨i', get_take a1 this, a2⟩
theorem ARun.plainS {S : Mem} (q : Nat) (rows : List (List D)) (tk : Tok) (hq : env.getD q .undef = .sl rows tk) (h : ARun P I z fn k (env.set q (.d (.sl rows))) S R) : ARun P I z fn k env S R := by
 intro b a c w c0 w0 h1 h2 h3 h4 h5 h6 hI
 refine h b a c w c0 w0 h1 h2 h3 ⟨by simpa using h4.1, fun t ht => ?_⟩ h5 h6 hI
 have ht' : t < env.length := by simpa using ht
 by_cases e : q = t
 ·subst e
  have hv := h4.get q
  rw [hq] at hv
  have hp : VR c w (.d (.sl rows)) (a.tmps.getD q undef) := by
   generalize a.tmps.getD q undef = v at hv
   cases hv with
   | full _ a h ha => exact .d _ _ h
   | own _ t a cap i h ht hr hn hl => exact .d _ _ h
  simpa using hp
 ·have := h4.2 t ht'
  simpa [e] using this
end
section
variable {P : Program} {I : Inv} {ops : Array Oper} {W : List Nat} {MM : Mem → Prop} {K : List V → Mem → Prop} {env : List V} {S : Mem} {listed : Array Bool}
end
section
variable {P : Program} {c : Cx} {w : World} {S : Mem}
theorem Rep.say (h : Rep c w S) {i b : Nat} (hi : c.ρ[i]? = some b) {us vs : List V} (hu : S.boxes[i]? = some us) (hl : vs.length = us.length)
 (hv : ∀ (cs : Array Value) T, w.heap[b]? = some (.cells cs T (0, 0)) → (∀ j (h : j < us.length), VR c w us[j] (cs.getD j undef)) → ∀ j (h : j < vs.length), VR c w vs[j] (cs.getD j undef)) : Rep c w { S with boxes := S.boxes.set i vs } := by
 refine ⟨h.hB, by simpa using h.len, fun j bj hj => ?_, h.inj, h.toks, h.tok, h.disj, h.inv⟩
 obtain ⟨a', cs, Ty, hh, us', f1, f2, f3⟩ := h.box j bj hj
 by_cases e : j = i
 ·subst e
  rw [hu] at f1
  obtain rfl := Option.some.inj f1
  rw [hi] at hj
  obtain rfl := Option.some.inj hj
  exact ⟨a', cs, Ty, hh, vs, get_set hu, by omega, fun q hq => ⟨hv cs Ty hh (fun j h => (f3 j h).1) q hq, (f3 q (by omega)).2⟩⟩
 ·exact ⟨a', cs, Ty, hh, us', get_set_ne e f1, f2, f3⟩
theorem OpR.boxSelf {I : Inv} {env : List V} {o : Oper} {t : TypeId} {x : Operand} {vs : List V} (ho : o.op = .box t x) (hx : evalV I env x = .agg (.nilp :: vs)) :
 OpR P I o env S fun v S' => v = .ptr S.boxes.length 0 ∧ S' = ⟨S.boxes ++ [.self S.boxes.length t :: vs], S.toks⟩ := by
 intro c w ev h hI he
 have hv := he x (by rw [ho]; simp [Op.operands])
 rw [hx] at hv
 obtain ⟨h1, h2⟩ := VR_cells hv rfl
 have hn := h.box_new (ev x).cells t _ h1 h2
 have hi : (c.ρ ++ [w.heap.size])[S.boxes.length]? = some w.heap.size := by rw [h.len]; simp
 have hT : OfTy (w.alloc (.cells (ev x).cells t)) w.heap.size t := ⟨_, _, heap_alloc_new w _⟩
 refine ⟨.pointer (some ⟨w.heap.size, 0, none⟩), _, _, _, _, ?_, ⟨rfl, rfl⟩, ?_, hn.2, .ptr _ 0 _ hi⟩
 ·unfold execOp
  simp [ho, Instr.box, newVar, newRow]
 ·have := hn.1.say (i := S.boxes.length) hi (us := .nilp :: vs) (vs := .self S.boxes.length t :: vs) (by simp) rfl fun cs _ _ hcs j hj => by
   cases j with
   | zero =>
    have h0 := hcs 0 (by simp)
    simp only [List.getElem_cons_zero] at h0 ⊢
    generalize cs.getD 0 undef = y at h0 ⊢
    cases h0
    exact .self _ t _ _ hi hT (.inl rfl)
   | succ j => exact hcs (j + 1) hj
  have e : (S.boxes ++ [.nilp :: vs]).set S.boxes.length (.self S.boxes.length t :: vs) = S.boxes ++ [.self S.boxes.length t :: vs] := by
   rw [List.set_append_right _ _ (Nat.le_refl _), Nat.sub_self]
   rfl
  rw [← e]
  exact this
theorem ARun.bufB {I : Inv} {z : Nat × Nat} {fn : FuncId} {k : List Item} {env : List V} {R : V → Mem → Prop} {B : List (List V)} {T : List (Nat × Nat)} (i e : Nat) {a : V} {vs : List V} (hi : B[i]? = some (a :: .sl [] .full :: vs))
 (h : ARun P I z fn k env ⟨B.set i (a :: .buf [] T.length e :: vs), T ++ [(0, 1)]⟩ R) : ARun P I z fn k env ⟨B, T⟩ R := by
 intro b a0 c w c0 w0 h1 h2 h3 h4 h5 h6 hI
 have hiB := (List.getElem?_eq_some_iff.1 hi).1
 have hlen : B.length = c.ρ.length := h5.len
 obtain ⟨b0, hb0⟩ : ∃ b0, c.ρ[i]? = some b0 := ⟨_, List.getElem?_eq_getElem (by omega)⟩
 obtain ⟨_, cs, Ty, hh, vs', e1, e2, e3⟩ := h5.box i b0 hb0
 have e1 : B[i]? = some vs' := e1
 rw [hi] at e1
 obtain rfl := Option.some.inj e1
 have hv : VR c w (.sl [] .full) (cs.getD 1 undef) := (e3 1 (by simp)).1
 have hcap : ∀ g off n cap, cs.getD 1 undef = .slice (some ⟨g, off, none⟩) n cap → cap = 0 := by
  intro g off n cap he
  rw [he] at hv
  cases hv
  rfl
 obtain ⟨c', r1, r2, r3⟩ := h5.token hv 1 (by omega) (by simp)
 refine h b a0 c' w c0 w0 h1 h2 h3 (h4.ext r2) ?_ (h6.trans r2) ⟨r2.I.trans hI.1, hI.2⟩
 refine r1.say (S := ⟨B, T ++ [(0, 1)]⟩) (r2.keeps.ρ i b0 hb0) hi (vs := a :: .buf [] T.length e :: vs) (by simp) fun cs2 T2 hh2 hcs j hj => ?_
 obtain ⟨rfl, _⟩ : cs = cs2 ∧ True := by
  rw [hh] at hh2
  have := Option.some.inj hh2
  simp at this
  exact ⟨this.1, trivial⟩
 match j with
 | 0 => exact hcs 0 (by simp)
 | 1 => exact .buf _ _ _ _ r3 fun g off n cap h0 hv => absurd (hcap g off n cap hv) h0
 | j + 2 =>
  have := hcs (j + 2) (by simpa using hj)
  simpa using this
theorem OpR.appBuf {I : Inv} {env : List V} {o : Oper} {so xo : Operand} {ts us e t : Nat} {ti te ui : TyI} {rows : List (List D)} {s : List UInt8} (ho : o.op = .call ⟨.builtin .append, #[so, xo], #[ts, us]⟩)
 (hti : tyOf P ts = some ti) (he : ti.d = .slice e) (hte : tyOf P e = some te) (h1 : te.size = 1) (hui : tyOf P us = some ui) (hue : ui.d = .string) (hes : evalV I env so = .buf rows t e) (hex : evalV I env xo = .d (.str s))
 (ht : S.toks[t]? = some (rows.length, 1)) (hb : (rows.length + s.length) * te.bytes ≤ 140737488355328) (hb1 : 1 ≤ te.bytes) :
 OpR P I o env S fun v S' => v = .buf (rows ++ s.map byteRow) t e ∧ S' = ⟨S.boxes, S.toks.set t (rows.length + s.length, 1)⟩ := by
 intro c w ev hrep hI he3
 have hop : ∀ y, y = so ∨ y = xo → y ∈ o.op.operands := by
  intro y hy
  rw [ho]
  simp only [Op.operands, Call.operands]
  rcases hy with rfl | rfl <;> simp
 have hA := he3 so (hop so (.inl rfl))
 have hX := he3 xo (hop xo (.inr rfl))
 rw [hes] at hA
 rw [hex] at hX
 obtain ⟨fi, d, z, a1, a2, a3, a4, a5, a6, _⟩ := tyOf_info hti
 obtain ⟨gi, d2, z2, g1, g2, g3, g4, g5, g6, g7, g8, _⟩ := tyOf_info hte
 rw [he] at a6
 obtain rfl := tdOf_slice a6
 have T : SlTy P ts e te.size te.bytes := ⟨a2, gi, z2, g1, g3, g4, g5, g8⟩
 obtain ⟨ui1, d3, z3, u1, u2, u3, u4, u5, u6, _⟩ := tyOf_info hui
 rw [hue] at u6
 obtain rfl := tdOf_string u6
 obtain ⟨A, hA0⟩ : ∃ A, ev so = A := ⟨_, rfl⟩
 obtain ⟨X, hX0⟩ : ∃ X, ev xo = X := ⟨_, rfl⟩
 rw [hA0] at hA
 rw [hX0] at hX
 cases hA with
 | buf _ _ _ _ hA hT =>
  have hAs : ∃ a n cap, A = .slice a n cap := by cases hA; exact ⟨_, _, _, rfl⟩
  obtain ⟨a, n, cap, rfl⟩ := hAs
  cases hX with
  | d _ _ hD => cases hD with
   | str _ hl =>
    rw [← h1] at ht
    obtain ⟨v', w', c', k1, k2, k3, k4, k5⟩ := hrep.appX (nrows := s.map byteRow) (x := .string ⟨s.toArray⟩) (ty := o.type) hA ht T ⟨_, u2, by simp⟩ (by rw [h1]; intro r hr; obtain ⟨b, _, rfl⟩ := List.mem_map.1 hr; rfl) (fun k => .int .u8 ((s.getD k 0).toNat : Int)) (fun W => by simp [Builtin.lenOf, ByteArray.size_mk']) (fun W _ => by
     have := Lib.run_firstCells_string (P := P) W te.size ⟨s.toArray⟩
     simp only [ByteArray.size_mk', List.size_toArray] at this
     simp only [List.length_map]
     rw [this, h1, Nat.mul_one]
     congr 2
     apply List.ext_getElem?
     intro j
     by_cases hj : j < s.length
     ·simp [hj, List.getD, Lib.strCells]
     ·simp [hj, Lib.strCells]) (fun j hj r hr => by
     have hj' : j < s.length := by simpa using hj
     have hr0 : r = 0 := by simp [byteRow] at hr; exact hr
     subst hr0
     simp only [List.getElem_map, byteRow, List.getElem_cons_zero, h1, Nat.mul_one, Nat.add_zero]
     have : s.getD j 0 = s[j] := by simp [List.getD, hj']
     rw [this]
     exact .int _ _) (by simpa using hb) hb1
    refine ⟨v', w', c', _, _, ?_, ⟨rfl, ?_⟩, k2, k3, .buf _ _ _ _ k4 fun g off n2 cap2 hc hv => ?_⟩
    ·simp [execOp, ho, resolve, invoke, builtin, hA0, hX0, k1]
    ·simp [h1]
    ·obtain ⟨a', cap', e1, e2⟩ := k5 a n cap rfl
     rw [hv] at e1
     obtain ⟨rfl, rfl, rfl⟩ := Value.slice.inj e1
     rcases e2 with ⟨rfl, rfl⟩ | ⟨g', e3, e4, e5⟩
     ·obtain ⟨q1, q2, q3⟩ := hT g off n cap2 hc rfl
      exact ⟨q1, by rw [k3.B]; exact q2, k3.keeps.ty _ _ q3⟩
     ·obtain ⟨rfl, rfl, _⟩ : g = g' ∧ off = 0 ∧ True := by
       have := Option.some.inj e3
       simp at this
       exact ⟨this.1, this.2, trivial⟩
      exact ⟨rfl, by rw [k3.B]; exact e4, e5⟩
theorem Rep.selfSet (h : Rep c w S) {i b T : Nat} (hi : c.ρ[i]? = some b) {vs : List V} (hb : S.boxes[i]? = some (.self i T :: vs)) : Rep c (w.setCell ⟨b, 0, none⟩ (.pointer (some ⟨b, 0, none⟩))) S ∧ Ext c w c (w.setCell ⟨b, 0, none⟩ (.pointer (some ⟨b, 0, none⟩))) := by
 obtain ⟨cs, T0, hh, hsz, hcs⟩ := h.boxCells hi hb
 rw [setCell_eq_setRow w b 0 cs T0 (0, 0) _ hh]
 have := h.setBox hi (cs.setIfInBounds 0 (.pointer (some ⟨b, 0, none⟩))) (.self i T :: vs) (by simpa using hsz) fun j hj => by
  have hj2 : j < cs.size := by omega
  cases j with
  | zero =>
   have h0 := (hcs 0 hj).2.1
   have e : (cs.setIfInBounds 0 (.pointer (some ⟨b, 0, none⟩))).getD 0 undef = .pointer (some ⟨b, 0, none⟩) := by
    rw [getD_arr (by simpa using hj2)]
    simp
   rw [e]
   simp only [List.getElem_cons_zero] at h0 ⊢
   generalize cs.getD 0 undef = y at h0
   cases h0 with
   | self _ _ b2 _ h1 h2 h3 =>
    rw [hi] at h1
    obtain rfl := Option.some.inj h1
    exact ⟨.self _ _ b _ hi h2 (.inr rfl), rfl⟩
  | succ j =>
   have h0 := (hcs (j + 1) hj).2
   have e : (cs.setIfInBounds 0 (.pointer (some ⟨b, 0, none⟩))).getD (j + 1) undef = cs.getD (j + 1) undef := by
    rw [Array.getD_eq_getD_getElem?, Array.getD_eq_getD_getElem?, Array.getElem?_setIfInBounds_ne (by omega)]
   rw [e]
   exact h0
 have e : S.boxes.set i (.self i T :: vs) = S.boxes := by
  apply List.ext_getElem?
  intro j
  by_cases hj : j = i
  ·subst hj
   rw [get_set hb, hb]
  ·rw [List.getElem?_set_ne (fun h => hj h.symm)]
 rw [e] at this
 exact this
theorem freeze_all (w : World) (g n b : Nat) (h0 : n ≠ 0) : (w.freeze ⟨g, 0, none⟩ n).heap[b]? = if g = b then (w.heap[b]?).map (fun
 | .cells c elem (lo, hi) => .cells c elem (if lo == hi then (0, 0 + n) else (min lo 0, max hi (0 + n)))
 | o => o) else w.heap[b]? := by
 unfold World.freeze
 rw [if_neg (by simpa using h0)]
 simp only [Array.getElem?_modify]
 split <;> rfl
theorem TI.full {i : TI} (h : i.cap = i.n) : { i with n := i.cap } = i := by
 cases i
 simp only [TI.mk.injEq, true_and, and_true] at h ⊢
 exact h
theorem Rep.freeze1 {B : List (List V)} {k : Nat} (h : Rep c w ⟨B, [(k, 1)]⟩) {g : Nat} (hg : c.B ≤ g) (hρ : g ∉ c.ρ) {cs : Array Value} {T : TypeId} {fz : Nat × Nat} (hh : w.heap[g]? = some (.cells cs T fz)) (n : Nat) (h0 : n ≠ 0) :
 ∃ c' k', Rep c' (w.freeze ⟨g, 0, none⟩ n) ⟨B, [(k', 1)]⟩ ∧ Ext c w c' (w.freeze ⟨g, 0, none⟩ n) := by
 obtain ⟨i, hτ⟩ : ∃ i, c.τ = [i] := by
  have := congrArg List.length h.toks
  simp at this
  match c.τ, this with
  | [i], _ => exact ⟨i, rfl⟩
 have hk : (k, 1) = (i.n, i.sz) := by
  have := h.toks
  rw [hτ] at this
  simpa using this
 obtain ⟨rfl, hsz⟩ := Prod.mk.inj hk
 have h00 : c.τ[0]? = some i := by rw [hτ]; rfl
 obtain ⟨t1, t2, t3, t4, t5⟩ := h.tok 0 i h00
 have hold : ∀ b, b ≠ g → (w.freeze ⟨g, 0, none⟩ n).heap[b]? = w.heap[b]? := fun b hb => by rw [freeze_all _ _ _ _ h0, if_neg (fun e => hb e.symm)]
 have hnew : ∃ fz', (w.freeze ⟨g, 0, none⟩ n).heap[g]? = some (.cells cs T fz') := by
  rw [freeze_all _ _ _ _ h0, if_pos rfl, hh]
  exact ⟨_, rfl⟩
 obtain ⟨fz', hnew⟩ := hnew
 have hsize : (w.freeze ⟨g, 0, none⟩ n).heap.size = w.heap.size := by
  unfold World.freeze
  rw [if_neg (by simpa using h0)]
  simp
 have hcell : ∀ b k, (w.freeze ⟨g, 0, none⟩ n).cell? ⟨b, k, none⟩ = w.cell? ⟨b, k, none⟩ := by
  intro b k
  by_cases hb : b = g
  ·subst hb
   simp [World.cell?, hnew, hh]
  ·simp only [World.cell?, hold b hb]
 have hbel : Below c.B w (w.freeze ⟨g, 0, none⟩ n) := by
  refine ⟨?_, ?_, ?_, by rw [hsize]; exact Nat.le_refl _, fun k hk => hold k (by omega)⟩
  all_goals
   unfold World.freeze
   rw [if_neg (by simpa using h0)]
 let i' : TI := { i with n := i.cap }
 let c' : Cx := { c with τ := [i'] }
 have hMM : ∀ b k, c'.M b k → c.M b k := by
  rintro b k (h' | ⟨t', j, o, ht', a1, a2, a3⟩)
  ·exact .inl h'
  ·have ht' : [i'][t']? = some j := ht'
   match t', ht' with
   | 0, ht' =>
    obtain rfl := Option.some.inj ht'
    have a2 : o + i.cap * i.sz ≤ k := a2
    have a3 : k < o + i.cap * i.sz := a3
    omega
 have hk : Keeps c w c' (w.freeze ⟨g, 0, none⟩ n) := by
  refine ⟨fun b k v hm hv => ⟨fun h' => hm (hMM b k h'), by rw [hcell]; exact hv⟩, fun _ _ h => h, fun t j hj => ?_, rfl, fun b T' h => ?_⟩
  ·rw [hτ] at hj
   match t, hj with
   | 0, hj =>
    obtain rfl := Option.some.inj hj
    refine ⟨i', rfl, rfl, t1, fun e => ?_⟩
    exact TI.full e
  ·by_cases e : b = g
   ·subst e
    obtain ⟨cs1, fz1, h⟩ := h
    rw [hh] at h
    obtain ⟨rfl, rfl, rfl⟩ : cs = cs1 ∧ T = T' ∧ fz = fz1 := Obj.cells.inj (Option.some.inj h)
    exact ⟨_, _, hnew⟩
   ·exact h.of_block (hold b e)
 refine ⟨c', i.cap, ⟨⟨h.hB.1, by rw [hsize]; exact h.hB.2⟩, h.len, fun q b hq => ?_, h.inj, by simp [c', i', hsz], fun t j hj => ?_, fun t t' j j' g off off' hj hj' _ _ h1 _ => ?_, fun w' hw' => h.inv w' (hbel.trans hw')⟩, hk, rfl, rfl, rfl, hbel⟩
 ·obtain ⟨a, cs1, T1, hh1, vs, e1, e2, e3⟩ := h.box q b hq
  have hne : b ≠ g := fun e => hρ (mem_ρ.2 ⟨q, by rw [← e]; exact hq⟩)
  exact ⟨a, cs1, T1, by rw [hold b hne]; exact hh1, vs, e1, e2, fun j hj => ⟨(e3 j hj).1.keep hk, (e3 j hj).2⟩⟩
 ·have hj : [i'][t]? = some j := hj
  match t, hj with
  | 0, hj =>
   obtain rfl := Option.some.inj hj
   exact ⟨Nat.le_refl _, t2, t3, t4, fun h => absurd h (Nat.lt_irrefl _)⟩
 ·have hj : [i'][t]? = some j := hj
  match t, hj with
  | 0, hj =>
   obtain rfl := Option.some.inj hj
   exact absurd h1 (Nat.lt_irrefl _)
theorem Rep.bufRead {s : List UInt8} {t T : Nat} {x : Value} (hx : VR c w (.buf (s.map byteRow) t T) x) (hs : s ≠ []) :
 ∃ g cap cells, x = .slice (some ⟨g, 0, none⟩) s.length cap ∧ cap ≠ 0 ∧ c.B ≤ g ∧ g ∉ c.ρ ∧ w.shape? g = some (T, cells) ∧ s.length ≤ cells ∧ (∃ cs fz, w.heap[g]? = some (.cells cs T fz)) ∧ ∀ j x, s[j]? = some x → w.cell? ((⟨g, 0, none⟩ : Addr).add j) = some (.int .u8 x.toNat) := by
 cases hx with
 | buf _ _ _ _ h hT =>
  cases h with
  | own _ _ a cap i h ht hr hn hl =>
   have hlen : (s.map byteRow).length = s.length := by simp
   obtain ⟨_, hc, _, F, hF, hFd⟩ := h.flat 1 (by intro r hr; obtain ⟨b, _, rfl⟩ := List.mem_map.1 hr; rfl)
   obtain ⟨_, g, off, rfl, hcl⟩ := hF (by simpa using hs)
   have hpos := List.length_pos_iff.2 hs
   rw [hlen] at hc
   obtain ⟨rfl, hB, cs, fz, hh⟩ := hT g off _ cap (by omega) rfl
   rw [hlen] at hcl ⊢
   have hcells : ∀ j (hj : j < s.length), w.cell? ⟨g, j, none⟩ = some (.int .u8 (s[j].toNat : Int)) := by
    intro j hj
    have h1 := (hcl j (by omega)).2
    rw [Nat.zero_add] at h1
    have h2 := hFd j (by simpa using hj) 0 (by simp [byteRow])
    simp only [List.getElem_map, byteRow, List.getElem_cons_zero, Nat.mul_one, Nat.add_zero] at h2
    rw [h1]
    generalize F j = y at h2 ⊢
    cases h2
    rfl
   refine ⟨g, cap, cs.size, rfl, by omega, hB, fun hρ => (hcl 0 (by omega)).1 (.inl (.inr hρ)), by simp [World.shape?, hh], ?_, ⟨cs, fz, hh⟩, fun j x hj => ?_⟩
   ·have h1 := hcells (s.length - 1) (by omega)
    simp only [World.cell?, hh] at h1
    have := (Array.getElem?_eq_some_iff.1 h1).1
    omega
   ·obtain ⟨hlt, rfl⟩ := List.getElem?_eq_some_iff.1 hj
    rw [Addr.add_plain, Nat.zero_add]
    exact hcells j hlt
theorem AFn.of_run {I : Inv} {f : FuncId} {args : List V} {R : V → Mem → Prop} {fn : Func} (hf : P.funcs[f]? = some fn) (hb : fn.body.isSome = true) (hname : (fn.name == "runtime.NumGoroutine") = false)
 (h : ∀ (c : Cx) (w : World) (xs : Array Value), xs.size = args.length → (∀ j (h : j < args.length), VR c w args[j] (xs.getD j undef)) → Rep c w S → c.I = I → Calls P f xs w (AQ c w R)) : AFn P I f args S R := by
 have hn : ¬ fn.name = "runtime.NumGoroutine" := by simpa using hname
 obtain ⟨body, hb⟩ := Option.isSome_iff_exists.1 hb
 exact ⟨fun xs w => by simp [callFunc, hf, hn, hb], h⟩
theorem AFn.of_ptr {I : Inv} {f : FuncId} {i : Nat} {R : V → Mem → Prop} {fn : Func} (hf : P.funcs[f]? = some fn) (hb : fn.body.isSome = true) (hname : (fn.name == "runtime.NumGoroutine") = false)
 (h : ∀ (c : Cx) (w : World) (b : Nat), c.ρ[i]? = some b → Rep c w S → Calls P f #[.pointer (some ⟨b, 0, none⟩)] w (AQ c w R)) : AFn P I f [.ptr i 0] S R := by
 refine AFn.of_run hf hb hname fun c w xs h1 h2 h3 hI => ?_
 have hv := h2 0 (by simp)
 obtain ⟨x, rfl⟩ : ∃ x, xs = #[x] := ⟨xs[0]'(by simp at h1; omega), by
  apply Array.ext
  ·simpa using h1
  ·intro j hj hj'
   have : j = 0 := by simp at hj'; omega
   subst this
   rfl⟩
 have hv : VR c w (.ptr i 0) x := hv
 cases hv with
 | ptr _ _ b hi => exact h c w b hi h3
end
end Go.Ab
namespace Go.Proofs.YtfaoamebphckbaaGreatDoor
open Go.RowKit Go.Av Go.Ab
set_option linter.unusedSimpArgs false
set_option maxRecDepth 100000
set_option maxHeartbeats 1000000 in
theorem copy_calls (b : Nat) (w : World) (p : Value) (h0 : w.cell? ⟨b, 0, none⟩ = some p) (hp : p = .pointer none ∨ p = .pointer (some ⟨b, 0, none⟩)) (hsh : w.shape? b = some (54, 3)) (hfz : w.frozen? ⟨b, 0, none⟩ = false) :
 Calls Tryz.prog 114 #[.pointer (some ⟨b, 0, none⟩)] w fun e w' => e = .returned (.tuple #[]) ∧ (w' = w ∨ w' = w.setCell ⟨b, 0, none⟩ (.pointer (some ⟨b, 0, none⟩))) := by
 obtain ⟨j, hj, hjs⟩ := Option.map_eq_some_iff.1 (show (Tryz.prog.info? 52).map (·.size) = some 2 by kernel_rfl)
 rcases hp with rfl | rfl
 ·go_enter Tryz.func114, Tryz.ntmps114
  go_wp2
  rw [Lib.run_to_unsafe w ⟨b, 0, none⟩ Tryz.underlying50 Tryz.underlying176 hj (by rw [hjs]; decide) hsh (Nat.zero_lt_succ 2)]
  simp only [Result.andThen]
  rw [Oper.upon_value]
  go_wp2
  rw [run_callFunc_extern Tryz.func144 (by kernel_rfl) (by kernel_rfl) (by kernel_rfl) (e := Extern.AbiNoEscape.same) (by kernel_rfl)]
  rw [Lib.run_noEscape]
  simp only [Result.andThen]
  rw [Oper.upon_value]
  go_wp2
  rw [Lib.run_from_unsafe w ⟨b, 0, none⟩ Tryz.underlying176 Tryz.underlying50 hj hsh (by kernel_rfl)]
  simp only [Result.andThen]
  rw [Oper.upon_value]
  go_wp2
  go_end0
  exact ⟨rfl, .inr rfl⟩
 ·go_enter Tryz.func114, Tryz.ntmps114
  go_wp2
  rw [Lib.run_neq_ptr_same w _ Tryz.underlying50 hj]
  go_wp2
  go_end0
  exact ⟨rfl, .inl rfl⟩
theorem copy_ab {S : Mem} {i : Nat} {vs : List V} (hb : S.boxes[i]? = some (.self i 54 :: vs)) (hl : vs.length = 2) : AFn Tryz.prog TabI 114 [.ptr i 0] S (Same (.tup []) S) := by
 refine AFn.of_ptr Tryz.func114 (by kernel_rfl) (by kernel_rfl) fun c w b hi h => ?_
 obtain ⟨cs, T, hh, hsz, hcs⟩ := h.boxCells hi hb
 have h0 := (hcs 0 (by simp)).1
 have hv : VR c w (.self i 54) (cs.getD 0 undef) := (hcs 0 (by simp)).2.1
 obtain ⟨rfl, hp⟩ : T = 54 ∧ (cs.getD 0 undef = .pointer none ∨ cs.getD 0 undef = .pointer (some ⟨b, 0, none⟩)) := by
  generalize cs.getD 0 undef = y at hv
  cases hv with
  | self _ _ b2 _ h1 h2 h3 =>
   rw [hi] at h1
   obtain rfl := Option.some.inj h1
   obtain ⟨cs2, fz, h2⟩ := h2
   rw [hh] at h2
   have := Option.some.inj h2
   simp at this
   exact ⟨this.2.1, h3⟩
 refine (copy_calls b w _ h0 hp (by simp [World.shape?, hh, hsz, hl]) (Lib.frozen_of_heap hh 0)).mono ?_
 rintro e w' ⟨rfl, rfl | rfl⟩
 ·exact ⟨.tup [], _, S, c, rfl, ⟨rfl, rfl⟩, h, .refl _ _, .tup [] #[] rfl (fun j h => absurd h (by simp))⟩
 ·obtain ⟨r1, r2⟩ := h.selfSet hi hb
  exact ⟨.tup [], _, S, c, rfl, ⟨rfl, rfl⟩, r1, r2, .tup [] #[] rfl (fun j h => absurd h (by simp))⟩
set_option maxHeartbeats 1000000 in
theorem string_calls (b g cap cells : Nat) (l : List UInt8) (w : World) (hl : l ≠ []) (c1 : w.drew.cell? ⟨b, 1, none⟩ = some (.slice (some ⟨g, 0, none⟩) l.length cap)) (hcap : cap ≠ 0) (hsh : w.drew.shape? g = some (5, cells)) (hn : l.length ≤ cells) (h63 : l.length ≤ 9223372036854775807)
 (hcell : ∀ j x, l[j]? = some x → w.drew.cell? ((⟨g, 0, none⟩ : Addr).add j) = some (.int .u8 x.toNat)) :
 Calls Tryz.prog 47 #[.pointer (some ⟨b, 0, none⟩)] w fun e w' => e = .returned (.string ⟨l.toArray⟩) ∧ w' = w.drew.freeze ⟨g, 0, none⟩ l.length := by
 have hSD : (Builtin.unsafeSliceData_ #[28] 128 #[.slice (some ⟨g, 0, none⟩) l.length cap]).run Tryz.prog w.drew = .ok (.pointer (some ⟨g, 0, none⟩)) w.drew :=
  Lib.run_unsafeSliceData_row _ _ _ _ _ _ hcap
 have hUS : (Builtin.unsafeString_ #[128, 3] 9 #[.pointer (some ⟨g, 0, none⟩), .int .i64 l.length]).run Tryz.prog w.drew = .ok (.string ⟨l.toArray⟩) (w.drew.freeze ⟨g, 0, none⟩ l.length) :=
  Lib.run_unsafeString_row w.drew 128 3 9 5 Tryz.underlying128 (by kernel_rfl) g cells hsh l hl hn h63 hcell
 go_enter Tryz.func47, Tryz.ntmps47
 go_wp2
 go_region
 all_goals (go_wp2; go_ret; exact ⟨rfl, rfl⟩)
theorem string_ab {B : List (List V)} {i k : Nat} {a : V} {s : List UInt8} {vs : List V} (hb : B[i]? = some (a :: .buf (s.map byteRow) 0 5 :: vs)) (hs : s ≠ []) (hl : s.length ≤ 9223372036854775807) :
 AFn Tryz.prog TabI 47 [.ptr i 0] ⟨B, [(k, 1)]⟩ fun v m => v = .d (.str s) ∧ ∃ k', m = ⟨B, [(k', 1)]⟩ := by
 refine AFn.of_ptr Tryz.func47 (by kernel_rfl) (by kernel_rfl) fun c w b hi h => ?_
 have hd : Below w.heap.size w w.drew := ⟨rfl, rfl, rfl, Nat.le_refl _, fun _ _ => rfl⟩
 obtain ⟨r1, r2⟩ := h.under hd
 obtain ⟨cs, T, hh, hsz, hcs⟩ := r1.boxCells hi hb
 have hv : VR c w.drew (.buf (s.map byteRow) 0 5) (cs.getD 1 undef) := (hcs 1 (by simp)).2.1
 obtain ⟨g, cap, cells, e, hcap, hB, hρ, hsh, hn, ⟨cs2, fz, hh2⟩, hcell⟩ := Rep.bufRead hv hs
 obtain ⟨c', k', q1, q2⟩ := r1.freeze1 hB hρ hh2 s.length (by simpa using hs)
 refine (string_calls b g cap cells s w hs (by rw [← e]; exact (hcs 1 (by simp)).1) hcap hsh hn hl hcell).mono ?_
 rintro e w' ⟨rfl, rfl⟩
 exact ⟨.d (.str s), _, ⟨B, [(k', 1)]⟩, c', rfl, ⟨rfl, k', rfl⟩, q1, r2.trans q2, .d _ _ (.str s hl)⟩
set_option linter.unusedVariables false
set_option linter.defProp false
def c54 := by
 have c := KK_of Tryz.f54 (by conv => lhs; cbv)
 dsimp only [KK, KxP, doO, opO, List.map_cons, List.map_nil, List.toList_toArray] at c
 exact c
theorem b54 : FnIs Tryz.prog 54 Tryz.f54 8 := ⟨Tryz.func54, by kernel_rfl⟩
def c84 := by
 have c := KK_of Tryz.f84 (by conv => lhs; cbv)
 dsimp only [KK, KxP, doO, opO, List.map_cons, List.map_nil, List.toList_toArray] at c
 exact c
theorem b84 : FnIs Tryz.prog 84 Tryz.f84 19 := ⟨Tryz.func84, by kernel_rfl⟩
def c49 := by
 have c := KK_of Tryz.f49 (by conv => lhs; cbv)
 dsimp only [KK, KxP, doO, opO, List.map_cons, List.map_nil, List.toList_toArray] at c
 exact c
theorem b49 : FnIs Tryz.prog 49 Tryz.f49 18 := ⟨Tryz.func49, by kernel_rfl⟩
theorem tyBs : tyOf Tryz.prog 28 = some ⟨.slice 5, 1, 24, false, [.sl [] .full]⟩ := by kernel_rfl
theorem tyB : tyOf Tryz.prog 5 = some ⟨.int .u8, 1, 1, false, [.d (.int .u8 0)]⟩ := by kernel_rfl
theorem tyStr : tyOf Tryz.prog 9 = some ⟨.string, 1, 16, false, [.d (.str [])]⟩ := by kernel_rfl
abbrev mostW : Nat := 1000000000000
theorem lnw : (∀ a b : List UInt8, (a ++ b).length = a.length + b.length) ∧ (∀ (x : UInt8) (a : List UInt8), (x :: a).length = a.length + 1) ∧ ([] : List UInt8).length = 0 := ⟨fun _ _ => List.length_append, fun _ _ => rfl, rfl⟩
def bxW (i t : Nat) (s : List UInt8) (k : Nat) : List V := [.self i 54, .buf (s.map byteRow) t 5, .d (.int .i64 (k : Int))]
theorem fitW {n m i t k : Nat} {s : List UInt8} (hi : i < n) (ht : t < m) : (bxW i t s k).all (fit n m) = true := by simp [bxW, fit, hi, ht]
def PW (f : FuncId) (ar : List V) (u : Nat → List UInt8) : Prop := ∀ (i t : Nat) (s : List UInt8) (k : Nat) (B : List (List V)) (T : List (Nat × Nat)), i < B.length → t < T.length → k ≤ 900 → s.length + (u k).length ≤ mostW →
 AFn Tryz.prog TabI f (.ptr i 0 :: ar) ⟨B.set i (bxW i t s k), T.set t (s.length, 1)⟩ (Same (.tup []) ⟨B.set i (bxW i t (s ++ u k) k), T.set t ((s ++ u k).length, 1)⟩)
section
variable {f : FuncId} {ar : List V} {u : Nat → List UInt8} {i t k : Nat} {s : List UInt8} {B J : List (List V)} {T K : List (Nat × Nat)} {stop : Cont} {q : List Item} {d : Option Tmp} {env : List V}
theorem PW.fn (h : PW f ar u) (hi : i < B.length) (ht : t < T.length) (hk : k ≤ 900) (hb : s.length + (u k).length ≤ mostW) :
 AFn Tryz.prog TabI f (.ptr i 0 :: ar) ⟨B.set i (bxW i t s k) ++ J, T.set t (s.length, 1) ++ K⟩ (Same (.tup []) ⟨B.set i (bxW i t (s ++ u k) k) ++ J, T.set t ((s ++ u k).length, 1) ++ K⟩) := by
 have := h i t s k (B ++ J) (T ++ K) (by simp; omega) (by simp; omega) hk hb
 rw [List.set_append_left _ _ hi, List.set_append_left _ _ hi, List.set_append_left _ _ ht, List.set_append_left _ _ ht] at this
 exact this
theorem PW.callJ (h : PW f ar u) (hi : i < B.length) (ht : t < T.length) (hk : k ≤ 900) (hb : s.length + (u k).length ≤ mostW) (hc : ∀ s', s ++ u k = s' → stop q (setV env d (.tup [])) ⟨B.set i (bxW i t s' k) ++ J, T.set t (s'.length, 1)⟩) :
 callS Tryz.prog TabI stop (.func f [] []) (.ptr i 0 :: ar) q d env ⟨B.set i (bxW i t s k) ++ J, T.set t (s.length, 1)⟩ := by
 have h' := h.fn (J := J) (K := []) hi ht hk hb
 rw [List.append_nil, List.append_nil] at h'
 exact callS_fn h' fun _ _ ⟨e1, e2⟩ => by rw [e1, e2]; exact hc _ rfl
theorem PW.call0 (h : PW f ar u) (hi : i < B.length) (ht : t < T.length) (hk : k ≤ 900) (hb : s.length + (u k).length ≤ mostW) (hc : ∀ s', s ++ u k = s' → stop q (setV env d (.tup [])) ⟨B.set i (bxW i t s' k), T.set t (s'.length, 1)⟩) :
 callS Tryz.prog TabI stop (.func f [] []) (.ptr i 0 :: ar) q d env ⟨B.set i (bxW i t s k), T.set t (s.length, 1)⟩ :=
 callS_fn (h i t s k B T hi ht hk hb) fun _ _ ⟨e1, e2⟩ => by rw [e1, e2]; exact hc _ rfl
theorem PW.cong {u' : Nat → List UInt8} (h : PW f ar u) (e : ∀ k, u k = u' k) : PW f ar u' := by rwa [show u = u' from funext e] at h
end
section
variable {B J : List (List V)} {T K : List (Nat × Nat)} {i t k : Nat} {s s' : List UInt8} {a b : Nat × Nat} {R : V → Mem → Prop} {v : V}
theorem PW.ret (hi : i < B.length) (ht : t < T.length) (h : R (wk (B.set i (bxW i t s k)).length (T.set t a).length v) ⟨B.set i (bxW i t s' k), T.set t b⟩) : Ab.Left ⟨B.set i (bxW i t s k), T.set t a⟩ R v ⟨B.set i (bxW i t s' k) ++ J, T.set t b ++ K⟩ := by
 refine Ab.Left.of (by simp) (by simp) ?_ h
 have := (FitL.refl (B.set i (bxW i t s k)).length (T.set t a).length (B.set i (bxW i t s k))).set i (vs := bxW i t s' k) (fitW (by simpa using hi) (by simpa using ht))
 rwa [List.set_set] at this
theorem PW.retJ (hi : i < B.length) (ht : t < T.length) (h : R (wk (B.set i (bxW i t s k)).length (T.set t a).length v) ⟨B.set i (bxW i t s' k), T.set t b⟩) : Ab.Left ⟨B.set i (bxW i t s k), T.set t a⟩ R v ⟨B.set i (bxW i t s' k) ++ J, T.set t b⟩ := by
 have := PW.ret (J := J) (K := []) hi ht h
 rwa [List.append_nil] at this
theorem PW.ret0 (hi : i < B.length) (ht : t < T.length) (h : R (wk (B.set i (bxW i t s k)).length (T.set t a).length v) ⟨B.set i (bxW i t s' k), T.set t b⟩) : Ab.Left ⟨B.set i (bxW i t s k), T.set t a⟩ R v ⟨B.set i (bxW i t s' k), T.set t b⟩ := by
 have := PW.retJ (J := []) hi ht h
 rwa [List.append_nil] at this
end
theorem len_ab {B : List (List V)} {T : List (Nat × Nat)} {i t k : Nat} {s : List UInt8} (hi : i < B.length) : AFn Tryz.prog TabI 54 [.ptr i 0] ⟨B.set i (bxW i t s k), T⟩ (Same (.d (.int .i64 (s.length : Int))) ⟨B.set i (bxW i t s k), T⟩) := by
 unfold bxW
 refine b54.go 20 rfl fun _ => ?_
 simp only [W, seval, c54, hi]
 refine ARun.ret Tryz.func54 rfl (Left.none ?_)
 exact ⟨rfl, rfl⟩
set_option maxHeartbeats 1000000 in
theorem ws_ab {B : List (List V)} {T : List (Nat × Nat)} {i t k : Nat} {s x : List UInt8} (hi : i < B.length) (ht : t < T.length) (hb : s.length + x.length ≤ mostW) :
 AFn Tryz.prog TabI 84 [.ptr i 0, .d (.str x)] ⟨B.set i (bxW i t s k), T.set t (s.length, 1)⟩ fun _ m => m = ⟨B.set i (bxW i t (s ++ x) k), T.set t ((s ++ x).length, 1)⟩ := by
 refine b84.go 14 rfl fun hsm => ?_
 simp only [smw] at hsm
 simp only [W, seval, c84, hi]
 refine callS_fn (copy_ab (S := ⟨B.set i (bxW i t s k), T.set t (s.length, 1)⟩) (bx_get hi) rfl) ?_
 rintro _ _ ⟨rfl, rfl⟩
 unfold bxW
 refine ARun.go 9 ?_
 simp only [W, seval, c84, hi]
 refine OpR.step (ops := opsOf (kF Tryz.f84 5)) (i := 6) (o := opAt (opsOf (kF Tryz.f84 5)) 6) (by kernel_rfl) (.inl (by kernel_rfl)) (OpR.appBuf (so := .tmp 12) (xo := .tmp 13) (s := x) (by kernel_rfl) tyBs rfl tyB rfl tyStr rfl (by rfl) (by rfl) (by rw [List.length_map]; exact bx_get ht) (by rw [List.length_map]; show (s.length + x.length) * 1 ≤ _; unfold mostW at hb; omega) (by decide)) ?_
 rintro _ _ ⟨rfl, rfl⟩
 have hd14 : (opAt (opsOf (kF Tryz.f84 5)) 6).dst = some 14 := by kernel_rfl
 rw [hd14, List.set_set, ← List.map_append, List.length_map]
 refine ARun.go 30 ?_
 simp only [W, seval, c84, hi]
 refine ARun.ret Tryz.func84 rfl (PW.ret0 hi ht ?_)
 rfl
theorem ss_get (l : List (List UInt8)) (j : Nat) (h : j < l.length) : (ssD l)[j]? = some [.str l[j]] := by simp [ssD, h]
theorem flat_drop {α : Type} (l : List (List α)) (j : Nat) (h : j < l.length) : (l.drop j).flatten = l[j] ++ (l.drop (j + 1)).flatten := by
 rw [List.drop_eq_getElem_cons h, List.flatten_cons]
set_option maxHeartbeats 1000000 in
theorem put_pw (l : List (List UInt8)) (hl : l.length ≤ 10) : PW 49 [.sl (ssD l) .full] fun _ => l.flatten := by
 intro i t s k B T hi ht hk hb
 dsimp only at hb ⊢
 obtain ⟨N, hn⟩ : ∃ N, B.length = N := ⟨_, rfl⟩
 obtain ⟨M, hm⟩ : ∃ M, T.length = M := ⟨_, rfl⟩
 have hiN : i < N := by omega
 obtain ⟨a, ha⟩ : ∃ a, s ++ l.flatten = a := ⟨_, rfl⟩
 have hal := congrArg List.length ha
 rw [List.length_append] at hal
 rw [ha]
 refine b49.go 14 rfl fun hsm => ?_
 simp only [smw] at hsm
 simp only [W, seval, c49, hn, hi, ssD_length]
 refine ARun.loopW (fun p : Nat × List UInt8 => (envS 18 [(0, .ptr i 0), (6, .sl (ssD l) .full), (7, .d (.int .i64 (l.length : Int))), (8, .d (.int .i64 (p.1 : Int)))], ⟨B.set i (bxW i t p.2 k), T.set t (p.2.length, 1)⟩)) (fun p => p.1 ≤ l.length ∧ p.2 ++ (l.drop p.1).flatten = a) (fun p => l.length - p.1) (0, s) ⟨by simp, ha⟩ ?_ rfl ?_
 ·skip
  refine Agree.env _ ?_
  simp only [agw, seval, hn]
 rintro ⟨j, s1⟩ ⟨h1, h2⟩ ih
 dsimp only at h1 h2 ih ⊢
 by_cases hlt : j < l.length
 case neg =>
  have e1 : decide ((j : Int) < (l.length : Int)) = false := decide_eq_false (by omega)
  rw [List.drop_eq_nil_of_le (by omega), List.flatten_nil, List.append_nil] at h2
  subst h2
  refine ARun.go 60 ?_
  simp only [W, seval, c49, e1]
  refine ARun.fin Tryz.func49 rfl (PW.ret0 hi ht ?_)
  exact ⟨rfl, rfl⟩
 have e1 : decide ((j : Int) < (l.length : Int)) = true := decide_eq_true (by omega)
 have hwj := wrap_in ((j : Int) + 1) (by omega)
 have hg := ss_get l j hlt
 rw [flat_drop l j hlt, ← List.append_assoc] at h2
 have h2l := congrArg List.length h2
 simp only [List.length_append] at h2l
 refine ARun.go 60 ?_
 simp only [W, seval, c49, e1, hg, hlt, ssD_length]
 refine callS_of (ws_ab hi ht (by omega)) ?_
 rintro _ _ rfl
 refine ARun.go 60 ?_
 simp only [W, seval, c49, hwj]
 refine ih (j + 1, s1 ++ l[j]) ⟨by dsimp only; omega, h2⟩ (by dsimp only; omega) _ _ ?_ (by simp)
 refine Agree.env _ ?_
 simp only [agw, seval, hn]
end Go.Proofs.YtfaoamebphckbaaGreatDoor
namespace Go.Proofs.YtfaoamebphckbaaGreatDoor
open Go.RowKit Go.Av
abbrev Wd := Nat × List UInt8 × Nat
def okD (l : List UInt8) : Bool :=
 decide (valD (l.takeWhile digitB) ≤ maxU) && !(decide ((l.takeWhile digitB).length < l.length) && letterB (l.getD (l.takeWhile digitB).length 0)) && !(decide (1 < (l.takeWhile digitB).length) && decide (l.getD 0 0 = 48))
def wl (l : List UInt8) : Option Wd :=
 if l = [] then some (0, [], 0)
 else if letterB (l.getD 0 0) = true then some (if reservedS (l.takeWhile wordB) = true then 4 else 1, l.takeWhile wordB, 0)
 else if digitB (l.getD 0 0) = true then (if okD l = true then some (2, l.takeWhile digitB, valD (l.takeWhile digitB)) else none)
 else match signAt l with
  | some s => some (3, s, 0)
  | none => none
def strip (x : WordS) : Wd := (x.kind, x.text, x.int)
structure Ps where
 ws : List WordS
 e : Int
 o : Int
 h : Bool
def Ps.w (s : Ps) : WordS := s.ws.headD .zero
def mu (s : Ps) : Nat := if s.e = 0 then s.ws.length else 0
def failP (s : Ps) (e : Int) : Ps := if s.e = 0 then ⟨s.ws, e, s.o, s.h⟩ else s
def nextP (s : Ps) : Ps := if s.e = 0 then (if (s.ws.tail.headD .zero).kind = 9 then ⟨s.ws, 50, s.o, s.h⟩ else ⟨s.ws.tail, 0, s.o, s.h⟩) else s
def isP (s : Ps) (t : List UInt8) : Bool := decide (s.e = 0) && (decide (s.w.kind = 3) || decide (s.w.kind = 4)) && decide (s.w.text = t)
def opnB (t : List UInt8) : Bool := decide (t = [40]) || decide (t = [91]) || decide (t = [123])
def clsB (t : List UInt8) : Bool := decide (t = [41]) || decide (t = [93]) || decide (t = [125])
def bumpP (s : Ps) (t : List UInt8) : Ps :=
 if opnB t = true then (if 100 < IntKind.i64.wrap (s.o + 1) then failP ⟨s.ws, s.e, IntKind.i64.wrap (s.o + 1), s.h⟩ 51 else ⟨s.ws, s.e, IntKind.i64.wrap (s.o + 1), s.h⟩)
 else if clsB t = true then ⟨s.ws, s.e, IntKind.i64.wrap (s.o - 1), s.h⟩ else s
def gotP (s : Ps) (t : List UInt8) : Bool × Ps := if isP s t = true then (true, nextP (bumpP s t)) else (false, s)
def wantP (s : Ps) (t : List UInt8) : Ps := match gotP s t with
 | (true, s1) => s1
 | (false, s1) => failP s1 51
def nameP (s : Ps) : List UInt8 × Ps := if s.e = 0 ∧ s.w.kind = 1 then (s.w.text, nextP s) else ([], failP s 51)
def numP (s : Ps) : Int × Ps := if s.e = 0 ∧ s.w.kind = 2 then ((s.w.int : Int), nextP s) else (0, failP s 51)
def kindT : List (List UInt8 × Int) := [([98, 111, 111, 108], 1), ([98, 121, 116, 101], 2), ([105, 110, 116, 51, 50], 3), ([105, 110, 116], 4), ([117, 105, 110, 116, 51, 50], 5), ([117, 105, 110, 116, 54, 52], 6)]
def kindS (t : List UInt8) : Int := ((kindT.find? fun x => x.1 == t).map (·.2)).getD 0
def noT : TyT := .mk 0 [] []
abbrev EP := Ps → ExT × Ps
def keyB (s : Ps) : Bool := isP s [116, 114, 117, 101] || isP s [102, 97, 108, 115, 101] || isP s [108, 101, 110] || isP s [97, 112, 112, 101, 110, 100] || (decide (s.w.kind = 4) && decide (1 < kindS s.w.text))
abbrev SP := Ps → StT × Ps
structure Dn (s s' : Ps) : Prop where
 le : mu s' ≤ mu s
 e : ¬ s.e = 0 → s'.e = s.e
 sub : ∀ w ∈ s'.ws, w ∈ s.ws
theorem Dn.refl (s : Ps) : Dn s s := ⟨Nat.le_refl _, fun _ => rfl, fun _ h => h⟩
theorem Dn.trans {a b c : Ps} (h : Dn a b) (k : Dn b c) : Dn a c := ⟨Nat.le_trans k.le h.le, fun he => by
 have h1 := h.e he
 rw [k.e (by rw [h1]; exact he), h1], fun w hw => h.sub w (k.sub w hw)⟩
theorem mu_live {s : Ps} (h : s.e = 0) : mu s = s.ws.length := if_pos h
def DnE {α : Type} (E : Ps → α × Ps) : Prop := ∀ s, Dn s (E s).2
theorem DnE.at {α : Type} {E : Ps → α × Ps} (h : DnE E) {s s1 : Ps} {x : α} (e : E s = (x, s1)) : Dn s s1 := by
 have := h s
 rw [e] at this
 exact this
theorem DnE.of {α : Type} {E : Ps → α × Ps} (h : ∀ {s s1 : Ps} {x : α}, E s = (x, s1) → Dn s s1) : DnE E := fun s => h (x := (E s).1) rfl
def w9 : WordS := ⟨9, [], 0, 0, 0⟩
def wordsF (bs : List UInt8) : Nat → Nat → List WordS
 | 0, _ => [w9]
 | f + 1, i => if (takeS bs i).2 = 0 then (if (takeS bs i).1.kind = 0 then [(takeS bs i).1] else (takeS bs i).1 :: wordsF bs f (takeS bs i).1.next) else [w9]
def wordsAt (bs : List UInt8) (i : Nat) : List WordS := wordsF bs (bs.length + 1) i
def OkP (bs : List UInt8) (s : Ps) : Prop := s.e = 0 → s.w.kind ≤ 4 ∧ s.w.next ≤ bs.length ∧ s.ws = s.w :: (if s.w.kind = 0 then [] else wordsAt bs s.w.next)
set_option linter.unusedSimpArgs false
def wordsT : Nat → List UInt8 → List Wd
 | 0, _ => [(9, [], 0)]
 | f + 1, l => match wl (skipM false l) with
  | none => [(9, [], 0)]
  | some x => if x.1 = 0 then [(0, [], 0)] else x :: wordsT f ((skipM false l).drop x.2.1.length)
def digF : Nat → Nat → List UInt8
 | 0, n => [UInt8.ofNat (48 + n % 10)]
 | f + 1, n => if n < 10 then [UInt8.ofNat (48 + n)] else digF f (n / 10) ++ [UInt8.ofNat (48 + n % 10)]
def comB : Bool → List (List UInt8) → List UInt8
 | _, [] => []
 | b, x :: l => (if b = true then [44, 32] else []) ++ (x ++ comB true l)
def comT (l : List (List UInt8)) : List UInt8 := comB false l
def basT (k : Int) : List UInt8 :=
 if k = 1 then [98, 111, 111, 108] else if k = 2 then [98, 121, 116, 101] else if k = 3 then [105, 110, 116, 51, 50] else if k = 4 then [105, 110, 116] else if k = 5 then [117, 105, 110, 116, 51, 50] else [117, 105, 110, 116, 54, 52]
mutual
def typT : TyT → List UInt8
 | .mk k n es => if k = 7 then n else if k = 8 then [91, 93] ++ typL es else basT k
def typL : List TyT → List UInt8
 | [] => []
 | t :: _ => typT t
end
def parT (b : Bool) (s : List UInt8) : List UInt8 := if b = true then [40] ++ s ++ [41] else s
def tigB (x : ExT) : Bool := decide (x.kind = 4) || decide (x.kind = 5) || decide (x.kind = 6)
def lowB (x : ExT) (r : Int) : Bool := decide (x.kind = 6) && decide (rankS x.text < r)
def kidE (ks : List ExT) (i : Nat) : ExT := ks.getD i (.mk 0 [] 0 (.mk 0 [] []) [] [])
def namT : List (List UInt8) → List (List UInt8) → List (List UInt8)
 | n :: ns, x :: xs => (n ++ [58, 32] ++ x) :: namT ns xs
 | _, _ => []
def exW (k : Int) (t : List UInt8) (i : Int) (ty : TyT) (ns : List (List UInt8)) (ks : List ExT) (ts : List (List UInt8)) : List UInt8 :=
 if k = 1 then t
 else if k = 2 then digF 24 i.toNat
 else if k = 3 then (if i = 1 then [116, 114, 117, 101] else [102, 97, 108, 115, 101])
 else if k = 4 then [33] ++ parT (tigB (kidE ks 0)) (ts.getD 0 [])
 else if k = 5 then [45] ++ parT (tigB (kidE ks 0)) (ts.getD 0 [])
 else if k = 6 then parT (lowB (kidE ks 0) (rankS t)) (ts.getD 0 []) ++ ([32] ++ t ++ [32]) ++ parT (lowB (kidE ks 1) (rankS t + 1)) (ts.getD 1 [])
 else if k = 7 then t ++ [40] ++ comT ts ++ [41]
 else if k = 12 then [108, 101, 110, 40] ++ comT ts ++ [41]
 else if k = 13 then [97, 112, 112, 101, 110, 100, 40] ++ comT ts ++ [41]
 else if k = 9 then parT (tigB (kidE ks 0)) (ts.getD 0 []) ++ ([46] ++ t)
 else if k = 10 then parT (tigB (kidE ks 0)) (ts.getD 0 []) ++ [91] ++ ts.getD 1 [] ++ [93]
 else if k = 11 then parT (tigB (kidE ks 0)) (ts.getD 0 []) ++ [91] ++ ts.getD 1 [] ++ [58] ++ ts.getD 2 [] ++ [93]
 else typT ty ++ (if k = 8 then [40] ++ comT ts ++ [41] else if k = 15 then [123] ++ comT ts ++ [125] else [123] ++ comT (namT ns ts) ++ [125])
mutual
def exT : ExT → List UInt8
 | .mk k t i ty ns ks => exW k t i ty ns ks (exTs ks)
def exTs : List ExT → List (List UInt8)
 | [] => []
 | x :: l => exT x :: exTs l
end
theorem exTs_map : ∀ l : List ExT, exTs l = l.map exT
 | [] => by simp [exTs]
 | x :: l => by simp [exTs, exTs_map l]
def tabT (n : Nat) : List UInt8 := List.replicate n 9
def hedT (n : Nat) (key : List UInt8) (es : List ExT) : List UInt8 := tabT n ++ (key ++ [32]) ++ exT (kidE es 0) ++ [32, 123, 10]
mutual
def stT : Nat → StT → List UInt8
 | n, .mk k ns ty ls es b e cs =>
  if k = 1 then tabT n ++ ([118, 97, 114, 32] ++ ns.getD 0 [] ++ [32]) ++ typT ty ++ [10]
  else if k = 2 then tabT n ++ comT (exTs ls) ++ ([32, 61, 32] ++ comT (exTs es) ++ [10])
  else if k = 6 then tabT n ++ ([114, 101, 116, 117, 114, 110, 32] ++ comT (exTs es) ++ [10])
  else if k = 3 then hedT n [105, 102] es ++ stTs (n + 1) b ++ (if e.isEmpty = true then [] else tabT n ++ [125, 32, 101, 108, 115, 101, 32, 123, 10] ++ stTs (n + 1) e) ++ (tabT n ++ [125, 10])
  else if k = 4 then hedT n [102, 111, 114] es ++ stTs (n + 1) b ++ (tabT n ++ [125, 10])
  else hedT n [115, 119, 105, 116, 99, 104] es ++ caTs n cs ++ (if e.isEmpty = true then [] else tabT n ++ [100, 101, 102, 97, 117, 108, 116, 58, 10] ++ stTs (n + 1) e) ++ (tabT n ++ [125, 10])
def stTs : Nat → List StT → List UInt8
 | _, [] => []
 | n, s :: l => stT n s ++ stTs n l
def caTs : Nat → List CaT → List UInt8
 | _, [] => []
 | n, .mk i b :: l => tabT n ++ ([99, 97, 115, 101, 32] ++ digF 24 i.toNat ++ [58, 10]) ++ stTs (n + 1) b ++ caTs n l
end
def paT (p : PaT) : List UInt8 := p.name ++ [32] ++ typT p.type
def flT : List PaT → List UInt8
 | [] => []
 | p :: l => [9] ++ paT p ++ [10] ++ flT l
def sutT (s : SuT) : List UInt8 := [10, 116, 121, 112, 101, 32] ++ s.name ++ [32, 115, 116, 114, 117, 99, 116, 32, 123, 10] ++ flT s.fields ++ [125, 10]
def suTs : List SuT → List UInt8
 | [] => []
 | s :: l => sutT s ++ suTs l
def fuT (f : FuT) : List UInt8 := [10, 102, 117, 110, 99, 32] ++ f.name ++ [40] ++ comT (f.params.map paT) ++ [41] ++ ([32, 40] ++ comT (f.results.map typT) ++ [41, 32, 123, 10]) ++ stTs 1 f.body ++ [125, 10]
def fuTs : List FuT → List UInt8
 | [] => []
 | f :: l => fuT f ++ fuTs l
def prT' (p : PrT) : List UInt8 := [112, 97, 99, 107, 97, 103, 101, 32, 112, 10] ++ suTs p.structs ++ fuTs p.funcs
theorem works26_text : exT (.mk 6 [42] 0 (.mk 0 [] []) [] [.mk 6 [43] 0 (.mk 0 [] []) [] [.mk 1 [120] 0 (.mk 0 [] []) [] [], .mk 2 [] 1 (.mk 0 [] []) [] []], .mk 5 [] 0 (.mk 0 [] []) [] [.mk 1 [121] 0 (.mk 0 [] []) [] []]]) = [40, 120, 32, 43, 32, 49, 41, 32, 42, 32, 45, 121] := by decide
theorem dig_len : ∀ (f n : Nat), (digF f n).length ≤ f + 1
 | 0, _ => by simp [digF]
 | f + 1, n => by
  unfold digF
  split
  ·simp
  ·have := dig_len f (n / 10)
   simp
   omega
theorem ident_len {s : List UInt8} (h : identS s = true) : s.length ≤ 300 := by
 unfold identS at h
 simp only [Bool.and_eq_true, decide_eq_true_eq] at h
 exact h.1.1.1
theorem bas_len (k : Int) : (basT k).length ≤ 6 := by
 unfold basT
 repeat' split
 all_goals decide
theorem typ_len : ∀ (t : TyT) (d p : Int), (tyS identS t d p).1 = true → ((typT t).length : Int) ≤ 310 * tcS t
 | .mk k n es, d, p, h => by
  unfold tyS at h
  unfold typT tcS
  by_cases hp : partOk d p = false
  ·rw [if_pos hp] at h
   cases h
  rw [if_neg hp] at h
  by_cases h1 : 1 ≤ k ∧ k ≤ 6
  ·rw [if_pos h1] at h
   simp only [Bool.and_eq_true, decide_eq_true_eq] at h
   obtain rfl := List.eq_nil_of_length_eq_zero h.2
   rw [if_neg (by omega), if_neg (by omega)]
   have := bas_len k
   unfold tcsS
   omega
  rw [if_neg h1] at h
  by_cases h7 : k = 7
  ·rw [if_pos h7] at h
   simp only [Bool.and_eq_true, decide_eq_true_eq] at h
   obtain rfl := List.eq_nil_of_length_eq_zero h.2
   rw [if_pos h7]
   have := ident_len h.1
   unfold tcsS
   omega
  rw [if_neg h7] at h
  match es, h with
  | [e], h =>
   dsimp only at h
   by_cases h8 : k = 8 ∧ n = []
   ·rw [if_pos h8] at h
    have := typ_len e _ _ h
    rw [if_neg h7, if_pos h8.1]
    unfold typL tcsS tcsS
    rw [List.length_append]
    show (((2 : Nat) + (typT e).length : Nat) : Int) ≤ _
    omega
   ·rw [if_neg h8] at h
    cases h
  | [], h => cases h
  | _ :: _ :: _, h => cases h
def sumT (m : Nat) : List (List UInt8) → Nat
 | [] => 0
 | x :: l => x.length + m + sumT m l
theorem com_len : ∀ (l : List (List UInt8)) (b : Bool), (comB b l).length ≤ sumT 2 l
 | [], _ => Nat.le_refl _
 | x :: l, b => by
  have := com_len l true
  unfold comB sumT
  cases b
  ·simp
   omega
  ·simp
   omega
theorem sumT_le {m m' : Nat} (h : m ≤ m') : ∀ l : List (List UInt8), sumT m l ≤ sumT m' l
 | [] => Nat.le_refl _
 | x :: l => by
  have := sumT_le h l
  unfold sumT
  omega
theorem get3 : ∀ l : List (List UInt8), (l.getD 0 []).length + (l.getD 1 []).length + (l.getD 2 []).length ≤ sumT 0 l
 | [] => by simp [sumT]
 | [a] => by simp [sumT]
 | [a, b] => by simp [sumT]
 | a :: b :: c :: l => by simp [sumT]; omega
theorem nam_len : ∀ (ns xs : List (List UInt8)), (∀ n ∈ ns, n.length ≤ 300) → sumT 2 (namT ns xs) ≤ sumT 304 xs
 | [], _, _ => by simp [namT, sumT]
 | _ :: _, [], _ => by simp [namT, sumT]
 | n :: ns, x :: xs, h => by
  have h1 := nam_len ns xs fun y hy => h y (List.mem_cons_of_mem _ hy)
  have h2 := h n List.mem_cons_self
  unfold namT sumT
  simp
  omega
theorem diff_len : ∀ (j : Nat) (l : List (List UInt8)), diffS j l = true → ∀ i < j, (l.getD i []).length ≤ 300
 | 0, _, _, i, hi => absurd hi (Nat.not_lt_zero _)
 | j + 1, l, h, i, hi => by
  unfold diffS at h
  simp only [Bool.and_eq_true] at h
  rcases Nat.lt_or_ge i j with h1 | h1
  ·exact diff_len j l h.1.1 i h1
  ·obtain rfl : i = j := by omega
   exact ident_len h.1.2
theorem names_len {l : List (List UInt8)} (h : diffS l.length l = true) : ∀ n ∈ l, n.length ≤ 300 := by
 intro n hn
 obtain ⟨i, hi, rfl⟩ := List.mem_iff_getElem.1 hn
 have := diff_len l.length l h i hi
 simpa [List.getD, hi] using this
theorem par_len (b : Bool) (s : List UInt8) : (parT b s).length ≤ s.length + 2 := by
 unfold parT
 split <;> simp
theorem rank_len {s : List UInt8} (h : 0 < rankS s) : s.length ≤ 2 := by
 rcases rank_in s with ⟨x, hx, rfl⟩ | hn
 ·exact (show ∀ x ∈ rankT, x.1.length ≤ 2 by decide) x hx
 ·unfold rankS at h
  rw [show rankT.find? (fun x => x.1 == s) = none from List.find?_eq_none.2 fun x hx hxs => by
   have := hn x hx
   rw [eq_of_beq hxs] at this
   simp at this] at h
  exact absurd h (by decide)
theorem bare_own {x : ExT} {d p : Int} (h : (bareS x d p).1 = true) : x.text.length ≤ 300 ∧
 ((x.kind = 8 ∨ x.kind = 14 ∨ x.kind = 15) → ∃ d' p', (tyS identS x.type d' p').1 = true) ∧ (x.kind = 14 → diffS x.names.length x.names = true ∧ x.names.length = x.kids.length) := by
 unfold bareS at h
 simp only [Bool.and_eq_true] at h
 obtain ⟨⟨⟨⟨h1, h2⟩, _⟩, _⟩, _⟩ := h
 unfold bareT at h1
 have ht : x.text = [] ∨ (x.kind = 1 ∨ x.kind = 7 ∨ x.kind = 9 ∨ x.kind = 6) := by
  by_cases hk : x.kind = 1 ∨ x.kind = 7 ∨ x.kind = 9 ∨ x.kind = 6
  ·exact .inr hk
  ·rw [if_neg hk] at h2
   left
   simpa using h2
 refine ⟨?_, ?_, ?_⟩
 ·rcases ht with ht | hk
  ·rw [ht]
   simp
  ·rw [if_neg (show ¬ x.kind = 8 by omega), if_neg (show ¬ x.kind = 14 by omega), if_neg (show ¬ x.kind = 15 by omega)] at h1
   by_cases hk2 : x.kind = 1 ∨ x.kind = 7 ∨ x.kind = 9
   ·rw [if_pos hk2] at h1
    exact ident_len h1
   ·rw [if_neg hk2, if_pos (show x.kind = 6 by omega)] at h1
    have := rank_len (of_decide_eq_true h1)
    omega
 ·intro hk
  by_cases h8 : x.kind = 8
  ·rw [if_pos h8] at h1
   by_cases hq : 2 ≤ x.type.kind ∧ x.type.kind ≤ 6
   ·rw [if_pos hq] at h1
    exact ⟨_, _, h1⟩
   ·rw [if_neg hq] at h1
    cases h1
  rw [if_neg h8] at h1
  by_cases h14 : x.kind = 14
  ·rw [if_pos h14] at h1
   by_cases hq : x.type.kind = 7
   ·rw [if_pos hq] at h1
    by_cases ht2 : (tyS identS x.type (d + 1) p).1 = true
    ·exact ⟨_, _, ht2⟩
    ·rw [if_neg ht2] at h1
     cases h1
   ·rw [if_neg hq] at h1
    cases h1
  rw [if_neg h14, if_pos (show x.kind = 15 by omega)] at h1
  by_cases hq : x.type.kind = 8
  ·rw [if_pos hq] at h1
   exact ⟨_, _, h1⟩
  ·rw [if_neg hq] at h1
   cases h1
 ·intro h14
  rw [if_neg (show ¬ x.kind = 8 by omega), if_pos h14] at h1
  by_cases hq : x.type.kind = 7
  ·rw [if_pos hq] at h1
   by_cases ht2 : (tyS identS x.type (d + 1) p).1 = true
   ·rw [if_pos ht2] at h1
    simp only [Bool.and_eq_true, decide_eq_true_eq] at h1
    exact ⟨h1.2, h1.1⟩
   ·rw [if_neg ht2] at h1
    cases h1
  ·rw [if_neg hq] at h1
   cases h1
mutual
theorem tc_pos : ∀ t : TyT, 1 ≤ tcS t
 | .mk _ _ es => by
  have := tcs_pos es
  unfold tcS
  omega
theorem tcs_pos : ∀ l : List TyT, 0 ≤ tcsS l
 | [] => by unfold tcsS; omega
 | t :: l => by
  have h1 := tc_pos t
  have h2 := tcs_pos l
  unfold tcsS
  omega
end
theorem exB_len {k : Int} {t : List UInt8} {i : Int} {ty : TyT} {ns : List (List UInt8)} {ks : List ExT} {ts : List (List UInt8)} (ht : t.length ≤ 300) (hn : k = 14 → ∀ n ∈ ns, n.length ≤ 300) (m : Nat) (hy : k = 8 ∨ k = 14 ∨ k = 15 → (typT ty).length ≤ m) (hk : (1 ≤ k ∧ k ≤ 15)) :
 (exW k t i ty ns ks ts).length ≤ 330 + m + sumT 304 ts := by
 have h3 := get3 ts
 have h4 := sumT_le (show 0 ≤ 304 by omega) ts
 have h5 := sumT_le (show 2 ≤ 304 by omega) ts
 have hc := com_len ts false
 have p0 := par_len (tigB (kidE ks 0)) (ts.getD 0 [])
 have p1 := par_len (lowB (kidE ks 0) (rankS t)) (ts.getD 0 [])
 have p2 := par_len (lowB (kidE ks 1) (rankS t + 1)) (ts.getD 1 [])
 have hd := dig_len 24 i.toNat
 unfold exW
 by_cases c1 : k = 1
 ·rw [if_pos c1]; omega
 rw [if_neg c1]
 by_cases c2 : k = 2
 ·rw [if_pos c2]; omega
 rw [if_neg c2]
 by_cases c3 : k = 3
 ·rw [if_pos c3]
  split <;> simp <;> omega
 rw [if_neg c3]
 by_cases c4 : k = 4
 ·rw [if_pos c4, List.length_append]
  show 1 + _ ≤ _
  omega
 rw [if_neg c4]
 by_cases c5 : k = 5
 ·rw [if_pos c5, List.length_append]
  show 1 + _ ≤ _
  omega
 rw [if_neg c5]
 by_cases c6 : k = 6
 ·rw [if_pos c6]
  simp only [List.length_append, List.length_cons, List.length_nil]
  omega
 rw [if_neg c6]
 by_cases c7 : k = 7
 ·rw [if_pos c7]
  unfold comT
  simp only [List.length_append, List.length_cons, List.length_nil]
  omega
 rw [if_neg c7]
 by_cases c12 : k = 12
 ·rw [if_pos c12]
  unfold comT
  simp only [List.length_append, List.length_cons, List.length_nil]
  omega
 rw [if_neg c12]
 by_cases c13 : k = 13
 ·rw [if_pos c13]
  unfold comT
  simp only [List.length_append, List.length_cons, List.length_nil]
  omega
 rw [if_neg c13]
 by_cases c9 : k = 9
 ·rw [if_pos c9]
  simp only [List.length_append, List.length_cons, List.length_nil]
  omega
 rw [if_neg c9]
 by_cases c10 : k = 10
 ·rw [if_pos c10]
  simp only [List.length_append, List.length_cons, List.length_nil]
  omega
 rw [if_neg c10]
 by_cases c11 : k = 11
 ·rw [if_pos c11]
  simp only [List.length_append, List.length_cons, List.length_nil]
  omega
 rw [if_neg c11]
 have hy := hy (by omega)
 rw [List.length_append]
 by_cases c8 : k = 8
 ·rw [if_pos c8]
  unfold comT
  simp only [List.length_append, List.length_cons, List.length_nil]
  omega
 rw [if_neg c8]
 by_cases c15 : k = 15
 ·rw [if_pos c15]
  unfold comT
  simp only [List.length_append, List.length_cons, List.length_nil]
  omega
 rw [if_neg c15]
 have hq := nam_len ns ts (hn (by omega))
 have hq2 := com_len (namT ns ts) false
 unfold comT
 simp only [List.length_append, List.length_cons, List.length_nil]
 omega
mutual
theorem ex_len : ∀ (x : ExT) (d p : Int), (exS x d p).1 = true → ((exT x).length : Int) + 304 ≤ 700 * ecS x
 | .mk k t i ty ns ks, d, p, h => by
  unfold exS at h
  by_cases hp : partOk d p = false
  ·rw [if_pos hp] at h; cases h
  rw [if_neg hp] at h
  by_cases h1 : mostS k < (ks.length : Int) ∨ manyS k = -2 ∨ (0 ≤ manyS k ∧ (ks.length : Int) ≠ manyS k)
  ·rw [if_pos h1] at h; cases h
  rw [if_neg h1] at h
  by_cases h2 : (bareS (.mk k t i ty ns ks) d (p + 1)).1 = false
  ·rw [if_pos h2] at h; cases h
  rw [if_neg h2] at h
  have hb := bare_own (by simpa using h2 : (bareS (.mk k t i ty ns ks) d (p + 1)).1 = true)
  have hs := exs_len ks _ _ h
  have hk : 1 ≤ k ∧ k ≤ 15 := by
   have : ¬ manyS k = -2 := fun e => h1 (.inr (.inl e))
   unfold manyS at this
   by_cases hk : 1 ≤ k ∧ k ≤ 15
   ·exact hk
   ·exfalso
    revert this
    simp_all
    omega
  have htc := tc_pos ty
  unfold exT ecS
  obtain ⟨b1, b2, b3⟩ := hb
  simp only [ExT.kind, ExT.text, ExT.int, ExT.type, ExT.names, ExT.kids] at b1 b2 b3
  by_cases hy : k = 8 ∨ k = 14 ∨ k = 15
  ·obtain ⟨d', p', ht⟩ := b2 hy
   have hl := typ_len ty d' p' ht
   have hz := (tyS_cnt identS ty d' p' ht).2
   rw [hz, if_neg (by simp)]
   have := exB_len (k := k) (t := t) (i := i) (ty := ty) (ns := ns) (ks := ks) (ts := exTs ks) b1 (fun h14 => names_len (b3 h14).1) (typT ty).length (fun _ => Nat.le_refl _) hk
   omega
  ·have := exB_len (k := k) (t := t) (i := i) (ty := ty) (ns := ns) (ks := ks) (ts := exTs ks) b1 (fun h14 => names_len (b3 h14).1) 0 (fun h => absurd h hy) hk
   split <;> omega
theorem exs_len : ∀ (l : List ExT) (d p : Int), (exsS l d p).1 = true → (sumT 304 (exTs l) : Int) ≤ 700 * ecsS l
 | [], _, _, _ => by unfold exTs sumT ecsS; omega
 | x :: l, d, p, h => by
  unfold exsS at h
  by_cases h1 : (exS x d p).1 = false
  ·rw [if_pos h1] at h; cases h
  rw [if_neg h1] at h
  have hx := ex_len x d p (by simpa using h1)
  have hl := exs_len l _ _ h
  unfold exTs sumT ecsS
  omega
end
def stopB : List UInt8 → Bool
 | [] => true
 | c :: _ => !wordB c
inductive OkT : TyT → Prop
 | bas (k : Int) : 1 ≤ k → k ≤ 6 → OkT (.mk k [] [])
 | nam (n : List UInt8) : identS n = true → OkT (.mk 7 n [])
 | sli (t : TyT) : OkT t → OkT (.mk 8 [] [t])
theorem ok_type : ∀ (t : TyT) (d p : Int), (tyS identS t d p).1 = true → OkT t
 | .mk k n es, d, p, h => by
  unfold tyS at h
  by_cases hp : partOk d p = false
  ·rw [if_pos hp] at h; cases h
  rw [if_neg hp] at h
  by_cases h1 : 1 ≤ k ∧ k ≤ 6
  ·rw [if_pos h1] at h
   simp only [Bool.and_eq_true, decide_eq_true_eq] at h
   obtain rfl := List.eq_nil_of_length_eq_zero h.2
   obtain rfl := h.1
   exact .bas k h1.1 h1.2
  rw [if_neg h1] at h
  by_cases h7 : k = 7
  ·subst h7
   rw [if_pos rfl] at h
   simp only [Bool.and_eq_true, decide_eq_true_eq] at h
   obtain rfl := List.eq_nil_of_length_eq_zero h.2
   exact .nam n h.1
  rw [if_neg h7] at h
  match es, h with
  | [e], h =>
   dsimp only at h
   by_cases h8 : k = 8 ∧ n = []
   ·rw [if_pos h8] at h
    have ih := ok_type e _ _ h
    obtain ⟨rfl, rfl⟩ := h8
    exact .sli e ih
   ·rw [if_neg h8] at h; cases h
  | [], h => cases h
  | _ :: _ :: _, h => cases h
mutual
def numE : ExT → Prop
 | .mk _ _ i _ _ ks => (0 ≤ i ∧ i ≤ 18446744073709551615) ∧ numEs ks
def numEs : List ExT → Prop
 | [] => True
 | x :: l => numE x ∧ numEs l
end
inductive OkE : Int → ExT → Prop
 | nam (d : Int) (t : List UInt8) : d ≤ 60 → identS t = true → OkE d (.mk 1 t 0 noT [] [])
 | num (d i : Int) : d ≤ 60 → 0 ≤ i → i ≤ 18446744073709551615 → OkE d (.mk 2 [] i noT [] [])
 | tru (d i : Int) : d ≤ 60 → 0 ≤ i → i ≤ 1 → OkE d (.mk 3 [] i noT [] [])
 | sgn (d k : Int) (y : ExT) : d ≤ 60 → k = 4 ∨ k = 5 → OkE (d + 1) y → OkE d (.mk k [] 0 noT [] [y])
 | bin (d : Int) (t : List UInt8) (y z : ExT) : d ≤ 60 → 0 < rankS t → OkE (d + 1) y → OkE (d + 1) z → OkE d (.mk 6 t 0 noT [] [y, z])
 | cal (d : Int) (t : List UInt8) (ks : List ExT) : d ≤ 60 → identS t = true → (∀ x ∈ ks, OkE (d + 1) x) → OkE d (.mk 7 t 0 noT [] ks)
 | con (d k : Int) (y : ExT) : d ≤ 60 → 2 ≤ k → k ≤ 6 → OkE (d + 1) y → OkE d (.mk 8 [] 0 (.mk k [] []) [] [y])
 | fld (d : Int) (t : List UInt8) (y : ExT) : d ≤ 60 → identS t = true → OkE (d + 1) y → OkE d (.mk 9 t 0 noT [] [y])
 | idx (d : Int) (y z : ExT) : d ≤ 60 → OkE (d + 1) y → OkE (d + 1) z → OkE d (.mk 10 [] 0 noT [] [y, z])
 | cut (d : Int) (y z u : ExT) : d ≤ 60 → OkE (d + 1) y → OkE (d + 1) z → OkE (d + 1) u → OkE d (.mk 11 [] 0 noT [] [y, z, u])
 | len (d : Int) (y : ExT) : d ≤ 60 → OkE (d + 1) y → OkE d (.mk 12 [] 0 noT [] [y])
 | app (d : Int) (y z : ExT) : d ≤ 60 → OkE (d + 1) y → OkE (d + 1) z → OkE d (.mk 13 [] 0 noT [] [y, z])
 | str (d : Int) (n : List UInt8) (ns : List (List UInt8)) (ks : List ExT) : d ≤ 60 → identS n = true → ns.length = ks.length → (∀ m ∈ ns, identS m = true) → (∀ x ∈ ks, OkE (d + 1) x) → OkE d (.mk 14 [] 0 (.mk 7 n []) ns ks)
 | lis (d : Int) (t : TyT) (ks : List ExT) : d ≤ 60 → OkT t → (∀ x ∈ ks, OkE (d + 1) x) → OkE d (.mk 15 [] 0 (.mk 8 [] [t]) [] ks)
theorem names_ident {l : List (List UInt8)} (h : diffS l.length l = true) : ∀ n ∈ l, identS n = true := by
 have hd : ∀ (j : Nat) (l : List (List UInt8)), diffS j l = true → ∀ i < j, identS (l.getD i []) = true := by
  intro j
  induction j with
  | zero => exact fun _ _ i hi => absurd hi (Nat.not_lt_zero _)
  | succ j ih =>
   intro l h i hi
   unfold diffS at h
   simp only [Bool.and_eq_true] at h
   rcases Nat.lt_or_ge i j with h1 | h1
   ·exact ih l h.1.1 i h1
   ·obtain rfl : i = j := by omega
    exact h.1.2
 intro n hn
 obtain ⟨i, hi, rfl⟩ := List.mem_iff_getElem.1 hn
 have := hd l.length l h i hi
 simpa [List.getD, hi] using this
theorem zero_noT {t : TyT} (h : zeroS t = true) : t = noT := by
 obtain ⟨k, n, es⟩ := t
 unfold zeroS at h
 simp only [Bool.and_eq_true] at h
 obtain ⟨⟨h1, h2⟩, h3⟩ := h
 obtain rfl : k = 0 := of_decide_eq_true h1
 obtain rfl : n = [] := of_decide_eq_true h2
 obtain rfl := List.eq_nil_of_length_eq_zero (show es.length = 0 from of_decide_eq_true h3)
 rfl
theorem bare_all {x : ExT} {d p : Int} (h : (bareS x d p).1 = true) : (bareT x d p).1 = true ∧ (¬ (x.kind = 1 ∨ x.kind = 7 ∨ x.kind = 9 ∨ x.kind = 6) → x.text = []) ∧ (¬ (x.kind = 2 ∨ x.kind = 3) → x.int = 0) ∧
 (¬ (x.kind = 8 ∨ x.kind = 14 ∨ x.kind = 15) → x.type = noT) ∧ (¬ x.kind = 14 → x.names = []) := by
 unfold bareS at h
 simp only [Bool.and_eq_true] at h
 obtain ⟨⟨⟨⟨h1, h2⟩, h3⟩, h4⟩, h5⟩ := h
 refine ⟨h1, fun hk => ?_, fun hk => ?_, fun hk => ?_, fun hk => ?_⟩
 ·rw [if_neg hk] at h2
  simpa using h2
 ·rw [if_neg hk] at h3
  simpa using h3
 ·rw [if_neg hk] at h4
  exact zero_noT (by simpa using h4)
 ·rw [if_neg hk] at h5
  simpa using h5
theorem ok_make {k : Int} {t : List UInt8} {i : Int} {ty : TyT} {ns : List (List UInt8)} {ks : List ExT} {d p : Int} (hd : d ≤ 60) (hm : ¬ (mostS k < (ks.length : Int) ∨ manyS k = -2 ∨ (0 ≤ manyS k ∧ (ks.length : Int) ≠ manyS k)))
 (hb : (bareS (.mk k t i ty ns ks) d p).1 = true) (hi : 0 ≤ i ∧ i ≤ 18446744073709551615) (hks : ∀ x ∈ ks, OkE (d + 1) x) : OkE d (.mk k t i ty ns ks) := by
 obtain ⟨b1, b2, b3, b4, b5⟩ := bare_all hb
 change ¬ (k = 1 ∨ k = 7 ∨ k = 9 ∨ k = 6) → t = [] at b2
 change ¬ (k = 2 ∨ k = 3) → i = 0 at b3
 change ¬ (k = 8 ∨ k = 14 ∨ k = 15) → ty = noT at b4
 change ¬ k = 14 → ns = [] at b5
 have c1 : (if k = 8 then (if 2 ≤ ty.kind ∧ ty.kind ≤ 6 then tyS identS ty (d + 1) p else (false, p))
  else if k = 14 then (if ty.kind = 7 then (if (tyS identS ty (d + 1) p).1 = true then (decide (ns.length = ks.length) && diffS ns.length ns, (tyS identS ty (d + 1) p).2) else (false, (tyS identS ty (d + 1) p).2)) else (false, p))
  else if k = 15 then (if ty.kind = 8 then tyS identS ty (d + 1) p else (false, p))
  else (if k = 1 ∨ k = 7 ∨ k = 9 then identS t else if k = 6 then decide (0 < rankS t) else if k = 3 then decide (i ≤ 1) else true, p)).1 = true := b1
 clear b1
 have hlen : 0 ≤ manyS k → (ks.length : Int) = manyS k := fun h => by
  by_cases e : (ks.length : Int) = manyS k
  ·exact e
  ·exact absurd (.inr (.inr ⟨h, e⟩)) hm
 have hne : ¬ manyS k = -2 := fun e => hm (.inr (.inl e))
 unfold manyS at hlen hne
 by_cases k8 : k = 8
 ·subst k8
  rw [if_pos rfl] at c1
  obtain rfl := b2 (by omega)
  obtain rfl := b3 (by omega)
  obtain rfl := b5 (by omega)
  have hl := hlen (by decide)
  by_cases hq : 2 ≤ ty.kind ∧ ty.kind ≤ 6
  ·rw [if_pos hq] at c1
   have := ok_type ty _ _ c1
   match ks, hl with
   | [y], _ =>
    cases this with
    | bas k' _ _ => exact .con d k' y hd hq.1 hq.2 (hks y (by simp))
    | nam _ _ => exact absurd hq.2 (by simp [TyT.kind])
    | sli _ _ => exact absurd hq.2 (by simp [TyT.kind])
   | [], h => exact absurd h (by decide)
   | _ :: _ :: _, h => simp at h; omega
  ·rw [if_neg hq] at c1; cases c1
 rw [if_neg k8] at c1
 by_cases k14 : k = 14
 ·subst k14
  rw [if_pos rfl] at c1
  obtain rfl := b2 (by omega)
  obtain rfl := b3 (by omega)
  by_cases hq : ty.kind = 7
  ·rw [if_pos hq] at c1
   by_cases ht : (tyS identS ty (d + 1) p).1 = true
   ·rw [if_pos ht] at c1
    simp only [Bool.and_eq_true, decide_eq_true_eq] at c1
    have := ok_type ty _ _ ht
    cases this with
    | bas k' h1 h2 => have : k' = 7 := hq; omega
    | nam n hn => exact .str d n ns ks hd hn c1.1 (names_ident c1.2) hks
    | sli _ _ => exact absurd hq (by simp [TyT.kind])
   ·rw [if_neg ht] at c1; cases c1
  ·rw [if_neg hq] at c1; cases c1
 rw [if_neg k14] at c1
 obtain rfl := b5 k14
 by_cases k15 : k = 15
 ·subst k15
  rw [if_pos rfl] at c1
  obtain rfl := b2 (by omega)
  obtain rfl := b3 (by omega)
  by_cases hq : ty.kind = 8
  ·rw [if_pos hq] at c1
   have := ok_type ty _ _ c1
   cases this with
   | bas k' h1 h2 => have : k' = 8 := hq; omega
   | nam n hn => exact absurd hq (by simp [TyT.kind])
   | sli t ht => exact .lis d t ks hd ht hks
  ·rw [if_neg hq] at c1; cases c1
 rw [if_neg k15] at c1
 obtain rfl := b4 (by omega)
 dsimp only at c1
 by_cases k1 : k = 1
 ·subst k1
  obtain rfl := b3 (by omega)
  obtain rfl := List.eq_nil_of_length_eq_zero (Int.ofNat_inj.1 (hlen (by decide)))
  exact .nam d t hd c1
 by_cases k7 : k = 7
 ·subst k7
  obtain rfl := b3 (by omega)
  exact .cal d t ks hd c1 hks
 by_cases k9 : k = 9
 ·subst k9
  obtain rfl := b3 (by omega)
  have hl := hlen (by decide)
  match ks, hl with
  | [y], _ => exact .fld d t y hd c1 (hks y (by simp))
  | [], h => exact absurd h (by decide)
  | _ :: _ :: _, h => simp at h; omega
 by_cases k6 : k = 6
 ·subst k6
  obtain rfl := b3 (by omega)
  have hl := hlen (by decide)
  match ks, hl with
  | [y, z], _ => exact .bin d t y z hd (of_decide_eq_true c1) (hks y (by simp)) (hks z (by simp))
  | [], h => exact absurd h (by decide)
  | [_], h => simp at h
  | _ :: _ :: _ :: _, h => simp at h; omega
 obtain rfl := b2 (by omega)
 by_cases k2 : k = 2
 ·subst k2
  obtain rfl := List.eq_nil_of_length_eq_zero (Int.ofNat_inj.1 (hlen (by decide)))
  exact .num d i hd hi.1 hi.2
 by_cases k3 : k = 3
 ·subst k3
  obtain rfl := List.eq_nil_of_length_eq_zero (Int.ofNat_inj.1 (hlen (by decide)))
  exact .tru d i hd hi.1 (of_decide_eq_true c1)
 obtain rfl := b3 (by omega)
 by_cases k45 : k = 4 ∨ k = 5
 ·have hl : (ks.length : Int) = 1 := by
   have := hlen
   rcases k45 with rfl | rfl <;> exact this (by decide)
  match ks, hl with
  | [y], _ => exact .sgn d k y hd k45 (hks y (by simp))
  | [], h => exact absurd h (by decide)
  | _ :: _ :: _, h => simp at h; omega
 by_cases k12 : k = 12
 ·subst k12
  have hl := hlen (by decide)
  match ks, hl with
  | [y], _ => exact .len d y hd (hks y (by simp))
  | [], h => exact absurd h (by decide)
  | _ :: _ :: _, h => simp at h; omega
 by_cases k10 : k = 10
 ·subst k10
  have hl := hlen (by decide)
  match ks, hl with
  | [y, z], _ => exact .idx d y z hd (hks y (by simp)) (hks z (by simp))
  | [], h => exact absurd h (by decide)
  | [_], h => simp at h
  | _ :: _ :: _ :: _, h => simp at h; omega
 by_cases k13 : k = 13
 ·subst k13
  have hl := hlen (by decide)
  match ks, hl with
  | [y, z], _ => exact .app d y z hd (hks y (by simp)) (hks z (by simp))
  | [], h => exact absurd h (by decide)
  | [_], h => simp at h
  | _ :: _ :: _ :: _, h => simp at h; omega
 by_cases k11 : k = 11
 ·subst k11
  have hl := hlen (by decide)
  match ks, hl with
  | [y, z, u], _ => exact .cut d y z u hd (hks y (by simp)) (hks z (by simp)) (hks u (by simp))
  | [], h => exact absurd h (by decide)
  | [_], h => simp at h
  | [_, _], h => simp at h
  | _ :: _ :: _ :: _ :: _, h => simp at h; omega
 ·exfalso
  apply hne
  rw [if_neg (by omega), if_neg (by omega), if_neg (by omega), if_neg (by omega), if_neg (by omega)]
mutual
theorem ok_expr : ∀ (x : ExT) (d p : Int), (exS x d p).1 = true → numE x → OkE d x
 | .mk k t i ty ns ks, d, p, h, hn => by
  unfold exS at h
  unfold numE at hn
  by_cases hp : partOk d p = false
  ·rw [if_pos hp] at h; cases h
  have hp2 : partOk d p = true := by simpa using hp
  rw [if_neg hp] at h
  by_cases h1 : mostS k < (ks.length : Int) ∨ manyS k = -2 ∨ (0 ≤ manyS k ∧ (ks.length : Int) ≠ manyS k)
  ·rw [if_pos h1] at h; cases h
  rw [if_neg h1] at h
  by_cases h2 : (bareS (.mk k t i ty ns ks) d (p + 1)).1 = false
  ·rw [if_pos h2] at h; cases h
  rw [if_neg h2] at h
  unfold partOk at hp2
  rw [Bool.and_eq_true, decide_eq_true_iff, decide_eq_true_iff] at hp2
  exact ok_make hp2.2 h1 (by simpa using h2) hn.1 (ok_exprs ks _ _ h hn.2)
theorem ok_exprs : ∀ (l : List ExT) (d p : Int), (exsS l d p).1 = true → numEs l → ∀ x ∈ l, OkE d x
 | [], _, _, _, _, x, hx => absurd hx List.not_mem_nil
 | y :: l, d, p, h, hn, x, hx => by
  unfold exsS at h
  unfold numEs at hn
  by_cases h1 : (exS y d p).1 = false
  ·rw [if_pos h1] at h; cases h
  rw [if_neg h1] at h
  rcases List.mem_cons.1 hx with e | hx
  ·rw [e]
   exact ok_expr y d p (by simpa using h1) hn.1
  ·exact ok_exprs l _ _ h hn.2 x hx
end
end Go.Proofs.YtfaoamebphckbaaGreatDoor
namespace Go.Ab
open Go.RowKit Go.Av
abbrev EvT := FuncId → List Item → List V → Mem → Option (V × Mem)
def evRes (P : Program) (fn : FuncId) (env : List V) (S : Mem) : Option (V × Mem) :=
 match P.funcs[fn]? with
 | some f => match resV P S env f.results.toList with
  | some v => some (v, S)
  | none => none
 | none => none
def evBack (S : Mem) (v : V) (S' : Mem) : V × Mem :=
 match fit S.boxes.length S'.toks.length v && (S'.boxes.take S.boxes.length).all (fun vs => vs.all (fit S.boxes.length S.toks.length)) && Nat.ble S.boxes.length S'.boxes.length && Nat.ble S.toks.length S'.toks.length with
 | true => (wk S.boxes.length S.toks.length v, ⟨S'.boxes.take S.boxes.length, S'.toks.take S.toks.length⟩)
 | false => (v, S')
def evIn (run : EvT) (g : FuncId) (body : Code) (init : List V) (S : Mem) : Option (V × Mem) :=
 match run g [.code body] init S with
 | some (v, S') => some (evBack S v S')
 | none => none
def evData (P : Program) (orc : FuncId → List V → Option V) (run : EvT) (g : FuncId) (args : List V) : Option V :=
 match P.funcs[g]? with
 | some f => match f.body with
  | some body => match orc g args with
   | some v => some (wk 0 0 v)
   | none => match run g [.code body] (args ++ List.replicate (f.ntmps - args.length) .undef) ⟨[], []⟩ with
    | some (v, S0) => match fit 0 S0.toks.length v with
     | true => some (wk 0 0 v)
     | false => none
    | none => none
  | none => none
 | none => none
def evAny (P : Program) (run : EvT) (g : FuncId) (args : List V) (S : Mem) : Option (V × Mem) :=
 match P.funcs[g]? with
 | some f => match f.body with
  | some body => evIn run g body (args ++ List.replicate (f.ntmps - args.length) .undef) S
  | none => none
 | none => none
def evFn (P : Program) (orc : FuncId → List V → Option V) (run : EvT) (g : FuncId) (args : List V) (S : Mem) : Option (V × Mem) :=
 match fitL 0 0 args with
 | true => match evData P orc run g (wkL 0 0 args) with
  | some v => some (v, S)
  | none => evAny P run g args S
 | false => evAny P run g args S
def evBind (run : EvT) (fn : FuncId) (r : Option (V × Mem)) (k : List Item) (d : Option Tmp) (env : List V) : Option (V × Mem) :=
 match r with
 | some (v, S) => run fn k (setV env d v) S
 | none => none
def evTok (P : Program) (env : List V) (S : Mem) (s : Operand) (t : TypeId) : List V × Mem :=
 match s with
 | .tmp q => match env.getD q .undef with
  | .sl rows .full => match tyOf P t with
   | some ti => match ti.d with
    | .slice e => match tyOf P e with
     | some te => match decide (0 < te.size) && rowsSz te.size rows with
      | true => (env.set q (.sl rows (.own S.toks.length)), { S with toks := S.toks ++ [(rows.length, te.size)] })
      | false => (env, S)
     | none => (env, S)
    | _ => (env, S)
   | none => (env, S)
  | _ => (env, S)
 | _ => (env, S)
def evOp (P : Program) (I : Inv) (orc : FuncId → List V → Option V) (run : EvT) (fn : FuncId) (ops : Array Oper) (rest : List Nat) (o : Oper) (k : List Item) (env : List V) (S : Mem) : Option (V × Mem) :=
 match o.op with
 | .call q => match q.callee with
  | .value f => match evalV I env f with
   | .func g first caps => evBind run fn (evFn P orc run g (first ++ q.args.toList.map (evalV I env) ++ caps) S) (.inRegion ops rest :: k) o.dst env
   | _ => none
  | .builtin .append => match q.args.toList, q.argTypes.toList with
   | [s, _], [t, _] => match evTok P env S s t with
    | (env', S') => evBind run fn (opCall P (evalV I env') S' q) (.inRegion ops rest :: k) o.dst env'
   | _, _ => none
  | _ => evBind run fn (opCall P (evalV I env) S q) (.inRegion ops rest :: k) o.dst env
 | op => evBind run fn (op1 P (evalV I env) S op) (.inRegion ops rest :: k) o.dst env
def evReg (P : Program) (I : Inv) (orc : FuncId → List V → Option V) (run : EvT) (fn : FuncId) (ops : Array Oper) (i : Nat) (rest : List Nat) (k : List Item) (env : List V) (S : Mem) : Option (V × Mem) :=
 match ops[i]? with
 | some o => match o.guard with
  | none => evOp P I orc run fn ops rest o k env S
  | some (j, want) => match guardV env ops j with
   | .d (.bool t) => match t == want with
    | true => evOp P I orc run fn ops rest o k env S
    | false => run fn (.inRegion ops rest :: k) (setV env o.dst (.tup [])) S
   | .tup [] => run fn (.inRegion ops rest :: k) (setV env o.dst (.tup [])) S
   | _ => none
 | none => none
def quietOp : Op → Bool
 | .move _ => true
 | .assign _ => true
 | .pick .. => true
 | .build .. => true
 | .load .. => true
 | .nilCheck _ => true
 | .binOp .. => true
 | .unOp .. => true
 | .makeFunc .. => true
 | .slice .. => true
 | .fieldAddr .. => true
 | .indexAddr .. => true
 | .index .. => true
 | .extract .. => true
 | _ => false
def evFst (r : Option (V × Mem)) : Option V :=
 match r with
 | some (v, _) => some v
 | none => none
def evQOp (P : Program) (I : Inv) (orc : FuncId → List V → Option V) (run : EvT) (o : Oper) (env : List V) (S : Mem) : Option V :=
 match o.op with
 | .call q => match q.callee with
  | .value f => match evalV I env f with
   | .func g first caps => match fitL 0 0 (first ++ q.args.toList.map (evalV I env) ++ caps) with
    | true => evData P orc run g (wkL 0 0 (first ++ q.args.toList.map (evalV I env) ++ caps))
    | false => none
   | _ => none
  | .builtin .len => evFst (opCall P (evalV I env) S q)
  | _ => none
 | op => match quietOp op with
  | true => evFst (op1 P (evalV I env) S op)
  | false => none
def evLex (P : Program) (I : Inv) (orc : FuncId → List V → Option V) (run : EvT) (ops : Array Oper) (S : Mem) : List Oper → List V → Option (List V)
 | [], env => some env
 | o :: l, env => match o.guard with
  | none => match evQOp P I orc run o env S with
   | some v => evLex P I orc run ops S l (setV env o.dst v)
   | none => none
  | some (j, want) => match guardV env ops j with
   | .d (.bool t) => match t == want with
    | true => match evQOp P I orc run o env S with
     | some v => evLex P I orc run ops S l (setV env o.dst v)
     | none => none
    | false => evLex P I orc run ops S l (setV env o.dst (.tup []))
   | .tup [] => evLex P I orc run ops S l (setV env o.dst (.tup []))
   | _ => none
def evCode (P : Program) (I : Inv) (orc : FuncId → List V → Option V) (run : EvT) (fn : FuncId) (c : Code) (k : List Item) (env : List V) (S : Mem) : Option (V × Mem) :=
 match c with
 | .seq a b => run fn (.code a :: .code b :: k) env S
 | .skip => run fn k env S
 | .label _ => run fn k env S
 | .block id a => run fn (.code a :: .inBlock id :: k) env S
 | .region _ ops false => run fn (.inRegion ops (upTo 0 ops.toList) :: k) env S
 | .region _ ops true => match P.follows .mixedOrders && Region.lexB .any ops with
  | true => match evLex P I orc run ops S ops.toList env with
   | some env' => run fn k env' S
   | none => none
  | false => none
 | .cond x a b => match evalV I env x with
  | .d (.bool t) => match t with
   | true => run fn (.code a :: k) env S
   | false => run fn (.code b :: k) env S
  | _ => none
 | .exit id => match exitTo id k with
  | some k' => run fn k' env S
  | none => none
 | .loop x => run fn (.code x :: .inLoop x :: k) env S
 | .ret => evRes P fn env S
 | _ => none
def evStep (P : Program) (I : Inv) (orc : FuncId → List V → Option V) (run : EvT) : EvT := fun fn k env S =>
 match k with
 | [] => evRes P fn env S
 | .code c :: k => evCode P I orc run fn c k env S
 | .inBlock _ :: k => run fn k env S
 | .inLoop x :: k => run fn (.code x :: .inLoop x :: k) env S
 | .inRegion _ [] :: k => run fn k env S
 | .inRegion ops (i :: rest) :: k => evReg P I orc run fn ops i rest k env S
 | _ => none
noncomputable def ev (P : Program) (I : Inv) (orc : FuncId → List V → Option V) (n : Nat) : EvT := Nat.rec (fun _ _ _ _ => none) (fun _ run => evStep P I orc run) n
def namesOk (P : Program) : Bool := P.funcs.toList.all fun f => !(f.name == "runtime.NumGoroutine")
section
variable {P : Program} {I : Inv} {orc : FuncId → List V → Option V}
def RunOk (P : Program) (I : Inv) (run : EvT) : Prop := ∀ fn k env S v S', run fn k env S = some (v, S') → ∀ z R, R v S' → ARun P I z fn k env S R
theorem names_at (hN : namesOk P = true) {g : FuncId} {f : Func} (hf : P.funcs[g]? = some f) : (f.name == "runtime.NumGoroutine") = false := by
 have := List.all_eq_true.1 hN f (by simpa using Array.mem_of_getElem? hf)
 simpa using this
theorem evBack_ok {S S' : Mem} {v : V} {g : FuncId} {args : List V} {Q : V → Mem → Prop} (h : ∀ R : V → Mem → Prop, R v S' → AFn P I g args S R) (hq : Q (evBack S v S').1 (evBack S v S').2) : AFn P I g args S Q := by
 unfold evBack at hq
 split at hq
 ·rename_i hc
  simp only [Bool.and_eq_true, Nat.ble_eq] at hc
  obtain ⟨⟨⟨_, h2⟩, h3⟩, h4⟩ := hc
  refine AFn.left (h _ ⟨S'.boxes.take S.boxes.length, S'.boxes.drop S.boxes.length, S'.toks.take S.toks.length, S'.toks.drop S.toks.length, by simp, by simp; omega, by simp; omega, fun i vs hi => .inr ?_, hq⟩)
  exact List.all_eq_true.1 h2 vs (List.mem_of_getElem? hi)
 ·exact h _ hq
theorem evData_ok (hN : namesOk P = true) (ho : ∀ g args v, orc g args = some v → AFn P I g args ⟨[], []⟩ (fun v' _ => v' = v)) {run : EvT} (hrun : RunOk P I run) {g : FuncId} {args : List V} {v : V} (h : evData P orc run g (wkL 0 0 args) = some v) (S : Mem) : AFn P I g args S fun v' S' => v' = v ∧ S' = S := by
 unfold evData at h
 split at h
 case h_2 => cases h
 rename_i f hf
 split at h
 case h_2 => cases h
 rename_i body hb
 have hn := names_at hN hf
 split at h
 ·rename_i v1 ho1
  obtain rfl := Option.some.inj h
  refine ((ho _ _ _ ho1).frame S).mono ?_
  rintro v' S'' ⟨rfl, v0, S0, rfl, rfl⟩
  exact ⟨rfl, rfl⟩
 ·split at h
  case h_2 => cases h
  rename_i v1 S1 h1
  split at h
  case h_2 => cases h
  obtain rfl := Option.some.inj h
  have hA : AFn P I g (wkL 0 0 args) ⟨[], []⟩ (fun v' _ => v' = v1) := AFn.enter hf hb hn (hrun _ _ _ _ _ _ h1 _ _ rfl)
  refine (hA.frame S).mono ?_
  rintro v' S'' ⟨rfl, v0, S0, rfl, rfl⟩
  exact ⟨rfl, rfl⟩
theorem evAny_ok (hN : namesOk P = true) {run : EvT} (hrun : RunOk P I run) {g : FuncId} {args : List V} {S S' : Mem} {v : V} (h : evAny P run g args S = some (v, S')) {Q : V → Mem → Prop} (hq : Q v S') : AFn P I g args S Q := by
 unfold evAny at h
 split at h
 case h_2 => cases h
 rename_i f hf
 split at h
 case h_2 => cases h
 rename_i body hb
 have hn := names_at hN hf
 unfold evIn at h
 split at h
 case h_2 => cases h
 rename_i v1 S1 h1
 have e := Option.some.inj h
 refine evBack_ok (v := v1) (S' := S1) (fun R hR => AFn.enter hf hb hn (hrun _ _ _ _ _ _ h1 _ _ hR)) ?_
 rw [e]; exact hq
theorem evFn_ok (hN : namesOk P = true) (ho : ∀ g args v, orc g args = some v → AFn P I g args ⟨[], []⟩ (fun v' _ => v' = v)) {run : EvT} (hrun : RunOk P I run) {g : FuncId} {args : List V} {S S' : Mem} {v : V} (h : evFn P orc run g args S = some (v, S')) {Q : V → Mem → Prop} (hq : Q v S') : AFn P I g args S Q := by
 unfold evFn at h
 split at h
 case h_2 => exact evAny_ok hN hrun h hq
 rename_i hfit
 split at h
 case h_2 => exact evAny_ok hN hrun h hq
 rename_i v1 h1
 obtain ⟨rfl, rfl⟩ := Prod.mk.inj (Option.some.inj h)
 refine (evData_ok hN ho hrun h1 S).mono ?_
 rintro v' S'' ⟨rfl, rfl⟩
 exact hq
theorem evFst_ok {r : Option (V × Mem)} {v : V} (h : evFst r = some v) : ∃ S, r = some (v, S) := by
 unfold evFst at h
 split at h
 case h_2 => cases h
 rename_i v1 S1
 obtain rfl := Option.some.inj h
 exact ⟨S1, rfl⟩
theorem still_mem {S S' : Mem} {r : Option V} {v : V} (h : still S r = some (v, S')) : S' = S := by
 obtain ⟨_, _, e⟩ := Option.map_eq_some_iff.1 h
 exact (Prod.mk.inj e).2.symm
theorem quiet_mem {ev : Operand → V} {S S' : Mem} {op : Op} {v : V} (hq : quietOp op = true) (h : op1 P ev S op = some (v, S')) : S' = S := by
 unfold op1 at h
 split at h <;> try (cases hq; done)
 all_goals first
  | exact still_mem h
  | (obtain ⟨_, rfl⟩ := Prod.mk.inj (Option.some.inj h); rfl)
  | (split at h <;> first
   | exact still_mem h
   | (obtain ⟨_, rfl⟩ := Prod.mk.inj (Option.some.inj h); rfl)
   | (cases h; done))
  | (cases h; done)
theorem evQOp_ok (hN : namesOk P = true) (ho : ∀ g args v, orc g args = some v → AFn P I g args ⟨[], []⟩ (fun v' _ => v' = v)) {run : EvT} (hrun : RunOk P I run) {o : Oper} {env : List V} {S : Mem} {v : V} (h : evQOp P I orc run o env S = some v) : QOp P I o env S v := by
 unfold evQOp at h
 split at h
 ·rename_i q hq
  split at h
  ·rename_i f hf
   split at h
   case h_2 => cases h
   rename_i g first caps hg
   split at h
   case h_2 => cases h
   rename_i hfit
   exact .inr ⟨q, f, g, first, caps, hq, hf, hg, evData_ok hN ho hrun h S⟩
  ·rename_i hb
   obtain ⟨S', h1⟩ := evFst_ok h
   have h2 : S' = S := by
    unfold opCall at h1
    rw [hb] at h1
    split at h1
    all_goals first
     | exact still_mem h1
     | (rename_i e _ _; cases e; done)
     | (cases h1; done)
   rw [h2] at h1
   exact .inl (by rw [hq]; exact h1)
  ·cases h
 ·split at h
  case h_2 => cases h
  rename_i hqo
  obtain ⟨S', h1⟩ := evFst_ok h
  have h2 := quiet_mem hqo h1
  rw [h2] at h1
  exact .inl h1
theorem evLex_ok (hN : namesOk P = true) (ho : ∀ g args v, orc g args = some v → AFn P I g args ⟨[], []⟩ (fun v' _ => v' = v)) {run : EvT} (hrun : RunOk P I run) {ops : Array Oper} {S : Mem} {K : List V → Prop} : ∀ (l : List Oper) (env env' : List V), evLex P I orc run ops S l env = some env' → K env' → lexA P I ops S K l env
 | [], env, env', h, hK => by
  obtain rfl := Option.some.inj h
  exact hK
 | o :: l, env, env', h, hK => by
  unfold evLex at h
  have go : Wants env ops o → (match evQOp P I orc run o env S with
   | some v => evLex P I orc run ops S l (setV env o.dst v)
   | none => none) = some env' → lexA P I ops S K (o :: l) env := by
   intro hw h
   split at h
   case h_2 => cases h
   rename_i v hv
   exact ⟨v, .inl ⟨hw, evQOp_ok hN ho hrun hv⟩, evLex_ok hN ho hrun l _ _ h hK⟩
  split at h
  ·rename_i hg
   exact go (.inl hg) h
  ·rename_i j want hg
   split at h
   ·rename_i t ht
    split at h
    ·rename_i hw
     have : t = want := by simpa using hw
     subst this
     exact go (.inr ⟨j, t, hg, ht⟩) h
    ·rename_i hw
     exact ⟨.tup [], .inr ⟨⟨j, want, hg, .inl ⟨t, ht, hw⟩⟩, rfl⟩, evLex_ok hN ho hrun l _ _ h hK⟩
   ·rename_i ht
    exact ⟨.tup [], .inr ⟨⟨j, want, hg, .inr ht⟩, rfl⟩, evLex_ok hN ho hrun l _ _ h hK⟩
   ·cases h
theorem evBind_ok {run : EvT} (hrun : RunOk P I run) {fn : FuncId} {r : Option (V × Mem)} {k : List Item} {d : Option Tmp} {env : List V} {v : V} {S' : Mem} (h : evBind run fn r k d env = some (v, S')) : ∃ v1 S1, r = some (v1, S1) ∧ ∀ z R, R v S' → ARun P I z fn k (setV env d v1) S1 R := by
 unfold evBind at h
 split at h
 case h_2 => cases h
 rename_i v1 S1
 exact ⟨v1, S1, rfl, hrun _ _ _ _ _ _ h⟩
theorem evTok_ok {env : List V} {S : Mem} {s : Operand} {t : TypeId} {env' : List V} {S1 : Mem} (h : evTok P env S s t = (env', S1)) {z : Nat × Nat} {fn : FuncId} {k : List Item} {R : V → Mem → Prop} (hr : ARun P I z fn k env' S1 R) : ARun P I z fn k env S R := by
 have hid : (env, S) = (env', S1) → ARun P I z fn k env S R := by
  intro e
  obtain ⟨rfl, rfl⟩ := Prod.mk.inj e
  exact hr
 unfold evTok at h
 split at h
 case h_2 => exact hid h
 rename_i q
 split at h
 case h_2 => exact hid h
 rename_i rows hq
 split at h
 case h_2 => exact hid h
 split at h
 case h_2 => exact hid h
 split at h
 case h_2 => exact hid h
 rename_i te _
 split at h
 case h_2 => exact hid h
 rename_i hc
 rw [Bool.and_eq_true, decide_eq_true_eq] at hc
 obtain ⟨rfl, rfl⟩ := Prod.mk.inj h
 exact ARun.token q rows hq te.size hc.1 hc.2 hr
theorem evTok_wants {env : List V} {S : Mem} {s : Operand} {t : TypeId} {env' : List V} {S1 : Mem} (h : evTok P env S s t = (env', S1)) {ops : Array Oper} {o : Oper} (hw : Wants env ops o) : Wants env' ops o := by
 have hid : (env, S) = (env', S1) → Wants env' ops o := by
  intro e
  obtain ⟨rfl, rfl⟩ := Prod.mk.inj e
  exact hw
 unfold evTok at h
 split at h
 case h_2 => exact hid h
 rename_i q
 split at h
 case h_2 => exact hid h
 rename_i rows hq
 split at h
 case h_2 => exact hid h
 split at h
 case h_2 => exact hid h
 split at h
 case h_2 => exact hid h
 rename_i te _
 split at h
 case h_2 => exact hid h
 obtain ⟨rfl, rfl⟩ := Prod.mk.inj h
 rcases hw with hw | ⟨j, t, h1, h2⟩
 ·exact .inl hw
 ·refine .inr ⟨j, t, h1, ?_⟩
  unfold guardV at h2 ⊢
  split
  ·rename_i u hu
   rw [hu] at h2
   simp only at h2
   by_cases e : q = u
   ·subst e
    rw [hq] at h2
    cases h2
   ·rw [List.getD_eq_getElem?_getD, List.getElem?_set_ne e, ← List.getD_eq_getElem?_getD]
    exact h2
  ·rename_i hu
   rw [hu] at h2
   exact h2
theorem evOp_ok (hN : namesOk P = true) (ho : ∀ g args v, orc g args = some v → AFn P I g args ⟨[], []⟩ (fun v' _ => v' = v)) {run : EvT} (hrun : RunOk P I run) {fn : FuncId} {ops : Array Oper} {i : Nat} {rest : List Nat} {o : Oper} {k : List Item} {env : List V} {S S' : Mem} {v : V} (hoi : ops[i]? = some o) (hw : Wants env ops o)
 (h : evOp P I orc run fn ops rest o k env S = some (v, S')) (z : Nat × Nat) (R : V → Mem → Prop) (hR : R v S') : ARun P I z fn (.inRegion ops (i :: rest) :: k) env S R := by
 unfold evOp at h
 split at h
 ·rename_i q hq
  split at h
  ·rename_i f hf
   split at h
   case h_2 => cases h
   rename_i g first caps hg
   obtain ⟨v1, S1, h1, h2⟩ := evBind_ok hrun h
   exact .call hoi hw hq hf hg (evFn_ok hN ho hrun h1 (h2 z R hR))
  ·rename_i hb
   split at h
   case h_2 => cases h
   rename_i s _ t _ _ _
   split at h
   rename_i env' S2 htok
   obtain ⟨v1, S1, h1, h2⟩ := evBind_ok hrun h
   exact evTok_ok htok (.op hoi (evTok_wants htok hw) (by rw [hq]; exact h1) (h2 z R hR))
  ·obtain ⟨v1, S1, h1, h2⟩ := evBind_ok hrun h
   exact .op hoi hw (by rw [hq]; exact h1) (h2 z R hR)
 ·obtain ⟨v1, S1, h1, h2⟩ := evBind_ok hrun h
  exact .op hoi hw h1 (h2 z R hR)
theorem evRes_ok {fn : FuncId} {env : List V} {S S' : Mem} {v : V} (h : evRes P fn env S = some (v, S')) : S' = S ∧ ∃ f, P.funcs[fn]? = some f ∧ resV P S env f.results.toList = some v := by
 unfold evRes at h
 split at h
 case h_2 => cases h
 rename_i f hf
 split at h
 case h_2 => cases h
 rename_i v1 hv
 obtain ⟨rfl, rfl⟩ := Prod.mk.inj (Option.some.inj h)
 exact ⟨rfl, f, hf, hv⟩
theorem evStep_ok (hN : namesOk P = true) (ho : ∀ g args v, orc g args = some v → AFn P I g args ⟨[], []⟩ (fun v' _ => v' = v)) {run : EvT} (hrun : RunOk P I run) : RunOk P I (evStep P I orc run) := by
 intro fn k env S v S' h z R hR
 unfold evStep at h
 split at h
 ·obtain ⟨rfl, f, hf, hv⟩ := evRes_ok h
  exact .fin hf hv hR
 ·rename_i c k
  unfold evCode at h
  split at h
  ·exact .seq (hrun _ _ _ _ _ _ h _ _ hR)
  ·exact .skip (hrun _ _ _ _ _ _ h _ _ hR)
  ·exact .label (hrun _ _ _ _ _ _ h _ _ hR)
  ·exact .block (hrun _ _ _ _ _ _ h _ _ hR)
  ·rw [upTo_ops] at h
   exact .region (hrun _ _ _ _ _ _ h _ _ hR)
  ·split at h
   case h_2 => cases h
   rename_i hc
   rw [Bool.and_eq_true] at hc
   split at h
   case h_2 => cases h
   rename_i env' he
   exact .draw hc.1 hc.2 (evLex_ok hN ho hrun _ _ _ he (hrun _ _ _ _ _ _ h _ _ hR))
  ·rename_i x a b
   split at h
   case h_2 => cases h
   rename_i t ht
   refine .cond ht ?_
   split at h
   ·exact hrun _ _ _ _ _ _ h _ _ hR
   ·exact hrun _ _ _ _ _ _ h _ _ hR
  ·split at h
   case h_2 => cases h
   rename_i k' hk
   exact .exit hk (hrun _ _ _ _ _ _ h _ _ hR)
  ·exact .loop (hrun _ _ _ _ _ _ h _ _ hR)
  ·obtain ⟨rfl, f, hf, hv⟩ := evRes_ok h
   exact .ret hf hv hR
  ·cases h
 ·exact .inBlock (hrun _ _ _ _ _ _ h _ _ hR)
 ·exact .inLoop (hrun _ _ _ _ _ _ h _ _ hR)
 ·exact .regionEnd (hrun _ _ _ _ _ _ h _ _ hR)
 ·rename_i ops i rest k
  unfold evReg at h
  split at h
  case h_2 => cases h
  rename_i o hoi
  split at h
  ·rename_i hg
   exact evOp_ok hN ho hrun hoi (.inl hg) h z R hR
  ·rename_i j want hg
   split at h
   ·rename_i t ht
    split at h
    ·rename_i hw
     have : t = want := by simpa using hw
     subst this
     exact evOp_ok hN ho hrun hoi (.inr ⟨j, t, hg, ht⟩) h z R hR
    ·rename_i hw
     exact .opSkip hoi ⟨j, want, hg, .inl ⟨t, ht, hw⟩⟩ (hrun _ _ _ _ _ _ h _ _ hR)
   ·rename_i ht
    exact .opSkip hoi ⟨j, want, hg, .inr ht⟩ (hrun _ _ _ _ _ _ h _ _ hR)
   ·cases h
 ·cases h
theorem ev_ok (hN : namesOk P = true) (ho : ∀ g args v, orc g args = some v → AFn P I g args ⟨[], []⟩ (fun v' _ => v' = v)) : ∀ n, RunOk P I (ev P I orc n)
 | 0 => fun _ _ _ _ _ _ h => by cases h
 | n + 1 => evStep_ok hN ho (ev_ok hN ho n)
end
noncomputable def evCall (P : Program) (I : Inv) (orc : FuncId → List V → Option V) (n : Nat) (g : FuncId) (args : List V) : Option V :=
 match evFn P orc (ev P I orc n) g args ⟨[], []⟩ with
 | some (v, _) => some v
 | none => none
theorem evCall_ok {P : Program} {I : Inv} {orc : FuncId → List V → Option V} (hN : namesOk P = true) (ho : ∀ g args v, orc g args = some v → AFn P I g args ⟨[], []⟩ (fun v' _ => v' = v)) {n : Nat} {g : FuncId} {args : List V} {v : V} (h : evCall P I orc n g args = some v) : AFn P I g args ⟨[], []⟩ (fun v' _ => v' = v) := by
 unfold evCall at h
 split at h
 case h_2 => cases h
 rename_i v1 S1 h1
 obtain rfl := Option.some.inj h
 exact evFn_ok hN ho (ev_ok hN ho n) h1 rfl
def noOrc : FuncId → List V → Option V := fun _ _ => none
theorem noOrc_ok {P : Program} {I : Inv} : ∀ g args v, noOrc g args = some v → AFn P I g args ⟨[], []⟩ (fun v' _ => v' = v) := fun _ _ _ h => by cases h
end Go.Ab
namespace Go.Ab
open Go.RowKit Go.Av
theorem AFn.sameW {P : Program} {I : Inv} {f : FuncId} {args args' : List V} {v : V} (h : AFn P I f args' ⟨[], []⟩ (fun v' _ => v' = v)) (hd : wkL 0 0 args = args') (hv : wk 0 0 v = v) (S : Mem) : AFn P I f args S (Same v S) :=
 AFn.mono (AFn.frame (R := fun v' _ => v' = v) (by rw [hd]; exact h) S) fun v' S' h => by
  obtain ⟨h1, v0, S0, h2, h3⟩ := h
  exact ⟨by rw [h3, h2, hv], h1⟩
theorem AFn.only {P : Program} {I : Inv} {f : FuncId} {args : List V} {v : V} {S : Mem} (h : AFn P I f args S (Same v S)) : AFn P I f args S (fun v' _ => v' = v) := h.mono fun _ _ h => h.1
end Go.Ab
namespace Go.Proofs.YtfaoamebphckbaaGreatDoor
open Go.RowKit Go.Av Go.Ab
set_option maxRecDepth 100000
theorem names_ok : namesOk Tryz.prog = true := by kernel_rfl
end Go.Proofs.YtfaoamebphckbaaGreatDoor
