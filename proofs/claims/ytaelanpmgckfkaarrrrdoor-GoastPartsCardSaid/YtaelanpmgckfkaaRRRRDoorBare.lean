/- The checker: bare. -/
import Derived.Test.YtaelanpmgckfkaaRRRRDoorChk2
import Derived.Deep.Cut
import Derived.Deep.CutRange
import Derived.Deep.CutBlock
import Derived.Deep.RegionWith
import Derived.Test.YtaelanpmgckfkaaRRRRDoorExt
namespace Go.Proofs.YtaelanpmgckfkaaRRRRDoor
open Go.RowKit Go.Av

/-- Nothing but what its kind has, and that may be: each of the five Bools that the code reckons (text, number, typed, names, ok), and the count. -/
def bareT (x : ExT) (d p : Int) : Bool × Int :=
  if x.kind = 8 then (if 2 ≤ x.type.kind ∧ x.type.kind ≤ 6 then tyS identS x.type (d + 1) p else (false, p))
  else if x.kind = 14 then (if x.type.kind = 7 then (if (tyS identS x.type (d + 1) p).1 = true then (decide (x.names.length = x.kids.length) && diffS x.names.length x.names, (tyS identS x.type (d + 1) p).2) else (false, (tyS identS x.type (d + 1) p).2)) else (false, p))
  else if x.kind = 15 then (if x.type.kind = 8 then tyS identS x.type (d + 1) p else (false, p))
  else (if x.kind = 1 ∨ x.kind = 7 ∨ x.kind = 9 then identS x.text else if x.kind = 6 then decide (0 < rankS x.text) else if x.kind = 3 then decide (x.int ≤ 1) else true, p)
def bareS (x : ExT) (d p : Int) : Bool × Int :=
  ((bareT x d p).1 && !(if x.kind = 1 ∨ x.kind = 7 ∨ x.kind = 9 ∨ x.kind = 6 then false else !(x.text == [])) && !(if x.kind = 2 ∨ x.kind = 3 then false else (x.int != 0)) &&
    !(if x.kind = 8 ∨ x.kind = 14 ∨ x.kind = 15 then false else !(zeroS x.type)) && !(if x.kind = 14 then false else decide (0 < x.names.length)), (bareT x d p).2)

/-- A block of eight cells, read later. -/
theorem eight_at (w W : World) (t : TypeId) (v0 v1 v2 v3 v4 v5 v6 v7 : Value) (key : ∀ k : Nat, W.cell? ⟨w.heap.size, k, none⟩ = (w.alloc (Obj.cells #[v0, v1, v2, v3, v4, v5, v6, v7] t)).cell? ⟨w.heap.size, k, none⟩) :
    W.cell? ⟨w.heap.size, 0, none⟩ = some v0 ∧ W.cell? ⟨w.heap.size, 1, none⟩ = some v1 ∧ W.cell? ⟨w.heap.size, 2, none⟩ = some v2 ∧ W.cell? ⟨w.heap.size, 3, none⟩ = some v3 ∧ W.cell? ⟨w.heap.size, 4, none⟩ = some v4 ∧ W.cell? ⟨w.heap.size, 5, none⟩ = some v5 ∧ W.cell? ⟨w.heap.size, 6, none⟩ = some v6 ∧ W.cell? ⟨w.heap.size, 7, none⟩ = some v7 := by
  rw [key, key, key, key, key, key, key, key]
  simp only [World.cell?, World.alloc, Array.getElem?_push_size]
  exact ⟨rfl, rfl, rfl, rfl, rfl, rfl, rfl, rfl⟩
theorem key_below (w W : World) (o : Obj) (hb : Below (w.alloc o).heap.size (w.alloc o) W) (k : Nat) : W.cell? ⟨w.heap.size, k, none⟩ = (w.alloc o).cell? ⟨w.heap.size, k, none⟩ :=
  hb.cell (p := ⟨w.heap.size, k, none⟩) (by rw [World.size_alloc]; show w.heap.size < _; omega)
theorem key_chk {g : Nat} {p : Int} (w W : World) (o : Obj) (hg : g < w.heap.size) (h : Chk g p (w.alloc o) W) (k : Nat) : W.cell? ⟨w.heap.size, k, none⟩ = (w.alloc o).cell? ⟨w.heap.size, k, none⟩ :=
  h.cell (by rw [World.size_alloc]; omega) (by omega)

theorem below_from {B : Nat} {a b W : World} (h : Below B a W) (e1 : a.os = b.os) (e2 : a.tape = b.tape) (e3 : a.output = b.output) (e4 : a.heap = b.heap) : Below B b W :=
  ⟨h.os.trans e1, h.tape.trans e2, h.output.trans e3, by rw [← e4]; exact h.size, fun k hk => by rw [← e4]; exact h.block k hk⟩

set_option maxRecDepth 100000 in
set_option maxHeartbeats 2000000 in
theorem bare_at (B : Nat) (W0 : World) (x : ExT) (tv nv kv : Value) (h : RdEx B W0 x tv nv kv) (g : Nat) (d p : Int) (w : World) (hB2 : 2 ≤ B) (hBg : B ≤ g) (hb : Below B W0 w) (ht : Tabs w) (hct : Cnt w g p) (hp : 0 ≤ p ∧ p ≤ 60000) (hd : 0 ≤ d ∧ d ≤ 60) :
    Calls Tryd.prog 80 #[.pointer (some ⟨g, 0, none⟩), .agg (exCells x tv nv kv), .int .i64 d] w fun e w' => e = .returned (.bool (bareS x d p).1) ∧ Chk g (bareS x d p).2 w w' := by
  cases h with
  | mk k t i ty ns ks tv nv o cap f1 f2 f3 hc hm htl hi hty hns hs hr =>
    clear hs hr
    obtain ⟨o2, cap2, rfl, hnc, hnm, hnl, hnr⟩ := hns
    have hlt := hct.lt
    have HZ := Lib.hid (fun W => zero_at hty W)
    have hr1 : ∀ W, Below B W0 W → B ≤ W.heap.size → RowS W o2 ns := fun W hb hB e => by
      obtain ⟨gn, fn, ho, hgn, hcl⟩ := hnr e
      exact ⟨gn, fn, ho, by omega, fun j h => by rw [hb.cell (p := ⟨gn, fn + j, none⟩) hgn]; exact hcl j h⟩
    have HNR := Lib.hid hr1
    obtain ⟨bt, hbt⟩ : ∃ bt, (t == []) = bt := ⟨_, rfl⟩
    obtain ⟨bi, hbi⟩ : ∃ bi, ((i : Int) == 0) = bi := ⟨_, rfl⟩
    obtain ⟨bz, hbz⟩ : ∃ bz, zeroS ty = bz := ⟨_, rfl⟩
    obtain ⟨bn, hbn⟩ : ∃ bn, decide ((ns.length : Int) > 0) = bn := ⟨_, rfl⟩
    rw [hbz] at HZ
    clear hr1 hnr
    have HE := Lib.hid (fun W key => eight_at w W 56 (.int .i64 k) (.string ⟨t.toArray⟩) (.int .u64 i) (.int .i64 ty.kind) (.string ⟨ty.name.toArray⟩) tv (.slice o2 ns.length cap2) (.slice o ks.length cap) key)
    simp only [exCells, ExT.kind, ExT.text, ExT.int, ExT.type]
    go_enter Tryd.func80, Tryd.ntmps80
    go_upto_region 1 with fail
    obtain ⟨wx, hwx⟩ : ∃ wx, wx = w.alloc (Obj.cells #[.int .i64 k, .string ⟨t.toArray⟩, .int .u64 i, .int .i64 ty.kind, .string ⟨ty.name.toArray⟩, tv, .slice o2 ns.length cap2, .slice o ks.length cap] 56) := ⟨_, rfl⟩
    rw [← hwx]
    have hsx : w.heap.size < wx.heap.size := by rw [hwx, World.size_alloc]; omega
    have hkey : ∀ u, ∀ k : Nat, (ext wx u).cell? ⟨w.heap.size, k, none⟩ = wx.cell? ⟨w.heap.size, k, none⟩ := fun u k => ext_cell wx u _ hsx
    rw [hwx] at hkey
    have HE1 := Lib.hid (fun u => HE.out (ext wx u) (by rw [hwx]; exact hkey u))
    have m0 := fun u => (HE1.out u).1
    have m1 := fun u => (HE1.out u).2.1
    have m2 := fun u => (HE1.out u).2.2.1
    have m3 := fun u => (HE1.out u).2.2.2.1
    have m4 := fun u => (HE1.out u).2.2.2.2.1
    have m5 := fun u => (HE1.out u).2.2.2.2.2.1
    have m6 := fun u => (HE1.out u).2.2.2.2.2.2.1
    have HWX := Lib.hid hwx
    clear hkey hwx
    refine wp_region_ext (by kernel_rfl) (by kernel_rfl) ?_
    repeat (first | go_big_quiet_skip | (go_big_quiet_want; go_big_quiet_op; first | go_big_quiet_on | (apply Exists.intro; refine ⟨fun u => ?_, ?_⟩; (· refine (HZ.out (ext wx u)).mono ?_; rintro e w' ⟨rfl, hb1⟩; exact ⟨rfl, below_after u hb1⟩); go_big_quiet_on)))
    refine wpQuiet_nil ?_
    rintro w1 ⟨u, rfl⟩
    have hbx := ext_below wx u
    replace m0 := m0 u
    replace m1 := m1 u
    replace m2 := m2 u
    replace m3 := m3 u
    replace m4 := m4 u
    replace m5 := m5 u
    replace m6 := m6 u
    have m7 := (HE1.out u).2.2.2.2.2.2.2
    clear HE1 HE HZ
    generalize ext wx u = w1 at *
    have hb1 : Below w.heap.size w w1 := by
      have h := hbx
      rw [HWX.out] at h
      exact ((Below.refl _ _).alloc (Nat.le_refl _) _).trans (h.mono (by rw [World.size_alloc]; omega))
    have hs1 : w.heap.size < w1.heap.size := Nat.lt_of_lt_of_le hsx hbx.size
    have hct1 := hct.below hb1
    have hk1 : Chk g p w w1 := Chk.ofBelow hct hb1
    have ht1 := ht.below hb1
    have HBT := Lib.hid hbt
    have HBZ := Lib.hid hbz
    clear hbx hbn hbt hbz hbi
    go_upto_block 0 with fail
    have hbW : Below B W0 w1 := hb.trans (hb1.mono (by omega))
    have HI := Lib.hid (fun W ht => gIdent t W ht htl)
    have HTY := Lib.hid (fun W hbW htW hcW => typ_at B W0 ty tv hty g (d + 1) p W hB2 hBg hbW htW hcW hp (by omega))
    have HDF := Lib.hid (fun W htW hr => different_at o2 cap2 ns W htW hnc hnm hnl hr)
    have HT1 := Lib.hid ht1
    go_cut [7, 8, 9, 10, 11] from 28 (fun s7 s8 s9 s10 s11 wz => ∃ (b1 b2 b3 b4 b5 : Bool), s7 = .bool b1 ∧ s8 = .bool b2 ∧ s9 = .bool b3 ∧ s10 = .bool b4 ∧ s11 = .bool b5 ∧ Hid ((b5 && !b1 && !b2 && !b3 && !b4) = (bareS (.mk k t i ty ns ks) d p).1) ∧ Chk g (bareS (.mk k t i ty ns ks) d p).2 w wz)
    case first =>
      by_cases h179 : k = 1 ∨ k = 7 ∨ k = 9
      · rcases h179 with rfl | rfl | rfl
        all_goals
          go_wp2_with fail
          refine (HI.out _ HT1.out).mono ?_
          rintro e w2 ⟨rfl, hb2⟩
          go_wp2_with fail
          go_meet
          exact ⟨_, _, _, _, _, rfl, rfl, rfl, rfl, rfl, by unfold Hid; have e1 := HBT.out; have e2 := HBZ.out; subst e1; subst e2; rfl, hk1.thenBelow hb2⟩
      · by_cases h6 : k = 6
        · subst h6
          have HRK := Lib.hid (rank_at t)
          go_wp2_with fail
          refine (HRK.out _).mono ?_
          rintro e w2 ⟨rfl, rfl⟩
          go_wp2_with fail
          go_meet
          exact ⟨_, _, _, _, _, rfl, rfl, rfl, rfl, rfl, by unfold Hid; have e1 := HBT.out; have e2 := HBZ.out; subst e1; subst e2; rfl, hk1⟩
        · by_cases h2 : k = 2
          · subst h2
            go_wp2_with fail
            go_meet
            exact ⟨_, _, _, _, _, rfl, rfl, rfl, rfl, rfl, by unfold Hid; have e1 := HBT.out; have e2 := HBZ.out; subst e1; subst e2; rfl, hk1⟩
          · by_cases h3 : k = 3
            · subst h3
              go_wp2_with fail
              go_quiet (fail)
              go_wp2_with fail
              go_meet
              exact ⟨_, _, _, _, _, rfl, rfl, rfl, rfl, rfl, by unfold Hid; have e1 := HBT.out; have e2 := HBZ.out; subst e1; subst e2; rfl, hk1.thenBelow ⟨rfl, rfl, rfl, Nat.le_refl _, fun _ _ => rfl⟩⟩
            · by_cases h8 : k = 8
              · subst h8
                by_cases htk : 2 ≤ ty.kind ∧ ty.kind ≤ 6
                · obtain ⟨ta, tb⟩ := htk
                  have HBS : Hid (bareT (.mk 8 t i ty ns ks) d p = tyS identS ty (d + 1) p) := by
                    unfold Hid bareT
                    rw [if_pos (show (ExT.mk 8 t i ty ns ks).kind = 8 from rfl), if_pos (show 2 ≤ (ExT.mk 8 t i ty ns ks).type.kind ∧ (ExT.mk 8 t i ty ns ks).type.kind ≤ 6 from ⟨ta, tb⟩)]
                    rfl
                  go_wp2_with fail
                  refine (HTY.out w1 hbW HT1.out hct1).mono ?_
                  rintro e w2 ⟨rfl, hk2⟩
                  go_wp2_with fail
                  go_meet
                  refine ⟨_, _, _, _, _, rfl, rfl, rfl, rfl, rfl, ?_, ?_⟩
                  · unfold Hid bareS
                    rw [HBS.out]
                    have e1 := HBT.out
                    subst e1
                    rfl
                  · unfold bareS
                    rw [HBS.out]
                    exact hk1.trans hk2
                · have HBS : Hid (bareT (.mk 8 t i ty ns ks) d p = (false, p)) := by
                    unfold Hid bareT
                    rw [if_pos (show (ExT.mk 8 t i ty ns ks).kind = 8 from rfl), if_neg (show ¬ (2 ≤ (ExT.mk 8 t i ty ns ks).type.kind ∧ (ExT.mk 8 t i ty ns ks).type.kind ≤ 6) from htk)]
                  have htk' : ¬ 2 ≤ ty.kind ∨ (2 ≤ ty.kind ∧ ¬ ty.kind ≤ 6) := by omega
                  clear htk
                  rcases htk' with ta | ⟨ta, tb⟩
                  all_goals
                    go_wp2_with fail
                    go_meet
                    refine ⟨_, _, _, _, _, rfl, rfl, rfl, rfl, rfl, ?_, ?_⟩
                    · unfold Hid bareS
                      rw [HBS.out]
                      rfl
                    · unfold bareS
                      rw [HBS.out]
                      exact hk1
              · by_cases h15 : k = 15
                · subst h15
                  by_cases htk : ty.kind = 8
                  · have ta : (ty.kind == 8) = true := beq_iff_eq.2 htk
                    have HBS : Hid (bareT (.mk 15 t i ty ns ks) d p = tyS identS ty (d + 1) p) := by
                      unfold Hid bareT
                      rw [if_neg (show ¬ (ExT.mk 15 t i ty ns ks).kind = 8 from (by decide : ¬ (15 : Int) = 8)), if_neg (show ¬ (ExT.mk 15 t i ty ns ks).kind = 14 from (by decide : ¬ (15 : Int) = 14)), if_pos (show (ExT.mk 15 t i ty ns ks).kind = 15 from rfl), if_pos (show (ExT.mk 15 t i ty ns ks).type.kind = 8 from htk)]
                      rfl
                    clear htk
                    go_wp2_with fail
                    refine (HTY.out w1 hbW HT1.out hct1).mono ?_
                    rintro e w2 ⟨rfl, hk2⟩
                    go_wp2_with fail
                    go_meet
                    refine ⟨_, _, _, _, _, rfl, rfl, rfl, rfl, rfl, ?_, ?_⟩
                    · unfold Hid bareS
                      rw [HBS.out]
                      have e1 := HBT.out
                      subst e1
                      rfl
                    · unfold bareS
                      rw [HBS.out]
                      exact hk1.trans hk2
                  · have ta : (ty.kind == 8) = false := beq_eq_false_iff_ne.2 htk
                    have HBS : Hid (bareT (.mk 15 t i ty ns ks) d p = (false, p)) := by
                      unfold Hid bareT
                      rw [if_neg (show ¬ (ExT.mk 15 t i ty ns ks).kind = 8 from (by decide : ¬ (15 : Int) = 8)), if_neg (show ¬ (ExT.mk 15 t i ty ns ks).kind = 14 from (by decide : ¬ (15 : Int) = 14)), if_pos (show (ExT.mk 15 t i ty ns ks).kind = 15 from rfl), if_neg (show ¬ (ExT.mk 15 t i ty ns ks).type.kind = 8 from htk)]
                    clear htk
                    go_wp2_with fail
                    go_meet
                    refine ⟨_, _, _, _, _, rfl, rfl, rfl, rfl, rfl, ?_, ?_⟩
                    · unfold Hid bareS
                      rw [HBS.out]
                      rfl
                    · unfold bareS
                      rw [HBS.out]
                      exact hk1
                · by_cases h14 : k = 14
                  · subst h14
                    have HR14 : Hid (bareT (.mk 14 t i ty ns ks) d p = (if ty.kind = 7 then (if (tyS identS ty (d + 1) p).1 = true then (decide (ns.length = ks.length) && diffS ns.length ns, (tyS identS ty (d + 1) p).2) else (false, (tyS identS ty (d + 1) p).2)) else (false, p))) := by
                      unfold Hid bareT
                      rw [if_neg (show ¬ (ExT.mk 14 t i ty ns ks).kind = 8 from (by decide : ¬ (14 : Int) = 8)), if_pos (show (ExT.mk 14 t i ty ns ks).kind = 14 from rfl)]
                      rfl
                    by_cases htk : ty.kind = 7
                    · have ta : (ty.kind == 7) = true := beq_iff_eq.2 htk
                      have HBS : Hid (bareT (.mk 14 t i ty ns ks) d p = (if (tyS identS ty (d + 1) p).1 = true then (decide (ns.length = ks.length) && diffS ns.length ns, (tyS identS ty (d + 1) p).2) else (false, (tyS identS ty (d + 1) p).2))) := by
                        unfold Hid
                        rw [HR14.out, if_pos htk]
                      clear htk HR14
                      generalize tyS identS ty (d + 1) p = r at *
                      obtain ⟨rb, rp⟩ := r
                      cases rb
                      · replace HBS : Hid (bareT (.mk 14 t i ty ns ks) d p = (false, rp)) := HBS
                        go_wp2_with fail
                        refine (HTY.out w1 hbW HT1.out hct1).mono ?_
                        rintro e w2 ⟨rfl, hk2⟩
                        go_wp2_with fail
                        go_meet
                        refine ⟨_, _, _, _, _, rfl, rfl, rfl, rfl, rfl, ?_, ?_⟩
                        · unfold Hid bareS
                          rw [HBS.out]
                          have e1 := HBT.out
                          subst e1
                          rfl
                        · unfold bareS
                          rw [HBS.out]
                          exact hk1.trans hk2
                      · replace HBS : Hid (bareT (.mk 14 t i ty ns ks) d p = (decide (ns.length = ks.length) && diffS ns.length ns, rp)) := HBS
                        have hlk : ∀ (W : World) (q : Nat), Chk g rp w1 W → W.cell? ⟨w.heap.size, q, none⟩ = w1.cell? ⟨w.heap.size, q, none⟩ := fun W q hk => hk.cell hs1 (by omega)
                        by_cases hnk : ns.length = ks.length
                        · have hnk' : ((ns.length : Int) == (ks.length : Int)) = true := beq_iff_eq.2 (by omega)
                          have HNK := Lib.hid hnk
                          clear hnk
                          go_wp2_with fail
                          refine (HTY.out w1 hbW HT1.out hct1).mono ?_
                          rintro e w2 ⟨rfl, hk2⟩
                          have n6 := (hlk w2 6 hk2).trans m6
                          have n7 := (hlk w2 7 hk2).trans m7
                          have hB2b := hk2.below hBg hct1.lt
                          have htw2 : Tabs w2 := HT1.out.kept hB2b hB2
                          have hrw2 : RowS w2 o2 ns := HNR.out w2 (hbW.trans hB2b) (by have := hk2.cnt.lt; omega)
                          clear hlk
                          go_wp2_with fail
                          refine (HDF.out w2 htw2 hrw2).mono ?_
                          rintro e w3 ⟨rfl, hb3⟩
                          go_wp2_with fail
                          rw [decide_eq_true HNK.out, Bool.true_and] at HBS
                          go_meet
                          refine ⟨_, _, _, _, _, rfl, rfl, rfl, rfl, rfl, ?_, ?_⟩
                          · unfold Hid bareS
                            rw [HBS.out]
                            have e1 := HBT.out
                            subst e1
                            rfl
                          · unfold bareS
                            rw [HBS.out]
                            exact (hk1.trans hk2).thenBelow hb3
                        · have hnk' : ((ns.length : Int) == (ks.length : Int)) = false := beq_eq_false_iff_ne.2 (by omega)
                          rw [decide_eq_false hnk, Bool.false_and] at HBS
                          clear hnk
                          go_wp2_with fail
                          refine (HTY.out w1 hbW HT1.out hct1).mono ?_
                          rintro e w2 ⟨rfl, hk2⟩
                          have n6 := (hlk w2 6 hk2).trans m6
                          have n7 := (hlk w2 7 hk2).trans m7
                          clear hlk
                          go_wp2_with fail
                          go_meet
                          refine ⟨_, _, _, _, _, rfl, rfl, rfl, rfl, rfl, ?_, ?_⟩
                          · unfold Hid bareS
                            rw [HBS.out]
                            have e1 := HBT.out
                            subst e1
                            rfl
                          · unfold bareS
                            rw [HBS.out]
                            exact hk1.trans hk2
                    · have ta : (ty.kind == 7) = false := beq_eq_false_iff_ne.2 htk
                      have HBS : Hid (bareT (.mk 14 t i ty ns ks) d p = (false, p)) := by
                        unfold Hid
                        rw [HR14.out, if_neg htk]
                      clear htk HR14
                      go_wp2_with fail
                      go_meet
                      refine ⟨_, _, _, _, _, rfl, rfl, rfl, rfl, rfl, ?_, ?_⟩
                      · unfold Hid bareS
                        rw [HBS.out]
                        have e1 := HBT.out
                        subst e1
                        rfl
                      · unfold bareS
                        rw [HBS.out]
                        exact hk1
                  · have HBS : Hid (bareT (.mk k t i ty ns ks) d p = (true, p)) := by
                      unfold Hid bareT
                      rw [if_neg (show ¬ (ExT.mk k t i ty ns ks).kind = 8 from h8), if_neg (show ¬ (ExT.mk k t i ty ns ks).kind = 14 from h14), if_neg (show ¬ (ExT.mk k t i ty ns ks).kind = 15 from h15), if_neg (show ¬ ((ExT.mk k t i ty ns ks).kind = 1 ∨ (ExT.mk k t i ty ns ks).kind = 7 ∨ (ExT.mk k t i ty ns ks).kind = 9) from h179),
                        if_neg (show ¬ (ExT.mk k t i ty ns ks).kind = 6 from h6), if_neg (show ¬ (ExT.mk k t i ty ns ks).kind = 3 from h3)]
                    have HK : Hid (¬ (k = 1 ∨ k = 7 ∨ k = 9 ∨ k = 6) ∧ ¬ (k = 2 ∨ k = 3) ∧ ¬ (k = 8 ∨ k = 14 ∨ k = 15) ∧ ¬ k = 14) := by unfold Hid; omega
                    have e1 : (k == 1) = false := beq_eq_false_iff_ne.2 (by omega)
                    have e2 : (k == 2) = false := beq_eq_false_iff_ne.2 (by omega)
                    have e3 : (k == 3) = false := beq_eq_false_iff_ne.2 (by omega)
                    have e6 : (k == 6) = false := beq_eq_false_iff_ne.2 (by omega)
                    have e7 : (k == 7) = false := beq_eq_false_iff_ne.2 (by omega)
                    have e8 : (k == 8) = false := beq_eq_false_iff_ne.2 (by omega)
                    have e9 : (k == 9) = false := beq_eq_false_iff_ne.2 (by omega)
                    have e14 : (k == 14) = false := beq_eq_false_iff_ne.2 (by omega)
                    have e15 : (k == 15) = false := beq_eq_false_iff_ne.2 (by omega)
                    clear h179 h6 h2 h3 h8 h15 h14
                    go_wp2_with fail
                    go_meet
                    refine ⟨_, _, _, _, _, rfl, rfl, rfl, rfl, rfl, ?_, ?_⟩
                    · unfold Hid bareS
                      obtain ⟨q1, q2, q3, q4⟩ := HK.out
                      rw [HBS.out, if_neg (show ¬ ((ExT.mk k t i ty ns ks).kind = 1 ∨ (ExT.mk k t i ty ns ks).kind = 7 ∨ (ExT.mk k t i ty ns ks).kind = 9 ∨ (ExT.mk k t i ty ns ks).kind = 6) from q1), if_neg (show ¬ ((ExT.mk k t i ty ns ks).kind = 2 ∨ (ExT.mk k t i ty ns ks).kind = 3) from q2),
                        if_neg (show ¬ ((ExT.mk k t i ty ns ks).kind = 8 ∨ (ExT.mk k t i ty ns ks).kind = 14 ∨ (ExT.mk k t i ty ns ks).kind = 15) from q3), if_neg (show ¬ (ExT.mk k t i ty ns ks).kind = 14 from q4)]
                      have e1 := HBT.out
                      have e2 := HBZ.out
                      subst e1
                      subst e2
                      rfl
                    · unfold bareS
                      rw [HBS.out]
                      exact hk1
    case rest =>
      obtain ⟨b1, b2, b3, b4, b5, rfl, rfl, rfl, rfl, rfl, HB, hk⟩ := hcut
      go_wp2_with fail
      all_goals go_ret
      all_goals exact ⟨by rw [← HB.out]; simp [*], hk⟩
end Go.Proofs.YtaelanpmgckfkaaRRRRDoor
