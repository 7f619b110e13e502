/- naming.Join, Resolve. -/
import Derived.Test.YtaelanpmgckfkaaRRRRDoorNam5
namespace Go.Proofs.YtaelanpmgckfkaaRRRRDoor
open Go.RowKit Go.Av

def Joined (r : List UInt8 × Bool) (w : World) (e : Ending) (w' : World) : Prop := e = .returned (.tuple #[.string ⟨r.1.toArray⟩, .bool r.2]) ∧ Below w.heap.size w w'
theorem str_add (l m : List UInt8) : (ByteArray.mk l.toArray) ++ (ByteArray.mk m.toArray) = ⟨(l ++ m).toArray⟩ := by
  apply ByteArray.ext
  simp
theorem str_of (s : ByteArray) : s = ⟨s.data.toList.toArray⟩ := by
  apply ByteArray.ext
  simp

/-- What follows once the name is settled. -/
theorem joinS_no (space name : List UInt8) (h : ¬ Lib.indexByte name 46 ≥ 0) (h2 : SimpleS name = false) : joinS space name = ([], false) := by
  unfold joinS
  rw [if_neg]
  rintro ⟨h3 | h3, _⟩
  · exact h h3
  · rw [h2] at h3
    cases h3
theorem joinS_of (space name full : List UInt8) (h : Lib.indexByte name 46 ≥ 0 ∨ SimpleS name = true) (hf : full = if Lib.indexByte name 46 ≥ 0 then name else if space = [] then name else space ++ 46 :: name) : joinS space name = if FullS full = true then (full, true) else ([], false) := by
  unfold joinS
  simp only []
  rw [← hf]
  by_cases h1 : FullS full = true
  · rw [if_pos ⟨h, h1⟩, if_pos h1]
  · rw [if_neg fun h2 => h1 h2.2, if_neg h1]

set_option maxRecDepth 100000 in
set_option maxHeartbeats 400000 in
theorem nJoin (sp nm : List UInt8) (w : World) (hs : sp.length + 1 + nm.length ≤ 9223372036854775807) : Calls Tryd.prog 30 #[.string ⟨sp.toArray⟩, .string ⟨nm.toArray⟩] w (Joined (joinS sp nm) w) := by
  have hsz : (ByteArray.mk nm.toArray).size = nm.length := by simp [ByteArray.size]
  have hsl : ∀ l : List UInt8, (ByteArray.mk l.toArray).data.toList = l := fun l => by simp
  have HI := Lib.hid (fun wz => strings_IndexByte ⟨nm.toArray⟩ 46 wz)
  have HSI := Lib.hid (fun wz => nSimple ⟨nm.toArray⟩ wz (by rw [hsz]; omega))
  have HF : Hid (∀ (l : List UInt8) wz, l.length ≤ 9223372036854775807 → Calls Tryd.prog 20 #[.string ⟨l.toArray⟩] wz fun e w' => e = .returned (.bool (FullS l)) ∧ Below wz.heap.size wz w') := by
    intro l wz hl
    have := nFull ⟨l.toArray⟩ wz (by simpa [ByteArray.size] using hl)
    rw [hsl] at this
    exact this
  rw [hsl] at HI HSI
  by_cases h : Lib.indexByte nm 46 ≥ 0
  · have HJ := Lib.hid (joinS_of sp nm nm (.inl h) (by rw [if_pos h]))
    obtain ⟨m, hm⟩ : ∃ m, Lib.indexByte nm 46 = m := ⟨_, rfl⟩
    rw [hm] at h HI
    clear hm
    have HFN := Lib.hid (HF.out nm w (by omega))
    clear HF
    cases hv : FullS nm
    all_goals
      rw [hv] at HJ HFN
      rw [HJ.out]
      clear hv
      go_enter Tryd.func30, Tryd.ntmps30
      go_wp2_with fail
      refine (HI.out _).mono ?_
      rintro e w1 ⟨rfl, rfl⟩
      go_wp2_with fail
      refine HFN.out.mono ?_
      rintro e w1 ⟨rfl, hb⟩
      go_wp2_with fail
      exact bodyPost_ret (by simp [results, Tryd.results30, go_sem]; try rfl) rfl ⟨rfl, hb⟩
  have hm : Hid (Lib.indexByte nm 46 = -1) := by
    have := Lib.indexByte_ge nm 46
    unfold Hid
    omega
  rw [hm.out] at HI
  cases hsv : SimpleS nm
  · have HJ := Lib.hid (joinS_no sp nm h hsv)
    rw [hsv] at HSI
    rw [HJ.out]
    clear hsv h hm HJ
    go_enter Tryd.func30, Tryd.ntmps30
    go_wp2_with fail
    refine (HI.out _).mono ?_
    rintro e w1 ⟨rfl, rfl⟩
    go_wp2_with fail
    refine (HSI.out _).mono ?_
    rintro e w1 ⟨rfl, rfl⟩
    go_wp2_with fail
    exact bodyPost_ret (by simp [results, Tryd.results30, go_sem]) rfl ⟨rfl, Below.refl _ _⟩
  · by_cases hsp : sp = []
    · have HJ := Lib.hid (joinS_of sp nm nm (.inr hsv) (by rw [if_neg h, if_pos hsp]))
      rw [hsv] at HSI
      subst hsp
      have HFN := Lib.hid (HF.out nm w (by simp at hs; omega))
      clear hsv h hm HF
      cases hv : FullS nm
      all_goals
        rw [hv] at HJ HFN
        rw [HJ.out]
        clear hv
        go_enter Tryd.func30, Tryd.ntmps30
        go_wp2_with fail
        refine (HI.out _).mono ?_
        rintro e w1 ⟨rfl, rfl⟩
        go_wp2_with fail
        refine (HSI.out _).mono ?_
        rintro e w1 ⟨rfl, rfl⟩
        go_wp2_with fail
        refine HFN.out.mono ?_
        rintro e w1 ⟨rfl, hb⟩
        go_wp2_with fail
        exact bodyPost_ret (by simp [results, Tryd.results30, go_sem]; try rfl) rfl ⟨rfl, hb⟩
    · have HJ := Lib.hid (joinS_of sp nm (sp ++ 46 :: nm) (.inr hsv) (by rw [if_neg h, if_neg hsp]))
      rw [hsv] at HSI
      have e0 : (sp == []) = false := by simpa using hsp
      have ha1 : sp.length + 1 ≤ 9223372036854775807 := by omega
      have ha2 : sp.length + 1 + nm.length ≤ 9223372036854775807 := hs
      have hcat : (ByteArray.mk sp.toArray ++ ByteArray.mk #[46]) ++ ByteArray.mk nm.toArray = ⟨(sp ++ 46 :: nm).toArray⟩ := by
        apply ByteArray.ext
        simp
      have HFN := Lib.hid (HF.out (sp ++ 46 :: nm) w (by simp; omega))
      clear hsv h hm hsp HF
      cases hv : FullS (sp ++ 46 :: nm)
      all_goals
        rw [hv] at HJ HFN
        rw [HJ.out]
        clear hv
        have HCAT := Lib.hid hcat
        go_enter Tryd.func30, Tryd.ntmps30
        go_wp2_with fail
        refine (HI.out _).mono ?_
        rintro e w1 ⟨rfl, rfl⟩
        go_wp2_with fail
        refine (HSI.out _).mono ?_
        rintro e w1 ⟨rfl, rfl⟩
        clear hcat
        go_wp2_with fail
        rw [HCAT.out]
        refine HFN.out.mono ?_
        rintro e w1 ⟨rfl, hb⟩
        go_wp2_with fail
        exact bodyPost_ret (by simp [results, Tryd.results30, go_sem]; try rfl) rfl ⟨rfl, hb⟩

set_option maxRecDepth 100000 in
set_option maxHeartbeats 400000 in
theorem nResolve (nm sp ar : List UInt8) (g : Bool) (w : World) (hs : sp.length + 1 + nm.length ≤ 9223372036854775807) (ha : ar.length + 1 + nm.length ≤ 9223372036854775807) :
    Calls Tryd.prog 31 #[.string ⟨nm.toArray⟩, .string ⟨sp.toArray⟩, .bool g, .string ⟨ar.toArray⟩] w (Joined (joinS (if g = true then sp else ar) nm) w) := by
  cases g
  · rw [if_neg (by decide)]
    have HJ := Lib.hid (fun wz => nJoin ar nm wz ha)
    generalize joinS ar nm = r at HJ
    obtain ⟨t, b⟩ := r
    go_enter Tryd.func31, Tryd.ntmps31
    go_wp2_with fail
    refine (HJ.out _).mono ?_
    rintro e w1 ⟨rfl, hb⟩
    simp only
    go_wp2_with fail
    exact bodyPost_ret (by simp [results, Tryd.results31, go_sem]; try rfl) rfl ⟨rfl, hb⟩
  · rw [if_pos rfl]
    have HJ := Lib.hid (fun wz => nJoin sp nm wz hs)
    generalize joinS sp nm = r at HJ
    obtain ⟨t, b⟩ := r
    go_enter Tryd.func31, Tryd.ntmps31
    go_wp2_with fail
    refine (HJ.out _).mono ?_
    rintro e w1 ⟨rfl, hb⟩
    simp only
    go_wp2_with fail
    exact bodyPost_ret (by simp [results, Tryd.results31, go_sem]; try rfl) rfl ⟨rfl, hb⟩
end Go.Proofs.YtaelanpmgckfkaaRRRRDoor
