/- The walks of IsFont and sortAt: the program's and the reference's. -/
import Derived.Test.YtnkkpphjahpadaaFoP
namespace Go.Proofs.Ytnkkpphjahpadaa
open Go.RowKit
set_option linter.unusedVariables false
theorem within_any (n lo hi : Int) (w : World) : Calls Try.prog 85 #[.int .i64 n, .int .i64 lo, .int .i64 hi] w fun e w' => e = .returned (.bool (inB n lo hi)) ∧ w = w' := by
  unfold inB
  go_enter Try.func85, Try.ntmps85
  go_wp2
  all_goals (go_ret; simp [*]; try omega)
theorem l1In_any (n lo hi : Int) (w : World) : Calls Try.prog 81 #[.int .i64 n, .int .i64 lo, .int .i64 hi] w fun e w' => e = .returned (.bool (inB n lo hi)) ∧ w = w' := by
  unfold inB
  go_enter Try.func81, Try.ntmps81
  go_wp2
  all_goals (go_ret; simp [*]; try omega)
theorem impl_areLetters (s : ByteArray) (lo hi : Int) (w : World) (hs : s.size ≤ 1048577) :
    Calls Try.prog 108 #[.string s, .int .i64 lo, .int .i64 hi] w fun e w' => e = .returned (.bool (lets s lo hi)) ∧ w = w' := by
  go_enter Try.func108, Try.ntmps108
  go_wp2
  go_loop [7] (fun i => ∃ k : Nat, k ≤ s.size ∧ i = .int .i64 k ∧ (s.data.toList.take k).all chLOk = true) (fun i => s.size - (intOf i).toNat)
  case atStart => exact ⟨0, Nat.zero_le _, rfl, rfl⟩
  case round =>
    obtain ⟨k, hk, rfl, ha⟩ := hrel
    have HA := Lib.hid ha; clear ha
    by_cases hlt : k < s.size
    · have bad : chLOk s[k] = false → lets s lo hi = false := lets_bad hlt lo hi
      have BAD := Lib.hid bad
      have hsn : chLOk s[k] = true → (s.data.toList.take (k + 1)).all chLOk = true := fun h => by rw [snocB s k hlt, List.all_append, HA.out]; simp [h]
      have HSN := Lib.hid hsn
      clear bad hsn
      go_wp2
      all_goals first
        | (go_ret
           exact ⟨ret_bool (BAD.out (by simp [chLOk, chL]; omega)).symm, rfl⟩)
        | (go_round
           case rel => exact ⟨k + 1, by omega, by go_num, HSN.out (by simp [chLOk, chL]; omega)⟩
           case measure => simp [intOf]; omega)
    · have hkl : k = s.size := by omega
      subst hkl
      clear hlt
      have HV : Hid (lets s lo hi = inB s.size lo hi) := by
        show _ = _
        have h := HA.out
        rw [List.take_of_length_le (by simp)] at h
        simp [lets, h]
      go_wp2_with (go_at_call 85; refine (within_any _ _ _ _).mono ?_; rintro e w' ⟨rfl, rfl⟩)
      go_ret
      exact ⟨ret_bool HV.out.symm, rfl⟩
theorem spec_tyLetters (s : ByteArray) (hi : Int) (w : World) (hs : s.size ≤ 1048577) :
    Calls Try.prog 110 #[.string s, .int .i64 hi] w fun e w' => e = .returned (.bool (lets s 1 hi)) ∧ w = w' := by
  go_enter Try.func110, Try.ntmps110
  go_wp2
  go_loop [5] (fun i => ∃ k : Nat, k ≤ s.size ∧ i = .int .i64 k ∧ (s.data.toList.take k).all chLOk = true) (fun i => s.size - (intOf i).toNat)
  case atStart => exact ⟨0, Nat.zero_le _, rfl, rfl⟩
  case round =>
    obtain ⟨k, hk, rfl, ha⟩ := hrel
    have HA := Lib.hid ha; clear ha
    by_cases hlt : k < s.size
    · have bad : chLOk s[k] = false → lets s 1 hi = false := lets_bad hlt 1 hi
      have BAD := Lib.hid bad
      have hsn : chLOk s[k] = true → (s.data.toList.take (k + 1)).all chLOk = true := fun h => by rw [snocB s k hlt, List.all_append, HA.out]; simp [h]
      have HSN := Lib.hid hsn
      clear bad hsn
      go_wp2
      all_goals first
        | (go_ret
           exact ⟨ret_bool (BAD.out (by simp [chLOk, chL]; omega)).symm, rfl⟩)
        | (go_round
           case rel => exact ⟨k + 1, by omega, by go_num, HSN.out (by simp [chLOk, chL]; omega)⟩
           case measure => simp [intOf]; omega)
    · have hkl : k = s.size := by omega
      subst hkl
      clear hlt
      have HV : Hid (lets s 1 hi = inB s.size 1 hi) := by
        show _ = _
        have h := HA.out
        rw [List.take_of_length_le (by simp)] at h
        simp [lets, h]
      go_wp2_with (go_at_call 81; refine (l1In_any _ _ _ _).mono ?_; rintro e w' ⟨rfl, rfl⟩)
      go_ret
      exact ⟨ret_bool HV.out.symm, rfl⟩
theorem impl_isCode (s : ByteArray) (w : World) (hs : s.size ≤ 1048577) : Calls Try.prog 111 #[.string s] w fun e w' => e = .returned (.bool (lets s 1 3)) ∧ w = w' := by
  go_enter Try.func111, Try.ntmps111
  go_wp2_with (go_at_call 108; refine (impl_areLetters s 1 3 _ hs).mono ?_; rintro e w' ⟨rfl, rfl⟩)
  go_ret
  exact ⟨rfl, rfl⟩
theorem impl_isWord (s : ByteArray) (w : World) (hs : s.size ≤ 1048577) : Calls Try.prog 68 #[.string s] w fun e w' => e = .returned (.bool (lets s 1 16)) ∧ w = w' := by
  go_enter Try.func68, Try.ntmps68
  go_wp2_with (go_at_call 108; refine (impl_areLetters s 1 16 _ hs).mono ?_; rintro e w' ⟨rfl, rfl⟩)
  go_ret
  exact ⟨rfl, rfl⟩
theorem spec_tyWord (s : ByteArray) (w : World) (hs : s.size ≤ 1048577) : Calls Try.prog 93 #[.string s] w fun e w' => e = .returned (.bool (lets s 1 16)) ∧ w = w' := by
  go_enter Try.func93, Try.ntmps93
  go_wp2_with (go_at_call 110; refine (spec_tyLetters s 16 _ hs).mono ?_; rintro e w' ⟨rfl, rfl⟩)
  go_ret
  exact ⟨rfl, rfl⟩
theorem impl_IsSort (s : Srt) (w : World) (hs : s.code.size ≤ 1048577) : Calls Try.prog 75 #[.agg #[.string s.code, .int .i64 s.set]] w fun e w' => e = .returned (.bool (srtOk s)) ∧ Ext w w' := by
  obtain ⟨code, set⟩ := s
  simp only at hs
  cases t1 : lets code 1 3
  · have hv : srtOk ⟨code, set⟩ = false := by simp [srtOk, t1]
    rw [hv]; clear hv
    go_enter Try.func75, Try.ntmps75
    go_wp2_with (go_at_call 111; refine (impl_isCode code _ hs).mono ?_; rintro e w' ⟨rfl, rfl⟩)
    go_ret
    exact ⟨rfl, (by repeat (first | exact Ext.refl _ | assumption | refine Ext.trans ?_ (Ext.alloc _ _) | refine Ext.trans ?_ (Ext.drew _) | refine Ext.trans ?_ (Ext.drewN _ _) | refine Ext.trans ?_ (by assumption)))⟩
  · have hv : srtOk ⟨code, set⟩ = inB set 1 54 := by simp [srtOk, t1]
    rw [hv]; clear hv
    go_enter Try.func75, Try.ntmps75
    go_wp2_with (first | (go_at_call 111; refine (impl_isCode code _ hs).mono ?_; rintro e w' ⟨rfl, rfl⟩) | (go_at_call 85; refine (within_any _ _ _ _).mono ?_; rintro e w' ⟨rfl, rfl⟩))
    go_ret
    exact ⟨rfl, (by repeat (first | exact Ext.refl _ | assumption | refine Ext.trans ?_ (Ext.alloc _ _) | refine Ext.trans ?_ (Ext.drew _) | refine Ext.trans ?_ (Ext.drewN _ _) | refine Ext.trans ?_ (by assumption)))⟩
theorem spec_tySort (s : Srt) (w : World) (hs : s.code.size ≤ 1048577) : Calls Try.prog 73 #[.agg #[.string s.code, .int .i64 s.set]] w fun e w' => e = .returned (.bool (srtOk s)) ∧ Ext w w' := by
  obtain ⟨code, set⟩ := s
  simp only at hs
  cases t1 : lets code 1 3
  · have hv : srtOk ⟨code, set⟩ = false := by simp [srtOk, t1]
    rw [hv]; clear hv
    go_enter Try.func73, Try.ntmps73
    go_wp2_with (go_at_call 110; refine (spec_tyLetters code 3 _ hs).mono ?_; rintro e w' ⟨rfl, rfl⟩)
    go_ret
    exact ⟨rfl, (by repeat (first | exact Ext.refl _ | assumption | refine Ext.trans ?_ (Ext.alloc _ _) | refine Ext.trans ?_ (Ext.drew _) | refine Ext.trans ?_ (Ext.drewN _ _) | refine Ext.trans ?_ (by assumption)))⟩
  · have hv : srtOk ⟨code, set⟩ = inB set 1 54 := by simp [srtOk, t1]
    rw [hv]; clear hv
    go_enter Try.func73, Try.ntmps73
    go_wp2_with (first | (go_at_call 110; refine (spec_tyLetters code 3 _ hs).mono ?_; rintro e w' ⟨rfl, rfl⟩) | (go_at_call 81; refine (l1In_any _ _ _ _).mono ?_; rintro e w' ⟨rfl, rfl⟩))
    go_ret
    exact ⟨rfl, (by repeat (first | exact Ext.refl _ | assumption | refine Ext.trans ?_ (Ext.alloc _ _) | refine Ext.trans ?_ (Ext.drew _) | refine Ext.trans ?_ (Ext.drewN _ _) | refine Ext.trans ?_ (by assumption)))⟩
theorem impl_IsFont (A : Option Addr) (c : Nat) (f : List Srt) (lo hi : Nat) (w : World) (hl : f.length ≤ 1048577) (hb : ∀ s ∈ f, s.code.size ≤ 1048577) (hr : RdS w lo hi A f) :
    Calls Try.prog 67 #[.slice A f.length c] w fun e w' => e = .returned (.bool (font f)) ∧ Ext w w' := by
  have HB := Lib.hid hb; clear hb
  go_enter Try.func67, Try.ntmps67
  go_wp2
  go_loopw [7] (fun i wr => ∃ k : Nat, k ≤ f.length ∧ i = .int .i64 k ∧ fontTo f k = true ∧ Ext w wr) (fun i _ => f.length - (intOf i).toNat)
  case atStart => exact ⟨0, Nat.zero_le _, rfl, rfl, Ext.refl _⟩
  case round =>
    obtain ⟨k, hk, rfl, ha, hE⟩ := hrel
    have HA := Lib.hid ha; clear ha
    by_cases hlt : k < f.length
    · obtain ⟨s, b, off, HX, eA, h3, c0, c1⟩ := RdS.get (hr.ext hE) hlt
      subst eA
      have hs := HB.out s (List.mem_of_getElem? HX.out)
      have bad : fontAt f k = false → font f = false := font_no hlt
      have stp : fontAt f k = true → fontTo f (k + 1) = true := fun h => by rw [fontTo_succ, HA.out, h]; rfl
      have BAD := Lib.hid bad; have STP := Lib.hid stp
      clear bad stp
      go_wp2_with fail
      obtain ⟨w0, hw0⟩ : ∃ w0, w0 = wr.alloc (.cells #[.string s.code, .int .i64 s.set] 46) := ⟨_, rfl⟩
      have x0 : w0.cell? ⟨wr.heap.size, 0, none⟩ = some (.string s.code) := by rw [hw0]; exact box_new (Ext.refl _) rfl
      have x1 : w0.cell? ⟨wr.heap.size, 1, none⟩ = some (.int .i64 s.set) := by rw [hw0]; exact box_new (Ext.refl _) rfl
      have hE0 : Ext wr w0 := by rw [hw0]; exact Ext.alloc _ _
      rw [← hw0]
      clear hw0
      have hz0 : wr.heap.size < w0.heap.size := World.block_lt_of_cell? w0 _ x0
      have e0 : ∀ y : XW w0, y.v.cell? ⟨wr.heap.size, 0, none⟩ = _ := fun y => y.h.cell x0
      have e1 : ∀ y : XW w0, y.v.cell? ⟨wr.heap.size, 1, none⟩ = _ := fun y => y.h.cell x1
      have hC : ∀ y : XW w0, _ := fun y => impl_IsSort s y.v hs
      cases t1 : srtOk s
      · have HV : Hid (fontAt f k = false) := fontAt_bad HX.out t1
        simp only [t1] at hC
        refine wp_region_xw (w0 := w0) (by kernel_rfl) (by kernel_rfl) (by repeat (first | exact Ext.refl _ | assumption | refine Ext.trans ?_ (Ext.alloc _ _) | refine Ext.trans ?_ (Ext.drew _) | refine Ext.trans ?_ (Ext.drewN _ _) | refine Ext.trans ?_ (by assumption))) ?_; (repeat (go_big_quiet_step ((go_at_call 75; with_reducible exact XW.call (hC _))))); refine wpQuiet_nil ?_; intro w1 hw'; obtain ⟨⟨_, hEw1⟩, hw''⟩ := hw'; subst hw''
        clear hC e0 e1
        go_wp2
        go_ret
        exact ⟨ret_bool (BAD.out HV.out).symm, (by repeat (first | exact Ext.refl _ | assumption | refine Ext.trans ?_ (Ext.alloc _ _) | refine Ext.trans ?_ (Ext.drew _) | refine Ext.trans ?_ (Ext.drewN _ _) | refine Ext.trans ?_ (by assumption)))⟩
      simp only [t1] at hC
      by_cases hk0 : k = 0
      · subst hk0
        have HV : Hid (fontAt f 0 = true) := by show _ = _; rw [fontAt_zero HX.out, t1]
        refine wp_region_xw (w0 := w0) (by kernel_rfl) (by kernel_rfl) (by repeat (first | exact Ext.refl _ | assumption | refine Ext.trans ?_ (Ext.alloc _ _) | refine Ext.trans ?_ (Ext.drew _) | refine Ext.trans ?_ (Ext.drewN _ _) | refine Ext.trans ?_ (by assumption))) ?_; (repeat (go_big_quiet_step ((go_at_call 75; with_reducible exact XW.call (hC _))))); refine wpQuiet_nil ?_; intro w1 hw'; obtain ⟨⟨_, hEw1⟩, hw''⟩ := hw'; subst hw''
        clear hC e0 e1
        go_wp2
        go_roundw
        case rel => exact ⟨1, by omega, by go_num, STP.out HV.out, (by repeat (first | exact Ext.refl _ | assumption | refine Ext.trans ?_ (Ext.alloc _ _) | refine Ext.trans ?_ (Ext.drew _) | refine Ext.trans ?_ (Ext.drewN _ _) | refine Ext.trans ?_ (by assumption)))⟩
        case measure => simp [intOf]; omega
      · obtain ⟨a, b', off', HY, eA, _, d0, d1⟩ := RdS.get (hr.ext (hE.trans hE0)) (k := k - 1) (by omega)
        injection eA with eA; injection eA with eb eo _; subst eb; subst eo
        have hv : fontAt f k = lessB a s := by rw [fontAt_pos (by omega) HX.out HY.out, t1]; simp
        have HV := Lib.hid hv; clear hv
        have e2 : ∀ y : XW w0, y.v.cell? ⟨b, off + (k - 1) * 2, none⟩ = _ := fun y => y.h.cell d0
        have p0 : 0 < k := by omega
        have p1 : (0 : Int) < k := by omega
        clear hk0
        have p2 : (1 : Int) ≤ k := by omega
        have p3 : IntKind.i64.wrap ((k : Int) - 1) = (k : Int) - 1 := IntWalk.i64_in _ (by omega)
        have p4 : (0 : Int) ≤ (k : Int) - 1 := by omega
        have p5 : ((k : Int) - 1).toNat = k - 1 := by omega
        have p6 : (k : Int) - 1 < f.length := by omega
        cases t2 : lessB a s
        · have q2 : Op.bytesLess a.code.toList s.code.toList = false := t2
          rw [t2] at HV
          refine wp_region_xw (w0 := w0) (by kernel_rfl) (by kernel_rfl) (by repeat (first | exact Ext.refl _ | assumption | refine Ext.trans ?_ (Ext.alloc _ _) | refine Ext.trans ?_ (Ext.drew _) | refine Ext.trans ?_ (Ext.drewN _ _) | refine Ext.trans ?_ (by assumption))) ?_; (repeat (go_big_quiet_step ((go_at_call 75; with_reducible exact XW.call (hC _))))); refine wpQuiet_nil ?_; intro w1 hw'; obtain ⟨⟨_, hEw1⟩, hw''⟩ := hw'; subst hw''
          clear hC e0 e1 e2 p3 p4 p5 p6
          go_wp2
          go_ret
          exact ⟨ret_bool (BAD.out HV.out).symm, (by repeat (first | exact Ext.refl _ | assumption | refine Ext.trans ?_ (Ext.alloc _ _) | refine Ext.trans ?_ (Ext.drew _) | refine Ext.trans ?_ (Ext.drewN _ _) | refine Ext.trans ?_ (by assumption)))⟩
        · have q2 : Op.bytesLess a.code.toList s.code.toList = true := t2
          rw [t2] at HV
          refine wp_region_xw (w0 := w0) (by kernel_rfl) (by kernel_rfl) (by repeat (first | exact Ext.refl _ | assumption | refine Ext.trans ?_ (Ext.alloc _ _) | refine Ext.trans ?_ (Ext.drew _) | refine Ext.trans ?_ (Ext.drewN _ _) | refine Ext.trans ?_ (by assumption))) ?_; (repeat (go_big_quiet_step ((go_at_call 75; with_reducible exact XW.call (hC _))))); refine wpQuiet_nil ?_; intro w1 hw'; obtain ⟨⟨_, hEw1⟩, hw''⟩ := hw'; subst hw''
          clear hC e0 e1 e2 p3 p4 p5 p6
          go_wp2
          go_roundw
          case rel => exact ⟨k + 1, by omega, by go_num, STP.out HV.out, (by repeat (first | exact Ext.refl _ | assumption | refine Ext.trans ?_ (Ext.alloc _ _) | refine Ext.trans ?_ (Ext.drew _) | refine Ext.trans ?_ (Ext.drewN _ _) | refine Ext.trans ?_ (by assumption)))⟩
          case measure => simp [intOf]; omega
    · have hkl : k = f.length := by omega
      subst hkl
      clear hlt
      have HV : Hid (font f = inB f.length 1 32) := by show _ = _; rw [font, HA.out]; rfl
      go_wp2_with (go_at_call 85; refine (within_any _ _ _ _).mono ?_; rintro e w' ⟨rfl, rfl⟩)
      go_ret
      exact ⟨ret_bool HV.out.symm, hE⟩
theorem spec_tyFont (A : Option Addr) (c : Nat) (f : List Srt) (lo hi : Nat) (w : World) (hl : f.length ≤ 1048577) (hb : ∀ s ∈ f, s.code.size ≤ 1048577) (hr : RdS w lo hi A f) :
    Calls Try.prog 72 #[.slice A f.length c] w fun e w' => e = .returned (.bool (font f)) ∧ Ext w w' := by
  have HB := Lib.hid hb; clear hb
  go_enter Try.func72, Try.ntmps72
  go_wp2
  go_loopw [7] (fun i wr => ∃ k : Nat, k ≤ f.length ∧ i = .int .i64 k ∧ fontTo f k = true ∧ Ext w wr) (fun i _ => f.length - (intOf i).toNat)
  case atStart => exact ⟨0, Nat.zero_le _, rfl, rfl, Ext.refl _⟩
  case round =>
    obtain ⟨k, hk, rfl, ha, hE⟩ := hrel
    have HA := Lib.hid ha; clear ha
    by_cases hlt : k < f.length
    · obtain ⟨s, b, off, HX, eA, h3, c0, c1⟩ := RdS.get (hr.ext hE) hlt
      subst eA
      have hs := HB.out s (List.mem_of_getElem? HX.out)
      have bad : fontAt f k = false → font f = false := font_no hlt
      have stp : fontAt f k = true → fontTo f (k + 1) = true := fun h => by rw [fontTo_succ, HA.out, h]; rfl
      have BAD := Lib.hid bad; have STP := Lib.hid stp
      clear bad stp
      go_wp2_with fail
      obtain ⟨w0, hw0⟩ : ∃ w0, w0 = wr.alloc (.cells #[.string s.code, .int .i64 s.set] 46) := ⟨_, rfl⟩
      have x0 : w0.cell? ⟨wr.heap.size, 0, none⟩ = some (.string s.code) := by rw [hw0]; exact box_new (Ext.refl _) rfl
      have x1 : w0.cell? ⟨wr.heap.size, 1, none⟩ = some (.int .i64 s.set) := by rw [hw0]; exact box_new (Ext.refl _) rfl
      have hE0 : Ext wr w0 := by rw [hw0]; exact Ext.alloc _ _
      rw [← hw0]
      clear hw0
      have hz0 : wr.heap.size < w0.heap.size := World.block_lt_of_cell? w0 _ x0
      have e0 : ∀ y : XW w0, y.v.cell? ⟨wr.heap.size, 0, none⟩ = _ := fun y => y.h.cell x0
      have e1 : ∀ y : XW w0, y.v.cell? ⟨wr.heap.size, 1, none⟩ = _ := fun y => y.h.cell x1
      have hC : ∀ y : XW w0, _ := fun y => spec_tySort s y.v hs
      cases t1 : srtOk s
      · have HV : Hid (fontAt f k = false) := fontAt_bad HX.out t1
        simp only [t1] at hC
        refine wp_region_xw (w0 := w0) (by kernel_rfl) (by kernel_rfl) (by repeat (first | exact Ext.refl _ | assumption | refine Ext.trans ?_ (Ext.alloc _ _) | refine Ext.trans ?_ (Ext.drew _) | refine Ext.trans ?_ (Ext.drewN _ _) | refine Ext.trans ?_ (by assumption))) ?_; (repeat (go_big_quiet_step ((go_at_call 73; with_reducible exact XW.call (hC _))))); refine wpQuiet_nil ?_; intro w1 hw'; obtain ⟨⟨_, hEw1⟩, hw''⟩ := hw'; subst hw''
        clear hC e0 e1
        go_wp2
        go_ret
        exact ⟨ret_bool (BAD.out HV.out).symm, (by repeat (first | exact Ext.refl _ | assumption | refine Ext.trans ?_ (Ext.alloc _ _) | refine Ext.trans ?_ (Ext.drew _) | refine Ext.trans ?_ (Ext.drewN _ _) | refine Ext.trans ?_ (by assumption)))⟩
      simp only [t1] at hC
      by_cases hk0 : k = 0
      · subst hk0
        have HV : Hid (fontAt f 0 = true) := by show _ = _; rw [fontAt_zero HX.out, t1]
        refine wp_region_xw (w0 := w0) (by kernel_rfl) (by kernel_rfl) (by repeat (first | exact Ext.refl _ | assumption | refine Ext.trans ?_ (Ext.alloc _ _) | refine Ext.trans ?_ (Ext.drew _) | refine Ext.trans ?_ (Ext.drewN _ _) | refine Ext.trans ?_ (by assumption))) ?_; (repeat (go_big_quiet_step ((go_at_call 73; with_reducible exact XW.call (hC _))))); refine wpQuiet_nil ?_; intro w1 hw'; obtain ⟨⟨_, hEw1⟩, hw''⟩ := hw'; subst hw''
        clear hC e0 e1
        go_wp2
        go_roundw
        case rel => exact ⟨1, by omega, by go_num, STP.out HV.out, (by repeat (first | exact Ext.refl _ | assumption | refine Ext.trans ?_ (Ext.alloc _ _) | refine Ext.trans ?_ (Ext.drew _) | refine Ext.trans ?_ (Ext.drewN _ _) | refine Ext.trans ?_ (by assumption)))⟩
        case measure => simp [intOf]; omega
      · obtain ⟨a, b', off', HY, eA, _, d0, d1⟩ := RdS.get (hr.ext (hE.trans hE0)) (k := k - 1) (by omega)
        injection eA with eA; injection eA with eb eo _; subst eb; subst eo
        have hv : fontAt f k = lessB a s := by rw [fontAt_pos (by omega) HX.out HY.out, t1]; simp
        have HV := Lib.hid hv; clear hv
        have e2 : ∀ y : XW w0, y.v.cell? ⟨b, off + (k - 1) * 2, none⟩ = _ := fun y => y.h.cell d0
        have p0 : 0 < k := by omega
        have p1 : (0 : Int) < k := by omega
        clear hk0
        have p2 : (1 : Int) ≤ k := by omega
        have p3 : IntKind.i64.wrap ((k : Int) - 1) = (k : Int) - 1 := IntWalk.i64_in _ (by omega)
        have p4 : (0 : Int) ≤ (k : Int) - 1 := by omega
        have p5 : ((k : Int) - 1).toNat = k - 1 := by omega
        have p6 : (k : Int) - 1 < f.length := by omega
        cases t2 : lessB a s
        · have q2 : Op.bytesLess a.code.toList s.code.toList = false := t2
          rw [t2] at HV
          refine wp_region_xw (w0 := w0) (by kernel_rfl) (by kernel_rfl) (by repeat (first | exact Ext.refl _ | assumption | refine Ext.trans ?_ (Ext.alloc _ _) | refine Ext.trans ?_ (Ext.drew _) | refine Ext.trans ?_ (Ext.drewN _ _) | refine Ext.trans ?_ (by assumption))) ?_; (repeat (go_big_quiet_step ((go_at_call 73; with_reducible exact XW.call (hC _))))); refine wpQuiet_nil ?_; intro w1 hw'; obtain ⟨⟨_, hEw1⟩, hw''⟩ := hw'; subst hw''
          clear hC e0 e1 e2 p3 p4 p5 p6
          go_wp2
          go_ret
          exact ⟨ret_bool (BAD.out HV.out).symm, (by repeat (first | exact Ext.refl _ | assumption | refine Ext.trans ?_ (Ext.alloc _ _) | refine Ext.trans ?_ (Ext.drew _) | refine Ext.trans ?_ (Ext.drewN _ _) | refine Ext.trans ?_ (by assumption)))⟩
        · have q2 : Op.bytesLess a.code.toList s.code.toList = true := t2
          rw [t2] at HV
          refine wp_region_xw (w0 := w0) (by kernel_rfl) (by kernel_rfl) (by repeat (first | exact Ext.refl _ | assumption | refine Ext.trans ?_ (Ext.alloc _ _) | refine Ext.trans ?_ (Ext.drew _) | refine Ext.trans ?_ (Ext.drewN _ _) | refine Ext.trans ?_ (by assumption))) ?_; (repeat (go_big_quiet_step ((go_at_call 73; with_reducible exact XW.call (hC _))))); refine wpQuiet_nil ?_; intro w1 hw'; obtain ⟨⟨_, hEw1⟩, hw''⟩ := hw'; subst hw''
          clear hC e0 e1 e2 p3 p4 p5 p6
          go_wp2
          go_roundw
          case rel => exact ⟨k + 1, by omega, by go_num, STP.out HV.out, (by repeat (first | exact Ext.refl _ | assumption | refine Ext.trans ?_ (Ext.alloc _ _) | refine Ext.trans ?_ (Ext.drew _) | refine Ext.trans ?_ (Ext.drewN _ _) | refine Ext.trans ?_ (by assumption)))⟩
          case measure => simp [intOf]; omega
    · have hkl : k = f.length := by omega
      subst hkl
      clear hlt
      have HV : Hid (font f = inB f.length 1 32) := by show _ = _; rw [font, HA.out]; rfl
      go_wp2_with (go_at_call 81; refine (l1In_any _ _ _ _).mono ?_; rintro e w' ⟨rfl, rfl⟩)
      go_ret
      exact ⟨ret_bool HV.out.symm, hE⟩
theorem impl_sortAt (A : Option Addr) (n : Nat) (f : List Srt) (c : ByteArray) (lo hi : Nat) (w : World) (hl : f.length ≤ 1048577) (hr : RdS w lo hi A f) :
    Calls Try.prog 76 #[.slice A f.length n, .string c] w fun e w' => e = .returned (.int .i64 (findP f c)) ∧ Ext w w' := by
  go_enter Try.func76, Try.ntmps76
  go_wp2
  go_loopw [9] (fun i wr => ∃ k : Nat, k ≤ f.length ∧ i = .int .i64 k ∧ findTo f c k = true ∧ Ext w wr) (fun i _ => f.length - (intOf i).toNat)
  case atStart => exact ⟨0, Nat.zero_le _, rfl, rfl, Ext.refl _⟩
  case round =>
    obtain ⟨k, hk, rfl, ha, hE⟩ := hrel
    have HA := Lib.hid ha; clear ha
    by_cases hlt : k < f.length
    · obtain ⟨s, b, off, HX, eA, h3, c0, c1⟩ := RdS.get (hr.ext hE) hlt
      subst eA
      cases t1 : (s.code.toList == c.toList)
      · have HV : Hid (findTo f c (k + 1) = true) := by show _ = _; rw [findTo_succ HX.out, HA.out, t1]; rfl
        go_wp2
        go_roundw
        case rel => exact ⟨k + 1, by omega, by go_num, HV.out, (by repeat (first | exact Ext.refl _ | assumption | refine Ext.trans ?_ (Ext.alloc _ _) | refine Ext.trans ?_ (Ext.drew _) | refine Ext.trans ?_ (Ext.drewN _ _) | refine Ext.trans ?_ (by assumption)))⟩
        case measure => simp [intOf]; omega
      · have HV : Hid (findP f c = k) := findP_at HA.out HX.out t1
        go_wp2
        go_ret
        exact ⟨ret_int HV.out.symm, (by repeat (first | exact Ext.refl _ | assumption | refine Ext.trans ?_ (Ext.alloc _ _) | refine Ext.trans ?_ (Ext.drew _) | refine Ext.trans ?_ (Ext.drewN _ _) | refine Ext.trans ?_ (by assumption)))⟩
    · have hkl : k = f.length := by omega
      subst hkl
      clear hlt
      have HV : Hid (findP f c = -1) := findP_none HA.out
      go_wp2
      go_ret
      exact ⟨ret_int HV.out.symm, hE⟩
theorem spec_tyFind (A : Option Addr) (n : Nat) (f : List Srt) (c : ByteArray) (lo hi : Nat) (w : World) (hl : f.length ≤ 1048577) (hr : RdS w lo hi A f) :
    Calls Try.prog 74 #[.slice A f.length n, .string c] w fun e w' => e = .returned (.int .i64 (findP f c)) ∧ Ext w w' := by
  go_enter Try.func74, Try.ntmps74
  go_wp2
  go_loopw [9] (fun i wr => ∃ k : Nat, k ≤ f.length ∧ i = .int .i64 k ∧ findTo f c k = true ∧ Ext w wr) (fun i _ => f.length - (intOf i).toNat)
  case atStart => exact ⟨0, Nat.zero_le _, rfl, rfl, Ext.refl _⟩
  case round =>
    obtain ⟨k, hk, rfl, ha, hE⟩ := hrel
    have HA := Lib.hid ha; clear ha
    by_cases hlt : k < f.length
    · obtain ⟨s, b, off, HX, eA, h3, c0, c1⟩ := RdS.get (hr.ext hE) hlt
      subst eA
      cases t1 : (s.code.toList == c.toList)
      · have HV : Hid (findTo f c (k + 1) = true) := by show _ = _; rw [findTo_succ HX.out, HA.out, t1]; rfl
        go_wp2
        go_roundw
        case rel => exact ⟨k + 1, by omega, by go_num, HV.out, (by repeat (first | exact Ext.refl _ | assumption | refine Ext.trans ?_ (Ext.alloc _ _) | refine Ext.trans ?_ (Ext.drew _) | refine Ext.trans ?_ (Ext.drewN _ _) | refine Ext.trans ?_ (by assumption)))⟩
        case measure => simp [intOf]; omega
      · have HV : Hid (findP f c = k) := findP_at HA.out HX.out t1
        go_wp2
        go_ret
        exact ⟨ret_int HV.out.symm, (by repeat (first | exact Ext.refl _ | assumption | refine Ext.trans ?_ (Ext.alloc _ _) | refine Ext.trans ?_ (Ext.drew _) | refine Ext.trans ?_ (Ext.drewN _ _) | refine Ext.trans ?_ (by assumption)))⟩
    · have hkl : k = f.length := by omega
      subst hkl
      clear hlt
      have HV : Hid (findP f c = -1) := findP_none HA.out
      go_wp2
      go_ret
      exact ⟨ret_int HV.out.symm, hE⟩
end Go.Proofs.Ytnkkpphjahpadaa
