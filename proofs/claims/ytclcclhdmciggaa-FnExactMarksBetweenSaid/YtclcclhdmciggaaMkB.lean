/- The walks of AreMarks: the program's and the reference's. -/
import Derived.Test.YtclcclhdmciggaaMkA
namespace Go.Proofs.Ytclcclhdmciggaa
open Go.RowKit
set_option linter.unusedVariables false
theorem impl_isMarkAlone (m : Mrk) (w : World) (hs : m.text.size ≤ 1048577) :
    Calls Try.prog 35 #[.agg #[.int .i64 m.line, .int .i64 m.place, .int .i64 m.kind, .string m.text]] w fun e w' => e = .returned (.bool (mkOk m)) ∧ Ext w w' := by
  obtain ⟨line, place, kind, text⟩ := m
  simp only at hs
  cases h1 : inB line 0 11
  · have hv : mkOk ⟨line, place, kind, text⟩ = false := by simp [mkOk, h1]
    rw [hv]; clear hv
    go_enter Try.func35, Try.ntmps35
    go_wp2_with (go_at_call 38; refine (within_any _ _ _ _).mono ?_; rintro e w' ⟨rfl, rfl⟩)
    go_ret
    exact ⟨rfl, (by repeat (first | exact Ext.refl _ | assumption | refine Ext.trans ?_ (Ext.alloc _ _) | refine Ext.trans ?_ (Ext.drew _) | refine Ext.trans ?_ (Ext.drewN _ _) | refine Ext.trans ?_ (by assumption)))⟩
  cases h2 : inB place 0 40
  · have hv : mkOk ⟨line, place, kind, text⟩ = false := by simp [mkOk, h2]
    rw [hv]; clear hv
    go_enter Try.func35, Try.ntmps35
    go_wp2_with (go_at_call 38; refine (within_any _ _ _ _).mono ?_; rintro e w' ⟨rfl, rfl⟩)
    go_ret
    exact ⟨rfl, (by repeat (first | exact Ext.refl _ | assumption | refine Ext.trans ?_ (Ext.alloc _ _) | refine Ext.trans ?_ (Ext.drew _) | refine Ext.trans ?_ (Ext.drewN _ _) | refine Ext.trans ?_ (by assumption)))⟩
  by_cases k1 : kind = 1
  · subst k1
    have hv : mkOk ⟨line, place, 1, text⟩ = text.toList.isEmpty := by simp [mkOk, h1, h2]
    rw [hv]; clear hv
    go_enter Try.func35, Try.ntmps35
    go_wp2_with (go_at_call 38; refine (within_any _ _ _ _).mono ?_; rintro e w' ⟨rfl, rfl⟩)
    go_ret
    exact ⟨rfl, (by repeat (first | exact Ext.refl _ | assumption | refine Ext.trans ?_ (Ext.alloc _ _) | refine Ext.trans ?_ (Ext.drew _) | refine Ext.trans ?_ (Ext.drewN _ _) | refine Ext.trans ?_ (by assumption)))⟩
  by_cases k4 : kind = 4
  · subst k4
    have hv : mkOk ⟨line, place, 4, text⟩ = text.toList.isEmpty := by simp [mkOk, h1, h2]
    rw [hv]; clear hv k1
    go_enter Try.func35, Try.ntmps35
    go_wp2_with (go_at_call 38; refine (within_any _ _ _ _).mono ?_; rintro e w' ⟨rfl, rfl⟩)
    go_ret
    exact ⟨rfl, (by repeat (first | exact Ext.refl _ | assumption | refine Ext.trans ?_ (Ext.alloc _ _) | refine Ext.trans ?_ (Ext.drew _) | refine Ext.trans ?_ (Ext.drewN _ _) | refine Ext.trans ?_ (by assumption)))⟩
  by_cases k2 : kind = 2
  · subst k2
    have hv : mkOk ⟨line, place, 2, text⟩ = txt text 1 10 := by simp [mkOk, h1, h2]
    rw [hv]; clear hv k1 k4
    go_enter Try.func35, Try.ntmps35
    go_wp2_with (first | (go_at_call 38; refine (within_any _ _ _ _).mono ?_; rintro e w' ⟨rfl, rfl⟩) | (go_at_call 46; refine (impl_isPlainText text _ _ _ hs).mono ?_; rintro e w' ⟨rfl, rfl⟩))
    go_ret
    exact ⟨rfl, (by repeat (first | exact Ext.refl _ | assumption | refine Ext.trans ?_ (Ext.alloc _ _) | refine Ext.trans ?_ (Ext.drew _) | refine Ext.trans ?_ (Ext.drewN _ _) | refine Ext.trans ?_ (by assumption)))⟩
  by_cases k3 : kind = 3
  · subst k3
    have hv : mkOk ⟨line, place, 3, text⟩ = txt text 1 10 := by simp [mkOk, h1, h2]
    rw [hv]; clear hv k1 k4 k2
    go_enter Try.func35, Try.ntmps35
    go_wp2_with (first | (go_at_call 38; refine (within_any _ _ _ _).mono ?_; rintro e w' ⟨rfl, rfl⟩) | (go_at_call 46; refine (impl_isPlainText text _ _ _ hs).mono ?_; rintro e w' ⟨rfl, rfl⟩))
    go_ret
    exact ⟨rfl, (by repeat (first | exact Ext.refl _ | assumption | refine Ext.trans ?_ (Ext.alloc _ _) | refine Ext.trans ?_ (Ext.drew _) | refine Ext.trans ?_ (Ext.drewN _ _) | refine Ext.trans ?_ (by assumption)))⟩
  · have hv : mkOk ⟨line, place, kind, text⟩ = false := by simp [mkOk, k1, k2, k3, k4]
    rw [hv]; clear hv
    have t1 : (kind == 1) = false := by simpa using k1
    have t2 : (kind == 2) = false := by simpa using k2
    have t3 : (kind == 3) = false := by simpa using k3
    have t4 : (kind == 4) = false := by simpa using k4
    clear k1 k2 k3 k4
    go_enter Try.func35, Try.ntmps35
    go_wp2_with (go_at_call 38; refine (within_any _ _ _ _).mono ?_; rintro e w' ⟨rfl, rfl⟩)
    go_ret
    exact ⟨rfl, (by repeat (first | exact Ext.refl _ | assumption | refine Ext.trans ?_ (Ext.alloc _ _) | refine Ext.trans ?_ (Ext.drew _) | refine Ext.trans ?_ (Ext.drewN _ _) | refine Ext.trans ?_ (by assumption)))⟩
theorem spec_pfMark (m : Mrk) (w : World) (hs : m.text.size ≤ 1048577) :
    Calls Try.prog 45 #[.agg #[.int .i64 m.line, .int .i64 m.place, .int .i64 m.kind, .string m.text]] w fun e w' => e = .returned (.bool (mkOk m)) ∧ Ext w w' := by
  obtain ⟨line, place, kind, text⟩ := m
  simp only at hs
  cases h1 : inB line 0 11
  · have hv : mkOk ⟨line, place, kind, text⟩ = false := by simp [mkOk, h1]
    rw [hv]; clear hv
    go_enter Try.func45, Try.ntmps45
    go_wp2_with (go_at_call 48; refine (l1In_any _ _ _ _).mono ?_; rintro e w' ⟨rfl, rfl⟩)
    go_ret
    exact ⟨rfl, (by repeat (first | exact Ext.refl _ | assumption | refine Ext.trans ?_ (Ext.alloc _ _) | refine Ext.trans ?_ (Ext.drew _) | refine Ext.trans ?_ (Ext.drewN _ _) | refine Ext.trans ?_ (by assumption)))⟩
  cases h2 : inB place 0 40
  · have hv : mkOk ⟨line, place, kind, text⟩ = false := by simp [mkOk, h2]
    rw [hv]; clear hv
    go_enter Try.func45, Try.ntmps45
    go_wp2_with (go_at_call 48; refine (l1In_any _ _ _ _).mono ?_; rintro e w' ⟨rfl, rfl⟩)
    go_ret
    exact ⟨rfl, (by repeat (first | exact Ext.refl _ | assumption | refine Ext.trans ?_ (Ext.alloc _ _) | refine Ext.trans ?_ (Ext.drew _) | refine Ext.trans ?_ (Ext.drewN _ _) | refine Ext.trans ?_ (by assumption)))⟩
  by_cases k1 : kind = 1
  · subst k1
    have hv : mkOk ⟨line, place, 1, text⟩ = text.toList.isEmpty := by simp [mkOk, h1, h2]
    rw [hv]; clear hv
    go_enter Try.func45, Try.ntmps45
    go_wp2_with (go_at_call 48; refine (l1In_any _ _ _ _).mono ?_; rintro e w' ⟨rfl, rfl⟩)
    go_ret
    exact ⟨rfl, (by repeat (first | exact Ext.refl _ | assumption | refine Ext.trans ?_ (Ext.alloc _ _) | refine Ext.trans ?_ (Ext.drew _) | refine Ext.trans ?_ (Ext.drewN _ _) | refine Ext.trans ?_ (by assumption)))⟩
  by_cases k4 : kind = 4
  · subst k4
    have hv : mkOk ⟨line, place, 4, text⟩ = text.toList.isEmpty := by simp [mkOk, h1, h2]
    rw [hv]; clear hv k1
    go_enter Try.func45, Try.ntmps45
    go_wp2_with (go_at_call 48; refine (l1In_any _ _ _ _).mono ?_; rintro e w' ⟨rfl, rfl⟩)
    go_ret
    exact ⟨rfl, (by repeat (first | exact Ext.refl _ | assumption | refine Ext.trans ?_ (Ext.alloc _ _) | refine Ext.trans ?_ (Ext.drew _) | refine Ext.trans ?_ (Ext.drewN _ _) | refine Ext.trans ?_ (by assumption)))⟩
  by_cases k2 : kind = 2
  · subst k2
    have hv : mkOk ⟨line, place, 2, text⟩ = txt text 1 10 := by simp [mkOk, h1, h2]
    rw [hv]; clear hv k1 k4
    go_enter Try.func45, Try.ntmps45
    go_wp2_with (first | (go_at_call 48; refine (l1In_any _ _ _ _).mono ?_; rintro e w' ⟨rfl, rfl⟩) | (go_at_call 47; refine (spec_pfLetters text _ _ _ hs).mono ?_; rintro e w' ⟨rfl, rfl⟩))
    go_ret
    exact ⟨rfl, (by repeat (first | exact Ext.refl _ | assumption | refine Ext.trans ?_ (Ext.alloc _ _) | refine Ext.trans ?_ (Ext.drew _) | refine Ext.trans ?_ (Ext.drewN _ _) | refine Ext.trans ?_ (by assumption)))⟩
  by_cases k3 : kind = 3
  · subst k3
    have hv : mkOk ⟨line, place, 3, text⟩ = txt text 1 10 := by simp [mkOk, h1, h2]
    rw [hv]; clear hv k1 k4 k2
    go_enter Try.func45, Try.ntmps45
    go_wp2_with (first | (go_at_call 48; refine (l1In_any _ _ _ _).mono ?_; rintro e w' ⟨rfl, rfl⟩) | (go_at_call 47; refine (spec_pfLetters text _ _ _ hs).mono ?_; rintro e w' ⟨rfl, rfl⟩))
    go_ret
    exact ⟨rfl, (by repeat (first | exact Ext.refl _ | assumption | refine Ext.trans ?_ (Ext.alloc _ _) | refine Ext.trans ?_ (Ext.drew _) | refine Ext.trans ?_ (Ext.drewN _ _) | refine Ext.trans ?_ (by assumption)))⟩
  · have hv : mkOk ⟨line, place, kind, text⟩ = false := by simp [mkOk, k1, k2, k3, k4]
    rw [hv]; clear hv
    have t1 : (kind == 1) = false := by simpa using k1
    have t2 : (kind == 2) = false := by simpa using k2
    have t3 : (kind == 3) = false := by simpa using k3
    have t4 : (kind == 4) = false := by simpa using k4
    clear k1 k2 k3 k4
    go_enter Try.func45, Try.ntmps45
    go_wp2_with (go_at_call 48; refine (l1In_any _ _ _ _).mono ?_; rintro e w' ⟨rfl, rfl⟩)
    go_ret
    exact ⟨rfl, (by repeat (first | exact Ext.refl _ | assumption | refine Ext.trans ?_ (Ext.alloc _ _) | refine Ext.trans ?_ (Ext.drew _) | refine Ext.trans ?_ (Ext.drewN _ _) | refine Ext.trans ?_ (by assumption)))⟩
theorem spec_pfMark_v (v : Bool) (m : Mrk) (w : World) (hv : mkOk m = v) (hs : m.text.size ≤ 1048577) :
    Calls Try.prog 45 #[.agg #[.int .i64 m.line, .int .i64 m.place, .int .i64 m.kind, .string m.text]] w fun e w' => e = .returned (.bool v) ∧ Ext w w' := by
  subst hv; exact spec_pfMark m w hs
set_option maxRecDepth 100000 in
set_option maxHeartbeats 1000000 in
theorem impl_AreMarks (A B : Option Addr) (c d : Nat) (l : List ByteArray) (ms : List Mrk) (lo hi lo' hi' : Nat) (w : World) (hl : l.length ≤ 1048577) (hb : ∀ s ∈ l, s.size ≤ 1048577) (hl' : ms.length ≤ 1048577) (hb' : ∀ m ∈ ms, m.text.size ≤ 1048577) (hr : RdT w lo hi A l) (hr' : RdM w lo' hi' B ms) :
    Calls Try.prog 22 #[.slice A l.length c, .slice B ms.length d] w fun e w' => e = .returned (.bool (aMk l ms)) ∧ Ext w w' := by
  have HB := Lib.hid hb; have HB' := Lib.hid hb'
  clear hb'
  go_enter Try.func22, Try.ntmps22
  go_wp2
  go_loopw [10] (fun i wr => ∃ k : Nat, k ≤ ms.length ∧ i = .int .i64 k ∧ (ms.take k).all (mkAt l) = true ∧ Ext w wr) (fun i _ => ms.length - (intOf i).toNat)
  case atStart => exact ⟨0, Nat.zero_le _, rfl, rfl, Ext.refl _⟩
  case round =>
    obtain ⟨k, hk, rfl, ha, hE⟩ := hrel
    have HA := Lib.hid ha; clear ha
    by_cases hlt : k < ms.length
    · obtain ⟨m, b, off, HX, rfl, h3, c0, c1, c2, c3⟩ := RdM.get (hr'.ext hE) hlt
      have hs := HB'.out m (List.mem_of_getElem? HX.out)
      have bad : mkAt l m = false → aMk l ms = false := aMk_no HX.out
      have stp : mkAt l m = true → (ms.take (k + 1)).all (mkAt l) = true := fun h => by rw [all_take _ HX.out, HA.out, h]; rfl
      have BAD := Lib.hid bad; have STP := Lib.hid stp
      clear bad stp HX
      obtain ⟨line, place, kind, text⟩ := m
      simp only at c0 c1 c2 c3 hs
      cases tm : mkOk ⟨line, place, kind, text⟩
      · have HV : Hid (mkAt l ⟨line, place, kind, text⟩ = false) := by show _ = _; simp [mkAt, tm]
        have HTM := Lib.hid tm; clear tm
        go_wp2_with fail
        refine (impl_isMarkAlone ⟨line, place, kind, text⟩ _ hs).mono ?_
        rw [HTM.out]
        rintro e w2 ⟨rfl, hE2⟩
        obtain ⟨hc2, hf2⟩ := bcell hE2
        have hs2 := hE2.size
        simp only [World.size_alloc] at hs2
        go_wp2
        go_ret
        exact ⟨ret_bool (BAD.out HV.out).symm, (by repeat (first | exact Ext.refl _ | assumption | refine Ext.trans ?_ (Ext.alloc _ _) | refine Ext.trans ?_ (Ext.drew _) | refine Ext.trans ?_ (Ext.drewN _ _) | refine Ext.trans ?_ (by assumption)))⟩
      obtain ⟨⟨p1, p2⟩, ⟨p3, p4⟩, p5, p6⟩ := mkOk_parts tm
      simp only at p1 p2 p3 p4 p5 p6
      have HTM := Lib.hid tm
      obtain ⟨L, hL⟩ : ∃ L : Nat, line = L := ⟨line.toNat, by omega⟩
      subst hL
      clear tm
      by_cases hline : L < l.length
      case neg =>
        have HV : Hid (mkAt l ⟨(L : Int), place, kind, text⟩ = false) := by
          show _ = _
          have : decide ((L : Int) < (l.length : Int)) = false := by simpa using hline
          simp [mkAt, this]; intro _ h; omega
        have tl : decide ((l.length : Int) ≤ (L : Int)) = true := by simp; omega
        have tl2 : decide (l.length ≤ L) = true := by simp; omega
        go_wp2_with fail
        refine (impl_isMarkAlone ⟨(L : Int), place, kind, text⟩ _ hs).mono ?_
        rw [HTM.out]
        rintro e w2 ⟨rfl, hE2⟩
        obtain ⟨hc2, hf2⟩ := bcell hE2
        have hs2 := hE2.size
        simp only [World.size_alloc] at hs2
        go_wp2
        go_ret
        exact ⟨ret_bool (BAD.out HV.out).symm, (by repeat (first | exact Ext.refl _ | assumption | refine Ext.trans ?_ (Ext.alloc _ _) | refine Ext.trans ?_ (Ext.drew _) | refine Ext.trans ?_ (Ext.drewN _ _) | refine Ext.trans ?_ (by assumption)))⟩
      obtain ⟨s, b2, off2, HS, eA, h5, d0⟩ := RdT.get (hr.ext hE) hline
      subst eA
      have hss := HB.out s (List.mem_of_getElem? HS.out)
      have tl : decide ((l.length : Int) ≤ (L : Int)) = false := by simp; omega
      have tl2 : decide (l.length ≤ L) = false := by simp; omega
      have il0 : (0 : Int) ≤ L := by omega
      have il1 : (L : Int) < l.length := by omega
      have hla : lenAt l L = s.size := by simp [lenAt, HS.out]
      have HV0 : Hid (mkAt l ⟨(L : Int), place, kind, text⟩ = (decide (place < (s.size : Int)) || (decide (place = (s.size : Int)) && !(decide (kind = 1) || decide (kind = 3))))) := by
        show _ = _
        have : decide ((L : Int) < (l.length : Int)) = true := by simp; omega
        rw [mkAt, HTM.out, hla, this]; simp
      clear hla
      rcases Int.lt_trichotomy place (s.size : Int) with hp | hp | hp
      · have HV : Hid (mkAt l ⟨(L : Int), place, kind, text⟩ = true) := by show _ = _; rw [HV0.out, decide_eq_true hp]; rfl
        have ta : decide ((s.size : Int) < place) = false := by simp; omega
        have tb : (place == (s.size : Int)) = false := by rw [beq_eq_false_iff_ne]; omega
        go_wp2_with fail
        refine (impl_isMarkAlone ⟨(L : Int), place, kind, text⟩ _ hs).mono ?_
        rw [HTM.out]
        rintro e w2 ⟨rfl, hE2⟩
        obtain ⟨hc2, hf2⟩ := bcell hE2
        have hs2 := hE2.size
        simp only [World.size_alloc] at hs2
        have d2 := (hE2.cell ((Ext.alloc wr _).cell d0))
        have h52 : b2 < w2.heap.size := by omega
        go_wp2
        go_roundw
        case rel => exact ⟨k + 1, by omega, by go_num, STP.out HV.out, (by repeat (first | exact Ext.refl _ | assumption | refine Ext.trans ?_ (Ext.alloc _ _) | refine Ext.trans ?_ (Ext.drew _) | refine Ext.trans ?_ (Ext.drewN _ _) | refine Ext.trans ?_ (by assumption)))⟩
        case measure => simp [intOf]; omega
      · have ta : decide ((s.size : Int) < place) = false := by simp; omega
        have tb : (place == (s.size : Int)) = true := by simp [hp]
        have HP := Lib.hid hp
        have hp1 : place ≤ (s.size : Int) := by omega
        have hp2 : (s.size : Int) ≤ place := by omega
        clear hp
        by_cases k1 : kind = 1
        · have HV : Hid (mkAt l ⟨(L : Int), place, kind, text⟩ = false) := by show _ = _; rw [HV0.out, HP.out, decide_eq_true k1]; simp
          have tc : (kind == 1) = true := by simp [k1]
          clear k1
          go_wp2_with fail
          refine (impl_isMarkAlone ⟨(L : Int), place, kind, text⟩ _ hs).mono ?_
          rw [HTM.out]
          rintro e w2 ⟨rfl, hE2⟩
          obtain ⟨hc2, hf2⟩ := bcell hE2
          have hs2 := hE2.size
          simp only [World.size_alloc] at hs2
          have d2 := (hE2.cell ((Ext.alloc wr _).cell d0))
          have h52 : b2 < w2.heap.size := by omega
          go_wp2
          go_ret
          exact ⟨ret_bool (BAD.out HV.out).symm, (by repeat (first | exact Ext.refl _ | assumption | refine Ext.trans ?_ (Ext.alloc _ _) | refine Ext.trans ?_ (Ext.drew _) | refine Ext.trans ?_ (Ext.drewN _ _) | refine Ext.trans ?_ (by assumption)))⟩
        have tc : (kind == 1) = false := by simpa using k1
        by_cases k3 : kind = 3
        · have HV : Hid (mkAt l ⟨(L : Int), place, kind, text⟩ = false) := by show _ = _; rw [HV0.out, HP.out, decide_eq_true k3]; simp
          have td : (kind == 3) = true := by simp [k3]
          clear k1 k3
          go_wp2_with fail
          refine (impl_isMarkAlone ⟨(L : Int), place, kind, text⟩ _ hs).mono ?_
          rw [HTM.out]
          rintro e w2 ⟨rfl, hE2⟩
          obtain ⟨hc2, hf2⟩ := bcell hE2
          have hs2 := hE2.size
          simp only [World.size_alloc] at hs2
          have d2 := (hE2.cell ((Ext.alloc wr _).cell d0))
          have h52 : b2 < w2.heap.size := by omega
          go_wp2
          go_ret
          exact ⟨ret_bool (BAD.out HV.out).symm, (by repeat (first | exact Ext.refl _ | assumption | refine Ext.trans ?_ (Ext.alloc _ _) | refine Ext.trans ?_ (Ext.drew _) | refine Ext.trans ?_ (Ext.drewN _ _) | refine Ext.trans ?_ (by assumption)))⟩
        have td : (kind == 3) = false := by simpa using k3
        have HV : Hid (mkAt l ⟨(L : Int), place, kind, text⟩ = true) := by show _ = _; rw [HV0.out, decide_eq_true HP.out, decide_eq_false k1, decide_eq_false k3]; simp
        clear k1 k3
        go_wp2_with fail
        refine (impl_isMarkAlone ⟨(L : Int), place, kind, text⟩ _ hs).mono ?_
        rw [HTM.out]
        rintro e w2 ⟨rfl, hE2⟩
        obtain ⟨hc2, hf2⟩ := bcell hE2
        have hs2 := hE2.size
        simp only [World.size_alloc] at hs2
        have d2 := (hE2.cell ((Ext.alloc wr _).cell d0))
        have h52 : b2 < w2.heap.size := by omega
        go_wp2
        go_roundw
        case rel => exact ⟨k + 1, by omega, by go_num, STP.out HV.out, (by repeat (first | exact Ext.refl _ | assumption | refine Ext.trans ?_ (Ext.alloc _ _) | refine Ext.trans ?_ (Ext.drew _) | refine Ext.trans ?_ (Ext.drewN _ _) | refine Ext.trans ?_ (by assumption)))⟩
        case measure => simp [intOf]; omega
      · have HV : Hid (mkAt l ⟨(L : Int), place, kind, text⟩ = false) := by
          show _ = _
          rw [HV0.out, decide_eq_false (by omega), decide_eq_false (by omega)]; rfl
        have ta : decide ((s.size : Int) < place) = true := by simp; omega
        go_wp2_with fail
        refine (impl_isMarkAlone ⟨(L : Int), place, kind, text⟩ _ hs).mono ?_
        rw [HTM.out]
        rintro e w2 ⟨rfl, hE2⟩
        obtain ⟨hc2, hf2⟩ := bcell hE2
        have hs2 := hE2.size
        simp only [World.size_alloc] at hs2
        have d2 := (hE2.cell ((Ext.alloc wr _).cell d0))
        have h52 : b2 < w2.heap.size := by omega
        go_wp2
        go_ret
        exact ⟨ret_bool (BAD.out HV.out).symm, (by repeat (first | exact Ext.refl _ | assumption | refine Ext.trans ?_ (Ext.alloc _ _) | refine Ext.trans ?_ (Ext.drew _) | refine Ext.trans ?_ (Ext.drewN _ _) | refine Ext.trans ?_ (by assumption)))⟩
    · have hkl : k = ms.length := by omega
      subst hkl
      clear hlt
      have hall : ms.all (mkAt l) = true := by
        have h := HA.out
        rwa [List.take_of_length_le (Nat.le_refl _)] at h
      cases tp : prf l
      · have HV : Hid (aMk l ms = false) := by show _ = _; simp [aMk, tp]
        go_wp2_with (go_at_call 24; refine (impl_IsProof0 A c l lo hi _ hl hb (hr.ext (by repeat (first | exact Ext.refl _ | assumption | refine Ext.trans ?_ (Ext.alloc _ _) | refine Ext.trans ?_ (Ext.drew _) | refine Ext.trans ?_ (Ext.drewN _ _) | refine Ext.trans ?_ (by assumption))))).mono ?_; rintro e w' ⟨rfl, rfl⟩)
        go_ret
        exact ⟨ret_bool HV.out.symm, (by repeat (first | exact Ext.refl _ | assumption | refine Ext.trans ?_ (Ext.alloc _ _) | refine Ext.trans ?_ (Ext.drew _) | refine Ext.trans ?_ (Ext.drewN _ _) | refine Ext.trans ?_ (by assumption)))⟩
      · have HV : Hid (aMk l ms = decide (ms.length ≤ 20)) := by show _ = _; simp [aMk, tp, hall]
        have HALL := Lib.hid hall; clear hall
        go_wp2_with (go_at_call 24; refine (impl_IsProof0 A c l lo hi _ hl hb (hr.ext (by repeat (first | exact Ext.refl _ | assumption | refine Ext.trans ?_ (Ext.alloc _ _) | refine Ext.trans ?_ (Ext.drew _) | refine Ext.trans ?_ (Ext.drewN _ _) | refine Ext.trans ?_ (by assumption))))).mono ?_; rintro e w' ⟨rfl, rfl⟩)
        go_ret
        exact ⟨ret_bool (by rw [HV.out, Bool.eq_iff_iff]; simp; try omega), (by repeat (first | exact Ext.refl _ | assumption | refine Ext.trans ?_ (Ext.alloc _ _) | refine Ext.trans ?_ (Ext.drew _) | refine Ext.trans ?_ (Ext.drewN _ _) | refine Ext.trans ?_ (by assumption)))⟩
set_option maxRecDepth 100000 in
set_option maxHeartbeats 1000000 in
theorem spec_pfMarks (A B : Option Addr) (c d : Nat) (l : List ByteArray) (ms : List Mrk) (lo hi lo' hi' : Nat) (w : World) (hl : l.length ≤ 1048577) (hb : ∀ s ∈ l, s.size ≤ 1048577) (hl' : ms.length ≤ 1048577) (hb' : ∀ m ∈ ms, m.text.size ≤ 1048577) (hr : RdT w lo hi A l) (hr' : RdM w lo' hi' B ms) :
    Calls Try.prog 32 #[.slice A l.length c, .slice B ms.length d] w fun e w' => e = .returned (.bool (aMk l ms)) ∧ Ext w w' := by
  have HB := Lib.hid hb; have HB' := Lib.hid hb'
  clear hb'
  go_enter Try.func32, Try.ntmps32
  go_wp2
  go_loopw [9] (fun i wr => ∃ k : Nat, k ≤ ms.length ∧ i = .int .i64 k ∧ (ms.take k).all (mkAt l) = true ∧ Ext w wr) (fun i _ => ms.length - (intOf i).toNat)
  case atStart => exact ⟨0, Nat.zero_le _, rfl, rfl, Ext.refl _⟩
  case round =>
    obtain ⟨k, hk, rfl, ha, hE⟩ := hrel
    have HA := Lib.hid ha; clear ha
    by_cases hlt : k < ms.length
    · obtain ⟨m, b, off, HX, rfl, h3, c0, c1, c2, c3⟩ := RdM.get (hr'.ext hE) hlt
      have hs := HB'.out m (List.mem_of_getElem? HX.out)
      have bad : mkAt l m = false → aMk l ms = false := aMk_no HX.out
      have stp : mkAt l m = true → (ms.take (k + 1)).all (mkAt l) = true := fun h => by rw [all_take _ HX.out, HA.out, h]; rfl
      have BAD := Lib.hid bad; have STP := Lib.hid stp
      clear bad stp HX
      obtain ⟨line, place, kind, text⟩ := m
      simp only at c0 c1 c2 c3 hs
      obtain ⟨w0, hw0⟩ : ∃ w0, w0 = wr.alloc (.cells #[.int .i64 line, .int .i64 place, .int .i64 kind, .string text] 34) := ⟨_, rfl⟩
      have x0 : w0.cell? ⟨wr.heap.size, 0, none⟩ = some (.int .i64 line) := by rw [hw0]; exact box_new (Ext.refl _) rfl
      have x1 : w0.cell? ⟨wr.heap.size, 1, none⟩ = some (.int .i64 place) := by rw [hw0]; exact box_new (Ext.refl _) rfl
      have x2 : w0.cell? ⟨wr.heap.size, 2, none⟩ = some (.int .i64 kind) := by rw [hw0]; exact box_new (Ext.refl _) rfl
      have x3 : w0.cell? ⟨wr.heap.size, 3, none⟩ = some (.string text) := by rw [hw0]; exact box_new (Ext.refl _) rfl
      have hE0 : Ext wr w0 := by rw [hw0]; exact Ext.alloc _ _
      have hlt0 : wr.heap.size < w0.heap.size := by rw [hw0]; simp
      have HW0 := Lib.hid hw0; clear hw0
      have e0 : ∀ y : XW w0, y.v.cell? ⟨wr.heap.size, 0, none⟩ = _ := fun y => y.h.cell x0
      have e1 : ∀ y : XW w0, y.v.cell? ⟨wr.heap.size, 1, none⟩ = _ := fun y => y.h.cell x1
      have e2 : ∀ y : XW w0, y.v.cell? ⟨wr.heap.size, 2, none⟩ = _ := fun y => y.h.cell x2
      have e3 : ∀ y : XW w0, y.v.cell? ⟨wr.heap.size, 3, none⟩ = _ := fun y => y.h.cell x3
      cases tm : mkOk ⟨line, place, kind, text⟩
      · have HV : Hid (mkAt l ⟨line, place, kind, text⟩ = false) := by show _ = _; simp [mkAt, tm]
        have HTM := Lib.hid tm; clear tm
        go_wp2_with fail
        rw [← HW0.out]
        refine wp_region_xw (w0 := w0) (by kernel_rfl) (by kernel_rfl) (by repeat (first | exact Ext.refl _ | assumption | refine Ext.trans ?_ (Ext.alloc _ _) | refine Ext.trans ?_ (Ext.drew _) | refine Ext.trans ?_ (Ext.drewN _ _) | refine Ext.trans ?_ (by assumption))) ?_; (repeat (go_big_quiet_step ((go_at_call 45; exact XW.call (spec_pfMark_v false ⟨line, place, kind, text⟩ _ HTM.out hs))))); refine wpQuiet_nil ?_; intro _ hw'; obtain ⟨⟨w1, hEw1⟩, hw''⟩ := hw'; subst hw''
        go_wp2
        go_ret
        exact ⟨ret_bool (BAD.out HV.out).symm, (by repeat (first | exact Ext.refl _ | assumption | refine Ext.trans ?_ (Ext.alloc _ _) | refine Ext.trans ?_ (Ext.drew _) | refine Ext.trans ?_ (Ext.drewN _ _) | refine Ext.trans ?_ (by assumption)))⟩
      obtain ⟨⟨p1, p2⟩, ⟨p3, p4⟩, p5, p6⟩ := mkOk_parts tm
      simp only at p1 p2 p3 p4 p5 p6
      have HTM := Lib.hid tm
      obtain ⟨L, hL⟩ : ∃ L : Nat, line = L := ⟨line.toNat, by omega⟩
      subst hL
      clear tm
      by_cases hline : L < l.length
      case neg =>
        have HV : Hid (mkAt l ⟨(L : Int), place, kind, text⟩ = false) := by
          show _ = _
          have : decide ((L : Int) < (l.length : Int)) = false := by simpa using hline
          simp [mkAt, this]; intro _ h; omega
        have tl : decide ((l.length : Int) ≤ (L : Int)) = true := by simp; omega
        have tl2 : decide (l.length ≤ L) = true := by simp; omega
        go_wp2_with fail
        rw [← HW0.out]
        refine wp_region_xw (w0 := w0) (by kernel_rfl) (by kernel_rfl) (by repeat (first | exact Ext.refl _ | assumption | refine Ext.trans ?_ (Ext.alloc _ _) | refine Ext.trans ?_ (Ext.drew _) | refine Ext.trans ?_ (Ext.drewN _ _) | refine Ext.trans ?_ (by assumption))) ?_; (repeat (go_big_quiet_step ((go_at_call 45; exact XW.call (spec_pfMark_v true ⟨(L : Int), place, kind, text⟩ _ HTM.out hs))))); refine wpQuiet_nil ?_; intro _ hw'; obtain ⟨⟨w1, hEw1⟩, hw''⟩ := hw'; subst hw''
        go_wp2
        go_ret
        exact ⟨ret_bool (BAD.out HV.out).symm, (by repeat (first | exact Ext.refl _ | assumption | refine Ext.trans ?_ (Ext.alloc _ _) | refine Ext.trans ?_ (Ext.drew _) | refine Ext.trans ?_ (Ext.drewN _ _) | refine Ext.trans ?_ (by assumption)))⟩
      obtain ⟨s, b2, off2, HS, eA, h5, d0⟩ := RdT.get (hr.ext hE) hline
      subst eA
      have hss := HB.out s (List.mem_of_getElem? HS.out)
      have tl : decide ((l.length : Int) ≤ (L : Int)) = false := by simp; omega
      have tl2 : decide (l.length ≤ L) = false := by simp; omega
      have il0 : (0 : Int) ≤ L := by omega
      have il1 : (L : Int) < l.length := by omega
      have hla : lenAt l L = s.size := by simp [lenAt, HS.out]
      have HV0 : Hid (mkAt l ⟨(L : Int), place, kind, text⟩ = (decide (place < (s.size : Int)) || (decide (place = (s.size : Int)) && !(decide (kind = 1) || decide (kind = 3))))) := by
        show _ = _
        have : decide ((L : Int) < (l.length : Int)) = true := by simp; omega
        rw [mkAt, HTM.out, hla, this]; simp
      clear hla
      rcases Int.lt_trichotomy place (s.size : Int) with hp | hp | hp
      · have HV : Hid (mkAt l ⟨(L : Int), place, kind, text⟩ = true) := by show _ = _; rw [HV0.out, decide_eq_true hp]; rfl
        have ta : decide ((s.size : Int) < place) = false := by simp; omega
        have tb : (place == (s.size : Int)) = false := by rw [beq_eq_false_iff_ne]; omega
        go_wp2_with fail
        rw [← HW0.out]
        have d0w := hE0.cell d0
        have h50 : b2 < w0.heap.size := by omega
        have e4 : ∀ y : XW w0, y.v.cell? ⟨b2, off2 + L, none⟩ = _ := fun y => y.h.cell d0w
        refine wp_region_xw (w0 := w0) (by kernel_rfl) (by kernel_rfl) (by repeat (first | exact Ext.refl _ | assumption | refine Ext.trans ?_ (Ext.alloc _ _) | refine Ext.trans ?_ (Ext.drew _) | refine Ext.trans ?_ (Ext.drewN _ _) | refine Ext.trans ?_ (by assumption))) ?_; (repeat (go_big_quiet_step ((go_at_call 45; exact XW.call (spec_pfMark_v true ⟨(L : Int), place, kind, text⟩ _ HTM.out hs))))); refine wpQuiet_nil ?_; intro _ hw'; obtain ⟨⟨w1, hEw1⟩, hw''⟩ := hw'; subst hw''
        go_wp2_with fail
        refine wp_region_xw (w0 := w0) (by kernel_rfl) (by kernel_rfl) (by repeat (first | exact Ext.refl _ | assumption | refine Ext.trans ?_ (Ext.alloc _ _) | refine Ext.trans ?_ (Ext.drew _) | refine Ext.trans ?_ (Ext.drewN _ _) | refine Ext.trans ?_ (by assumption))) ?_; (repeat (go_big_quiet_step (fail))); refine wpQuiet_nil ?_; intro _ hw'; obtain ⟨⟨w3, hEw3⟩, hw''⟩ := hw'; subst hw''
        go_wp2
        go_roundw
        case rel => exact ⟨k + 1, by omega, by go_num, STP.out HV.out, (by repeat (first | exact Ext.refl _ | assumption | refine Ext.trans ?_ (Ext.alloc _ _) | refine Ext.trans ?_ (Ext.drew _) | refine Ext.trans ?_ (Ext.drewN _ _) | refine Ext.trans ?_ (by assumption)))⟩
        case measure => simp [intOf]; omega
      · have ta : decide ((s.size : Int) < place) = false := by simp; omega
        have tb : (place == (s.size : Int)) = true := by simp [hp]
        have HP := Lib.hid hp
        have hp1 : place ≤ (s.size : Int) := by omega
        have hp2 : (s.size : Int) ≤ place := by omega
        clear hp
        by_cases k1 : kind = 1
        · have HV : Hid (mkAt l ⟨(L : Int), place, kind, text⟩ = false) := by show _ = _; rw [HV0.out, HP.out, decide_eq_true k1]; simp
          have tc : (kind == 1) = true := by simp [k1]
          clear k1
          go_wp2_with fail
          rw [← HW0.out]
          have d0w := hE0.cell d0
          have h50 : b2 < w0.heap.size := by omega
          have e4 : ∀ y : XW w0, y.v.cell? ⟨b2, off2 + L, none⟩ = _ := fun y => y.h.cell d0w
          refine wp_region_xw (w0 := w0) (by kernel_rfl) (by kernel_rfl) (by repeat (first | exact Ext.refl _ | assumption | refine Ext.trans ?_ (Ext.alloc _ _) | refine Ext.trans ?_ (Ext.drew _) | refine Ext.trans ?_ (Ext.drewN _ _) | refine Ext.trans ?_ (by assumption))) ?_; (repeat (go_big_quiet_step ((go_at_call 45; exact XW.call (spec_pfMark_v true ⟨(L : Int), place, kind, text⟩ _ HTM.out hs))))); refine wpQuiet_nil ?_; intro _ hw'; obtain ⟨⟨w1, hEw1⟩, hw''⟩ := hw'; subst hw''
          go_wp2_with fail
          refine wp_region_xw (w0 := w0) (by kernel_rfl) (by kernel_rfl) (by repeat (first | exact Ext.refl _ | assumption | refine Ext.trans ?_ (Ext.alloc _ _) | refine Ext.trans ?_ (Ext.drew _) | refine Ext.trans ?_ (Ext.drewN _ _) | refine Ext.trans ?_ (by assumption))) ?_; (repeat (go_big_quiet_step (fail))); refine wpQuiet_nil ?_; intro _ hw'; obtain ⟨⟨w3, hEw3⟩, hw''⟩ := hw'; subst hw''
          go_wp2
          go_ret
          exact ⟨ret_bool (BAD.out HV.out).symm, (by repeat (first | exact Ext.refl _ | assumption | refine Ext.trans ?_ (Ext.alloc _ _) | refine Ext.trans ?_ (Ext.drew _) | refine Ext.trans ?_ (Ext.drewN _ _) | refine Ext.trans ?_ (by assumption)))⟩
        have tc : (kind == 1) = false := by simpa using k1
        by_cases k3 : kind = 3
        · have HV : Hid (mkAt l ⟨(L : Int), place, kind, text⟩ = false) := by show _ = _; rw [HV0.out, HP.out, decide_eq_true k3]; simp
          have td : (kind == 3) = true := by simp [k3]
          clear k1 k3
          go_wp2_with fail
          rw [← HW0.out]
          have d0w := hE0.cell d0
          have h50 : b2 < w0.heap.size := by omega
          have e4 : ∀ y : XW w0, y.v.cell? ⟨b2, off2 + L, none⟩ = _ := fun y => y.h.cell d0w
          refine wp_region_xw (w0 := w0) (by kernel_rfl) (by kernel_rfl) (by repeat (first | exact Ext.refl _ | assumption | refine Ext.trans ?_ (Ext.alloc _ _) | refine Ext.trans ?_ (Ext.drew _) | refine Ext.trans ?_ (Ext.drewN _ _) | refine Ext.trans ?_ (by assumption))) ?_; (repeat (go_big_quiet_step ((go_at_call 45; exact XW.call (spec_pfMark_v true ⟨(L : Int), place, kind, text⟩ _ HTM.out hs))))); refine wpQuiet_nil ?_; intro _ hw'; obtain ⟨⟨w1, hEw1⟩, hw''⟩ := hw'; subst hw''
          go_wp2_with fail
          refine wp_region_xw (w0 := w0) (by kernel_rfl) (by kernel_rfl) (by repeat (first | exact Ext.refl _ | assumption | refine Ext.trans ?_ (Ext.alloc _ _) | refine Ext.trans ?_ (Ext.drew _) | refine Ext.trans ?_ (Ext.drewN _ _) | refine Ext.trans ?_ (by assumption))) ?_; (repeat (go_big_quiet_step (fail))); refine wpQuiet_nil ?_; intro _ hw'; obtain ⟨⟨w3, hEw3⟩, hw''⟩ := hw'; subst hw''
          go_wp2
          go_ret
          exact ⟨ret_bool (BAD.out HV.out).symm, (by repeat (first | exact Ext.refl _ | assumption | refine Ext.trans ?_ (Ext.alloc _ _) | refine Ext.trans ?_ (Ext.drew _) | refine Ext.trans ?_ (Ext.drewN _ _) | refine Ext.trans ?_ (by assumption)))⟩
        have td : (kind == 3) = false := by simpa using k3
        have HV : Hid (mkAt l ⟨(L : Int), place, kind, text⟩ = true) := by show _ = _; rw [HV0.out, decide_eq_true HP.out, decide_eq_false k1, decide_eq_false k3]; simp
        clear k1 k3
        go_wp2_with fail
        rw [← HW0.out]
        have d0w := hE0.cell d0
        have h50 : b2 < w0.heap.size := by omega
        have e4 : ∀ y : XW w0, y.v.cell? ⟨b2, off2 + L, none⟩ = _ := fun y => y.h.cell d0w
        refine wp_region_xw (w0 := w0) (by kernel_rfl) (by kernel_rfl) (by repeat (first | exact Ext.refl _ | assumption | refine Ext.trans ?_ (Ext.alloc _ _) | refine Ext.trans ?_ (Ext.drew _) | refine Ext.trans ?_ (Ext.drewN _ _) | refine Ext.trans ?_ (by assumption))) ?_; (repeat (go_big_quiet_step ((go_at_call 45; exact XW.call (spec_pfMark_v true ⟨(L : Int), place, kind, text⟩ _ HTM.out hs))))); refine wpQuiet_nil ?_; intro _ hw'; obtain ⟨⟨w1, hEw1⟩, hw''⟩ := hw'; subst hw''
        go_wp2_with fail
        refine wp_region_xw (w0 := w0) (by kernel_rfl) (by kernel_rfl) (by repeat (first | exact Ext.refl _ | assumption | refine Ext.trans ?_ (Ext.alloc _ _) | refine Ext.trans ?_ (Ext.drew _) | refine Ext.trans ?_ (Ext.drewN _ _) | refine Ext.trans ?_ (by assumption))) ?_; (repeat (go_big_quiet_step (fail))); refine wpQuiet_nil ?_; intro _ hw'; obtain ⟨⟨w3, hEw3⟩, hw''⟩ := hw'; subst hw''
        go_wp2
        go_roundw
        case rel => exact ⟨k + 1, by omega, by go_num, STP.out HV.out, (by repeat (first | exact Ext.refl _ | assumption | refine Ext.trans ?_ (Ext.alloc _ _) | refine Ext.trans ?_ (Ext.drew _) | refine Ext.trans ?_ (Ext.drewN _ _) | refine Ext.trans ?_ (by assumption)))⟩
        case measure => simp [intOf]; omega
      · have HV : Hid (mkAt l ⟨(L : Int), place, kind, text⟩ = false) := by
          show _ = _
          rw [HV0.out, decide_eq_false (by omega), decide_eq_false (by omega)]; rfl
        have ta : decide ((s.size : Int) < place) = true := by simp; omega
        go_wp2_with fail
        rw [← HW0.out]
        have d0w := hE0.cell d0
        have h50 : b2 < w0.heap.size := by omega
        have e4 : ∀ y : XW w0, y.v.cell? ⟨b2, off2 + L, none⟩ = _ := fun y => y.h.cell d0w
        refine wp_region_xw (w0 := w0) (by kernel_rfl) (by kernel_rfl) (by repeat (first | exact Ext.refl _ | assumption | refine Ext.trans ?_ (Ext.alloc _ _) | refine Ext.trans ?_ (Ext.drew _) | refine Ext.trans ?_ (Ext.drewN _ _) | refine Ext.trans ?_ (by assumption))) ?_; (repeat (go_big_quiet_step ((go_at_call 45; exact XW.call (spec_pfMark_v true ⟨(L : Int), place, kind, text⟩ _ HTM.out hs))))); refine wpQuiet_nil ?_; intro _ hw'; obtain ⟨⟨w1, hEw1⟩, hw''⟩ := hw'; subst hw''
        go_wp2
        go_ret
        exact ⟨ret_bool (BAD.out HV.out).symm, (by repeat (first | exact Ext.refl _ | assumption | refine Ext.trans ?_ (Ext.alloc _ _) | refine Ext.trans ?_ (Ext.drew _) | refine Ext.trans ?_ (Ext.drewN _ _) | refine Ext.trans ?_ (by assumption)))⟩
    · have hkl : k = ms.length := by omega
      subst hkl
      clear hlt
      have hall : ms.all (mkAt l) = true := by
        have h := HA.out
        rwa [List.take_of_length_le (Nat.le_refl _)] at h
      cases tp : prf l
      · have HV : Hid (aMk l ms = false) := by show _ = _; simp [aMk, tp]
        go_wp2_with (go_at_call 36; refine (spec_pfGood A c l lo hi _ hl hb (hr.ext (by repeat (first | exact Ext.refl _ | assumption | refine Ext.trans ?_ (Ext.alloc _ _) | refine Ext.trans ?_ (Ext.drew _) | refine Ext.trans ?_ (Ext.drewN _ _) | refine Ext.trans ?_ (by assumption))))).mono ?_; rintro e w' ⟨rfl, rfl⟩)
        go_ret
        exact ⟨ret_bool HV.out.symm, (by repeat (first | exact Ext.refl _ | assumption | refine Ext.trans ?_ (Ext.alloc _ _) | refine Ext.trans ?_ (Ext.drew _) | refine Ext.trans ?_ (Ext.drewN _ _) | refine Ext.trans ?_ (by assumption)))⟩
      · have HV : Hid (aMk l ms = decide (ms.length ≤ 20)) := by show _ = _; simp [aMk, tp, hall]
        have HALL := Lib.hid hall; clear hall
        go_wp2_with (go_at_call 36; refine (spec_pfGood A c l lo hi _ hl hb (hr.ext (by repeat (first | exact Ext.refl _ | assumption | refine Ext.trans ?_ (Ext.alloc _ _) | refine Ext.trans ?_ (Ext.drew _) | refine Ext.trans ?_ (Ext.drewN _ _) | refine Ext.trans ?_ (by assumption))))).mono ?_; rintro e w' ⟨rfl, rfl⟩)
        go_ret
        exact ⟨ret_bool (by rw [HV.out, Bool.eq_iff_iff]; simp; try omega), (by repeat (first | exact Ext.refl _ | assumption | refine Ext.trans ?_ (Ext.alloc _ _) | refine Ext.trans ?_ (Ext.drew _) | refine Ext.trans ?_ (Ext.drewN _ _) | refine Ext.trans ?_ (by assumption)))⟩
theorem spec_AreMarks (A B : Option Addr) (c d : Nat) (l : List ByteArray) (ms : List Mrk) (lo hi lo' hi' : Nat) (w : World) (hl : l.length ≤ 1048577) (hb : ∀ s ∈ l, s.size ≤ 1048577) (hl' : ms.length ≤ 1048577) (hb' : ∀ m ∈ ms, m.text.size ≤ 1048577) (hr : RdT w lo hi A l) (hr' : RdM w lo' hi' B ms) :
    Calls Try.prog 21 #[.slice A l.length c, .slice B ms.length d] w fun e w' => e = .returned (.bool (aMk l ms)) ∧ Ext w w' := by
  go_enter Try.func21, Try.ntmps21
  go_wp2_with (go_at_call 32; refine (spec_pfMarks A B c d l ms lo hi lo' hi' _ hl hb hl' hb' hr hr').mono ?_; rintro e w1 ⟨rfl, hE1⟩; obtain ⟨hc1, hf1⟩ := bcell hE1; have hs1 := hE1.size; (try simp only [World.size_alloc] at hs1))
  go_ret
  exact ⟨rfl, (by repeat (first | exact Ext.refl _ | assumption | refine Ext.trans ?_ (Ext.alloc _ _) | refine Ext.trans ?_ (Ext.drew _) | refine Ext.trans ?_ (Ext.drewN _ _) | refine Ext.trans ?_ (by assumption)))⟩
end Go.Proofs.Ytclcclhdmciggaa
