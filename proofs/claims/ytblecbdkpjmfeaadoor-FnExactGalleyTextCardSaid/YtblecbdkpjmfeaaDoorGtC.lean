/- The walks of GalleyText: the program's and the reference's. -/
import Derived.Test.YtblecbdkpjmfeaaDoorGtB
namespace Go.Proofs.YtblecbdkpjmfeaaDoor
open Go.RowKit
set_option linter.unusedVariables false
theorem impl_Itoa (i : Nat) (hi : i < 100) (w : World) : Calls Tryd.prog 13 #[.int .i64 (i : Int)] w fun e w' => e = .returned (.string (numS i)) ∧ w = w' :=
  (Tryd.strconv_Itoa_small i hi w).mono fun _ _ h => ⟨h.1, h.2.symm⟩
theorem spec_Num (i : Nat) (hi : i < 100) (w : World) : Calls Tryd.prog 10 #[.int .i64 (i : Int)] w fun e w' => e = .returned (.string (numS i)) ∧ Ext w w' := spec_l1Num_any i w hi
set_option maxHeartbeats 4000000 in
theorem impl_GalleyText (A : Option Addr) (c : Nat) (l : List SetL) (lo hi : Nat) (w : World) (hl : l.length ≤ 1048577) (hq : InRS l) (hr : RdS w lo hi A l) :
    Calls Tryd.prog 7 #[.slice A l.length c] w fun e w' => e = .returned (gtV l) ∧ Ext w w' := by
  cases h : gal l
  · rw [gtV_bad h]
    go_enter Tryd.func7, Tryd.ntmps7
    go_wp2_with (go_at_call 12; refine (impl_IsGalley A c l lo hi _ hl hq hr).mono ?_; rintro e w1 ⟨rfl, hE1⟩; obtain ⟨hc1, hf1⟩ := bcell hE1; have hs1 := hE1.size; (try simp only [World.size_alloc] at hs1))
    go_ret2
    exact ⟨rfl, (by repeat (first | exact Ext.refl _ | assumption | refine Ext.trans ?_ (Ext.alloc _ _) | refine Ext.trans ?_ (Ext.drew _) | refine Ext.trans ?_ (Ext.drewN _ _) | refine Ext.trans ?_ (by assumption)))⟩
  rw [gtV_good h]
  have HG := Lib.hid h
  have h40 := gal_len h
  go_enter Tryd.func7, Tryd.ntmps7
  go_wp2_with (go_at_call 12; refine (impl_IsGalley A c l lo hi _ hl hq hr).mono ?_; rintro e w1 ⟨rfl, hE1⟩; obtain ⟨hc1, hf1⟩ := bcell hE1; have hs1 := hE1.size; (try simp only [World.size_alloc] at hs1))
  clear h
  go_loopw [4, 12] (fun s i wr => ∃ (k : Nat) (S : ByteArray), k ≤ l.length ∧ i = .int .i64 (k : Int) ∧ s = .string S ∧ Hid (S = gtTo l k) ∧ Ext w wr) (fun _ i _ => l.length - (intOf i).toNat)
  case atStart => exact ⟨0, ByteArray.empty, Nat.zero_le _, rfl, rfl, rfl, (by repeat (first | exact Ext.refl _ | assumption | refine Ext.trans ?_ (Ext.alloc _ _) | refine Ext.trans ?_ (Ext.drew _) | refine Ext.trans ?_ (Ext.drewN _ _) | refine Ext.trans ?_ (by assumption)))⟩
  case round =>
    obtain ⟨k, S, hk, rfl, rfl, HS, hE⟩ := hrel
    by_cases hlt : k < l.length
    · obtain ⟨⟨dep, note, para⟩, b0, off, HX, rfl, h1, h2, h3, c0, c1, c2⟩ := RdS.get (hr.ext hE) hlt
      simp only at c0 c1 c2
      obtain ⟨⟨dd1, dd2⟩, nn1, nn2⟩ := gal_each HG.out (List.mem_of_getElem? HX.out)
      simp only at dd1 dd2 nn1 nn2
      obtain ⟨a, rfl⟩ : ∃ a : Nat, dep = a := ⟨dep.toNat, by omega⟩
      obtain ⟨b, rfl⟩ : ∃ b : Nat, note = b := ⟨note.toNat, by omega⟩
      have ha : a < 100 := by omega
      have hb : b < 100 := by omega
      clear dd1 dd2 nn1
      by_cases hnp : 0 < (b : Int)
      · have HNP : Hid (0 < (b : Int)) := hnp
        cases hbv : lastP l k
        case true =>
          have HB := Lib.hid hbv; clear hbv
          go_wp2_with fail
          refine (impl_Itoa a ha _).mono ?_
          rintro e w_ ⟨rfl, rfl⟩
          have hz0 := gtTo_size HG.out k
          rw [← HS.out] at hz0
          have s1 := numS_size ha
          have s2 := numS_size hb
          have z1 : ¬ 9223372036854775807 < S.size + (numS a).size := by omega
          have z2 : ¬ 9223372036854775807 < 1 + (numS b).size := by omega
          have z3 : ¬ 9223372036854775807 < S.size + (numS a).size + (1 + (numS b).size) := by omega
          have z4 : ¬ 9223372036854775807 < S.size + (numS a).size + (1 + (numS b).size) + 1 := by omega
          have z5 : ¬ 9223372036854775807 < S.size + (numS a).size + 1 := by omega
          clear hz0 s1 s2
          go_wp2_with fail
          refine (impl_Itoa b hb _).mono ?_
          rintro e w_ ⟨rfl, rfl⟩
          go_wp2_with fail
          refine (impl_isLast _ c l k lo hi _ hl hlt (hr.ext (by repeat (first | exact Ext.refl _ | assumption | refine Ext.trans ?_ (Ext.alloc _ _) | refine Ext.trans ?_ (Ext.drew _) | refine Ext.trans ?_ (Ext.drewN _ _) | refine Ext.trans ?_ (by assumption))))).mono ?_
          rintro e w9 ⟨rfl, hE9⟩
          rw [HB.out]
          go_wp2_with fail
          go_roundw
          case rel => exact ⟨k + 1, S ++ numS a ++ (⟨#[43]⟩ ++ numS b) ++ ⟨#[59]⟩, by omega, by go_num, rfl, (by show _ = _; rw [gtTo_succ HX.out, ← HS.out, gtE, HB.out, gtN, if_pos (show (0 : Int) < (b : Int) by have := HNP.out; omega), gtD]; rfl), (by repeat (first | exact Ext.refl _ | assumption | refine Ext.trans ?_ (Ext.alloc _ _) | refine Ext.trans ?_ (Ext.drew _) | refine Ext.trans ?_ (Ext.drewN _ _) | refine Ext.trans ?_ (by assumption)))⟩
          case measure => simp [intOf]; omega
        case false =>
          have HB := Lib.hid hbv; clear hbv
          go_wp2_with fail
          refine (impl_Itoa a ha _).mono ?_
          rintro e w_ ⟨rfl, rfl⟩
          have hz0 := gtTo_size HG.out k
          rw [← HS.out] at hz0
          have s1 := numS_size ha
          have s2 := numS_size hb
          have z1 : ¬ 9223372036854775807 < S.size + (numS a).size := by omega
          have z2 : ¬ 9223372036854775807 < 1 + (numS b).size := by omega
          have z3 : ¬ 9223372036854775807 < S.size + (numS a).size + (1 + (numS b).size) := by omega
          have z4 : ¬ 9223372036854775807 < S.size + (numS a).size + (1 + (numS b).size) + 1 := by omega
          have z5 : ¬ 9223372036854775807 < S.size + (numS a).size + 1 := by omega
          clear hz0 s1 s2
          go_wp2_with fail
          refine (impl_Itoa b hb _).mono ?_
          rintro e w_ ⟨rfl, rfl⟩
          go_wp2_with fail
          refine (impl_isLast _ c l k lo hi _ hl hlt (hr.ext (by repeat (first | exact Ext.refl _ | assumption | refine Ext.trans ?_ (Ext.alloc _ _) | refine Ext.trans ?_ (Ext.drew _) | refine Ext.trans ?_ (Ext.drewN _ _) | refine Ext.trans ?_ (by assumption))))).mono ?_
          rintro e w9 ⟨rfl, hE9⟩
          rw [HB.out]
          go_wp2_with fail
          go_roundw
          case rel => exact ⟨k + 1, S ++ numS a ++ (⟨#[43]⟩ ++ numS b) ++ ⟨#[44]⟩, by omega, by go_num, rfl, (by show _ = _; rw [gtTo_succ HX.out, ← HS.out, gtE, HB.out, gtN, if_pos (show (0 : Int) < (b : Int) by have := HNP.out; omega), gtD]; rfl), (by repeat (first | exact Ext.refl _ | assumption | refine Ext.trans ?_ (Ext.alloc _ _) | refine Ext.trans ?_ (Ext.drew _) | refine Ext.trans ?_ (Ext.drewN _ _) | refine Ext.trans ?_ (by assumption)))⟩
          case measure => simp [intOf]; omega
      · have HNP : Hid (¬ 0 < (b : Int)) := hnp
        have gN : decide (0 < b) = false := decide_eq_false (by omega)
        cases hbv : lastP l k
        case true =>
          have HB := Lib.hid hbv; clear hbv
          go_wp2_with fail
          refine (impl_Itoa a ha _).mono ?_
          rintro e w_ ⟨rfl, rfl⟩
          have hz0 := gtTo_size HG.out k
          rw [← HS.out] at hz0
          have s1 := numS_size ha
          have s2 := numS_size hb
          have z1 : ¬ 9223372036854775807 < S.size + (numS a).size := by omega
          have z2 : ¬ 9223372036854775807 < 1 + (numS b).size := by omega
          have z3 : ¬ 9223372036854775807 < S.size + (numS a).size + (1 + (numS b).size) := by omega
          have z4 : ¬ 9223372036854775807 < S.size + (numS a).size + (1 + (numS b).size) + 1 := by omega
          have z5 : ¬ 9223372036854775807 < S.size + (numS a).size + 1 := by omega
          clear hz0 s1 s2
          go_wp2_with fail
          refine (impl_isLast _ c l k lo hi _ hl hlt (hr.ext (by repeat (first | exact Ext.refl _ | assumption | refine Ext.trans ?_ (Ext.alloc _ _) | refine Ext.trans ?_ (Ext.drew _) | refine Ext.trans ?_ (Ext.drewN _ _) | refine Ext.trans ?_ (by assumption))))).mono ?_
          rintro e w9 ⟨rfl, hE9⟩
          rw [HB.out]
          go_wp2_with fail
          go_roundw
          case rel => exact ⟨k + 1, S ++ numS a ++ ⟨#[59]⟩, by omega, by go_num, rfl, (by show _ = _; rw [gtTo_succ HX.out, ← HS.out, gtE, HB.out, gtN, if_neg (show ¬ (0 : Int) < (b : Int) by have := HNP.out; omega), gtD]; rfl), (by repeat (first | exact Ext.refl _ | assumption | refine Ext.trans ?_ (Ext.alloc _ _) | refine Ext.trans ?_ (Ext.drew _) | refine Ext.trans ?_ (Ext.drewN _ _) | refine Ext.trans ?_ (by assumption)))⟩
          case measure => simp [intOf]; omega
        case false =>
          have HB := Lib.hid hbv; clear hbv
          go_wp2_with fail
          refine (impl_Itoa a ha _).mono ?_
          rintro e w_ ⟨rfl, rfl⟩
          have hz0 := gtTo_size HG.out k
          rw [← HS.out] at hz0
          have s1 := numS_size ha
          have s2 := numS_size hb
          have z1 : ¬ 9223372036854775807 < S.size + (numS a).size := by omega
          have z2 : ¬ 9223372036854775807 < 1 + (numS b).size := by omega
          have z3 : ¬ 9223372036854775807 < S.size + (numS a).size + (1 + (numS b).size) := by omega
          have z4 : ¬ 9223372036854775807 < S.size + (numS a).size + (1 + (numS b).size) + 1 := by omega
          have z5 : ¬ 9223372036854775807 < S.size + (numS a).size + 1 := by omega
          clear hz0 s1 s2
          go_wp2_with fail
          refine (impl_isLast _ c l k lo hi _ hl hlt (hr.ext (by repeat (first | exact Ext.refl _ | assumption | refine Ext.trans ?_ (Ext.alloc _ _) | refine Ext.trans ?_ (Ext.drew _) | refine Ext.trans ?_ (Ext.drewN _ _) | refine Ext.trans ?_ (by assumption))))).mono ?_
          rintro e w9 ⟨rfl, hE9⟩
          rw [HB.out]
          go_wp2_with fail
          go_roundw
          case rel => exact ⟨k + 1, S ++ numS a ++ ⟨#[44]⟩, by omega, by go_num, rfl, (by show _ = _; rw [gtTo_succ HX.out, ← HS.out, gtE, HB.out, gtN, if_neg (show ¬ (0 : Int) < (b : Int) by have := HNP.out; omega), gtD]; rfl), (by repeat (first | exact Ext.refl _ | assumption | refine Ext.trans ?_ (Ext.alloc _ _) | refine Ext.trans ?_ (Ext.drew _) | refine Ext.trans ?_ (Ext.drewN _ _) | refine Ext.trans ?_ (by assumption)))⟩
          case measure => simp [intOf]; omega
    · have hkl : k = l.length := by omega
      subst hkl
      clear hlt
      go_wp2_with fail
      go_ret2
      exact ⟨by rw [← HS.out]; rfl, hE⟩
set_option maxHeartbeats 4000000 in
theorem spec_GalleyText (A : Option Addr) (c : Nat) (l : List SetL) (lo hi : Nat) (w : World) (hl : l.length ≤ 1048577) (hr : RdS w lo hi A l) :
    Calls Tryd.prog 5 #[.slice A l.length c] w fun e w' => e = .returned (gtV l) ∧ Ext w w' := by
  cases h : gal l
  · rw [gtV_bad h]
    go_enter Tryd.func5, Tryd.ntmps5
    go_wp2_with (go_at_call 9; refine (spec_pgGood A c l lo hi _ hl hr).mono ?_; rintro e w1 ⟨rfl, hE1⟩; obtain ⟨hc1, hf1⟩ := bcell hE1; have hs1 := hE1.size; (try simp only [World.size_alloc] at hs1))
    go_ret2
    exact ⟨rfl, (by repeat (first | exact Ext.refl _ | assumption | refine Ext.trans ?_ (Ext.alloc _ _) | refine Ext.trans ?_ (Ext.drew _) | refine Ext.trans ?_ (Ext.drewN _ _) | refine Ext.trans ?_ (by assumption)))⟩
  rw [gtV_good h]
  have HG := Lib.hid h
  have h40 := gal_len h
  go_enter Tryd.func5, Tryd.ntmps5
  go_wp2_with (go_at_call 9; refine (spec_pgGood A c l lo hi _ hl hr).mono ?_; rintro e w1 ⟨rfl, hE1⟩; obtain ⟨hc1, hf1⟩ := bcell hE1; have hs1 := hE1.size; (try simp only [World.size_alloc] at hs1))
  clear h
  go_loopw [4, 12] (fun s i wr => ∃ (k : Nat) (S : ByteArray), k ≤ l.length ∧ i = .int .i64 (k : Int) ∧ s = .string S ∧ Hid (S = gtTo l k) ∧ Ext w wr) (fun _ i _ => l.length - (intOf i).toNat)
  case atStart => exact ⟨0, ByteArray.empty, Nat.zero_le _, rfl, rfl, rfl, (by repeat (first | exact Ext.refl _ | assumption | refine Ext.trans ?_ (Ext.alloc _ _) | refine Ext.trans ?_ (Ext.drew _) | refine Ext.trans ?_ (Ext.drewN _ _) | refine Ext.trans ?_ (by assumption)))⟩
  case round =>
    obtain ⟨k, S, hk, rfl, rfl, HS, hE⟩ := hrel
    by_cases hlt : k < l.length
    · obtain ⟨⟨dep, note, para⟩, b0, off, HX, rfl, h1, h2, h3, c0, c1, c2⟩ := RdS.get (hr.ext hE) hlt
      simp only at c0 c1 c2
      obtain ⟨⟨dd1, dd2⟩, nn1, nn2⟩ := gal_each HG.out (List.mem_of_getElem? HX.out)
      simp only at dd1 dd2 nn1 nn2
      obtain ⟨a, rfl⟩ : ∃ a : Nat, dep = a := ⟨dep.toNat, by omega⟩
      obtain ⟨b, rfl⟩ : ∃ b : Nat, note = b := ⟨note.toNat, by omega⟩
      have ha : a < 100 := by omega
      have hb : b < 100 := by omega
      clear dd1 dd2 nn1
      by_cases hnp : 0 < (b : Int)
      · have HNP : Hid (0 < (b : Int)) := hnp
        by_cases he : k + 1 = l.length
        · have HB : Hid (lastP l k = true) := by show _ = _; simp [lastP, he]
          have t1 : ((k : Int) == (l.length : Int) - 1) = true := by simp; omega
          have q1 : IntKind.i64.wrap ((l.length : Int) - 1) = (l.length : Int) - 1 := IntWalk.i64_in _ (by omega)
          have HE := Lib.hid he; clear he
          go_wp2_with fail
          refine (spec_Num a ha _).mono ?_
          rintro e wn1 ⟨rfl, hN1⟩
          have hz0 := gtTo_size HG.out k
          rw [← HS.out] at hz0
          have s1 := numS_size ha
          have s2 := numS_size hb
          have z1 : ¬ 9223372036854775807 < S.size + (numS a).size := by omega
          have z2 : ¬ 9223372036854775807 < 1 + (numS b).size := by omega
          have z3 : ¬ 9223372036854775807 < S.size + (numS a).size + (1 + (numS b).size) := by omega
          have z4 : ¬ 9223372036854775807 < S.size + (numS a).size + (1 + (numS b).size) + 1 := by omega
          have z5 : ¬ 9223372036854775807 < S.size + (numS a).size + 1 := by omega
          clear hz0 s1 s2
          have y1 : wn1.cell? ⟨wr.heap.size, 1, none⟩ = some (.int .i64 (b : Int)) := box_new hN1 rfl
          have y2 : wn1.cell? ⟨wr.heap.size, 2, none⟩ = some (.int .i64 para) := box_new hN1 rfl
          go_wp2_with fail
          refine (spec_Num b hb _).mono ?_
          rintro e wn2 ⟨rfl, hN2⟩
          replace y2 := hN2.cell y2
          go_wp2_with fail
          have ey : ∀ y : XW wn2, y.v.cell? ⟨wr.heap.size, 2, none⟩ = _ := fun y => y.h.cell y2
          have hEw : Ext wr wn2 := (by repeat (first | exact Ext.refl _ | assumption | refine Ext.trans ?_ (Ext.alloc _ _) | refine Ext.trans ?_ (Ext.drew _) | refine Ext.trans ?_ (Ext.drewN _ _) | refine Ext.trans ?_ (by assumption)))
          refine wp_region_xw (w0 := wn2) (by kernel_rfl) (by kernel_rfl) (by repeat (first | exact Ext.refl _ | assumption | refine Ext.trans ?_ (Ext.alloc _ _) | refine Ext.trans ?_ (Ext.drew _) | refine Ext.trans ?_ (Ext.drewN _ _) | refine Ext.trans ?_ (by assumption))) ?_; (repeat (go_big_quiet_step (fail))); refine wpQuiet_nil ?_; intro w9 hw'; obtain ⟨⟨_, hEw9⟩, hw''⟩ := hw'; subst hw''
          go_wp2_with fail
          go_roundw
          case rel => exact ⟨k + 1, S ++ numS a ++ (⟨#[43]⟩ ++ numS b) ++ ⟨#[59]⟩, by omega, by go_num, rfl, (by show _ = _; rw [gtTo_succ HX.out, ← HS.out, gtE, HB.out, gtN, if_pos (show (0 : Int) < (b : Int) by have := HNP.out; omega), gtD]; rfl), (by repeat (first | exact Ext.refl _ | assumption | refine Ext.trans ?_ (Ext.alloc _ _) | refine Ext.trans ?_ (Ext.drew _) | refine Ext.trans ?_ (Ext.drewN _ _) | refine Ext.trans ?_ (by assumption)))⟩
          case measure => simp [intOf]; omega
        · obtain ⟨⟨yd, yn, yp⟩, b', off', HY, eA, _, _, _, _, _, d2⟩ := RdS.get (hr.ext hE) (k := k + 1) (by omega)
          injection eA with eA; injection eA with eb eo _; subst eb; subst eo
          simp only at d2
          have hv : lastP l k = (yp != para) := by simp only [lastP, pa_at HX.out, pa_at HY.out, he, ne_beq, decide_false, Bool.false_or]
          have HV := Lib.hid hv
          have t1 : ((k : Int) == (l.length : Int) - 1) = false := by simp; omega
          have g1 : (0 : Int) ≤ (k : Int) + 1 := by omega
          have g2 : (k : Int) + 1 < l.length := by omega
          have q1 : IntKind.i64.wrap ((l.length : Int) - 1) = (l.length : Int) - 1 := IntWalk.i64_in _ (by omega)
          have q2 : IntKind.i64.wrap ((k : Int) + 1) = (k : Int) + 1 := IntWalk.i64_in _ (by omega)
          have q3 : ((k : Int) + 1).toNat = k + 1 := by omega
          have HE := Lib.hid he; clear he hv
          by_cases hyp : yp = para
          · have HB : Hid (lastP l k = false) := by show _ = _; rw [HV.out]; simp [hyp]
            have u1 : (yp != para) = false := by simp [hyp]
            clear hyp
            go_wp2_with fail
            refine (spec_Num a ha _).mono ?_
            rintro e wn1 ⟨rfl, hN1⟩
            have hz0 := gtTo_size HG.out k
            rw [← HS.out] at hz0
            have s1 := numS_size ha
            have s2 := numS_size hb
            have z1 : ¬ 9223372036854775807 < S.size + (numS a).size := by omega
            have z2 : ¬ 9223372036854775807 < 1 + (numS b).size := by omega
            have z3 : ¬ 9223372036854775807 < S.size + (numS a).size + (1 + (numS b).size) := by omega
            have z4 : ¬ 9223372036854775807 < S.size + (numS a).size + (1 + (numS b).size) + 1 := by omega
            have z5 : ¬ 9223372036854775807 < S.size + (numS a).size + 1 := by omega
            clear hz0 s1 s2
            have y1 : wn1.cell? ⟨wr.heap.size, 1, none⟩ = some (.int .i64 (b : Int)) := box_new hN1 rfl
            have y2 : wn1.cell? ⟨wr.heap.size, 2, none⟩ = some (.int .i64 para) := box_new hN1 rfl
            go_wp2_with fail
            refine (spec_Num b hb _).mono ?_
            rintro e wn2 ⟨rfl, hN2⟩
            replace y2 := hN2.cell y2
            go_wp2_with fail
            have ey : ∀ y : XW wn2, y.v.cell? ⟨wr.heap.size, 2, none⟩ = _ := fun y => y.h.cell y2
            have hEw : Ext wr wn2 := (by repeat (first | exact Ext.refl _ | assumption | refine Ext.trans ?_ (Ext.alloc _ _) | refine Ext.trans ?_ (Ext.drew _) | refine Ext.trans ?_ (Ext.drewN _ _) | refine Ext.trans ?_ (by assumption)))
            have ed : ∀ y : XW wn2, y.v.cell? _ = _ := fun y => y.h.cell (hEw.cell d2)
            refine wp_region_xw (w0 := wn2) (by kernel_rfl) (by kernel_rfl) (by repeat (first | exact Ext.refl _ | assumption | refine Ext.trans ?_ (Ext.alloc _ _) | refine Ext.trans ?_ (Ext.drew _) | refine Ext.trans ?_ (Ext.drewN _ _) | refine Ext.trans ?_ (by assumption))) ?_; (repeat (go_big_quiet_step (fail))); refine wpQuiet_nil ?_; intro w9 hw'; obtain ⟨⟨_, hEw9⟩, hw''⟩ := hw'; subst hw''
            go_wp2_with fail
            go_roundw
            case rel => exact ⟨k + 1, S ++ numS a ++ (⟨#[43]⟩ ++ numS b) ++ ⟨#[44]⟩, by omega, by go_num, rfl, (by show _ = _; rw [gtTo_succ HX.out, ← HS.out, gtE, HB.out, gtN, if_pos (show (0 : Int) < (b : Int) by have := HNP.out; omega), gtD]; rfl), (by repeat (first | exact Ext.refl _ | assumption | refine Ext.trans ?_ (Ext.alloc _ _) | refine Ext.trans ?_ (Ext.drew _) | refine Ext.trans ?_ (Ext.drewN _ _) | refine Ext.trans ?_ (by assumption)))⟩
            case measure => simp [intOf]; omega
          · have HB : Hid (lastP l k = true) := by show _ = _; rw [HV.out]; simp [hyp]
            have u1 : (yp != para) = true := by simp [hyp]
            clear hyp
            go_wp2_with fail
            refine (spec_Num a ha _).mono ?_
            rintro e wn1 ⟨rfl, hN1⟩
            have hz0 := gtTo_size HG.out k
            rw [← HS.out] at hz0
            have s1 := numS_size ha
            have s2 := numS_size hb
            have z1 : ¬ 9223372036854775807 < S.size + (numS a).size := by omega
            have z2 : ¬ 9223372036854775807 < 1 + (numS b).size := by omega
            have z3 : ¬ 9223372036854775807 < S.size + (numS a).size + (1 + (numS b).size) := by omega
            have z4 : ¬ 9223372036854775807 < S.size + (numS a).size + (1 + (numS b).size) + 1 := by omega
            have z5 : ¬ 9223372036854775807 < S.size + (numS a).size + 1 := by omega
            clear hz0 s1 s2
            have y1 : wn1.cell? ⟨wr.heap.size, 1, none⟩ = some (.int .i64 (b : Int)) := box_new hN1 rfl
            have y2 : wn1.cell? ⟨wr.heap.size, 2, none⟩ = some (.int .i64 para) := box_new hN1 rfl
            go_wp2_with fail
            refine (spec_Num b hb _).mono ?_
            rintro e wn2 ⟨rfl, hN2⟩
            replace y2 := hN2.cell y2
            go_wp2_with fail
            have ey : ∀ y : XW wn2, y.v.cell? ⟨wr.heap.size, 2, none⟩ = _ := fun y => y.h.cell y2
            have hEw : Ext wr wn2 := (by repeat (first | exact Ext.refl _ | assumption | refine Ext.trans ?_ (Ext.alloc _ _) | refine Ext.trans ?_ (Ext.drew _) | refine Ext.trans ?_ (Ext.drewN _ _) | refine Ext.trans ?_ (by assumption)))
            have ed : ∀ y : XW wn2, y.v.cell? _ = _ := fun y => y.h.cell (hEw.cell d2)
            refine wp_region_xw (w0 := wn2) (by kernel_rfl) (by kernel_rfl) (by repeat (first | exact Ext.refl _ | assumption | refine Ext.trans ?_ (Ext.alloc _ _) | refine Ext.trans ?_ (Ext.drew _) | refine Ext.trans ?_ (Ext.drewN _ _) | refine Ext.trans ?_ (by assumption))) ?_; (repeat (go_big_quiet_step (fail))); refine wpQuiet_nil ?_; intro w9 hw'; obtain ⟨⟨_, hEw9⟩, hw''⟩ := hw'; subst hw''
            go_wp2_with fail
            go_roundw
            case rel => exact ⟨k + 1, S ++ numS a ++ (⟨#[43]⟩ ++ numS b) ++ ⟨#[59]⟩, by omega, by go_num, rfl, (by show _ = _; rw [gtTo_succ HX.out, ← HS.out, gtE, HB.out, gtN, if_pos (show (0 : Int) < (b : Int) by have := HNP.out; omega), gtD]; rfl), (by repeat (first | exact Ext.refl _ | assumption | refine Ext.trans ?_ (Ext.alloc _ _) | refine Ext.trans ?_ (Ext.drew _) | refine Ext.trans ?_ (Ext.drewN _ _) | refine Ext.trans ?_ (by assumption)))⟩
            case measure => simp [intOf]; omega
      · have HNP : Hid (¬ 0 < (b : Int)) := hnp
        have gN : decide (0 < b) = false := decide_eq_false (by omega)
        by_cases he : k + 1 = l.length
        · have HB : Hid (lastP l k = true) := by show _ = _; simp [lastP, he]
          have t1 : ((k : Int) == (l.length : Int) - 1) = true := by simp; omega
          have q1 : IntKind.i64.wrap ((l.length : Int) - 1) = (l.length : Int) - 1 := IntWalk.i64_in _ (by omega)
          have HE := Lib.hid he; clear he
          go_wp2_with fail
          refine (spec_Num a ha _).mono ?_
          rintro e wn1 ⟨rfl, hN1⟩
          have hz0 := gtTo_size HG.out k
          rw [← HS.out] at hz0
          have s1 := numS_size ha
          have s2 := numS_size hb
          have z1 : ¬ 9223372036854775807 < S.size + (numS a).size := by omega
          have z2 : ¬ 9223372036854775807 < 1 + (numS b).size := by omega
          have z3 : ¬ 9223372036854775807 < S.size + (numS a).size + (1 + (numS b).size) := by omega
          have z4 : ¬ 9223372036854775807 < S.size + (numS a).size + (1 + (numS b).size) + 1 := by omega
          have z5 : ¬ 9223372036854775807 < S.size + (numS a).size + 1 := by omega
          clear hz0 s1 s2
          have y1 : wn1.cell? ⟨wr.heap.size, 1, none⟩ = some (.int .i64 (b : Int)) := box_new hN1 rfl
          have y2 : wn1.cell? ⟨wr.heap.size, 2, none⟩ = some (.int .i64 para) := box_new hN1 rfl
          go_wp2_with fail
          have ey : ∀ y : XW wn1, y.v.cell? ⟨wr.heap.size, 2, none⟩ = _ := fun y => y.h.cell y2
          have hEw : Ext wr wn1 := (by repeat (first | exact Ext.refl _ | assumption | refine Ext.trans ?_ (Ext.alloc _ _) | refine Ext.trans ?_ (Ext.drew _) | refine Ext.trans ?_ (Ext.drewN _ _) | refine Ext.trans ?_ (by assumption)))
          refine wp_region_xw (w0 := wn1) (by kernel_rfl) (by kernel_rfl) (by repeat (first | exact Ext.refl _ | assumption | refine Ext.trans ?_ (Ext.alloc _ _) | refine Ext.trans ?_ (Ext.drew _) | refine Ext.trans ?_ (Ext.drewN _ _) | refine Ext.trans ?_ (by assumption))) ?_; (repeat (go_big_quiet_step (fail))); refine wpQuiet_nil ?_; intro w9 hw'; obtain ⟨⟨_, hEw9⟩, hw''⟩ := hw'; subst hw''
          go_wp2_with fail
          go_roundw
          case rel => exact ⟨k + 1, S ++ numS a ++ ⟨#[59]⟩, by omega, by go_num, rfl, (by show _ = _; rw [gtTo_succ HX.out, ← HS.out, gtE, HB.out, gtN, if_neg (show ¬ (0 : Int) < (b : Int) by have := HNP.out; omega), gtD]; rfl), (by repeat (first | exact Ext.refl _ | assumption | refine Ext.trans ?_ (Ext.alloc _ _) | refine Ext.trans ?_ (Ext.drew _) | refine Ext.trans ?_ (Ext.drewN _ _) | refine Ext.trans ?_ (by assumption)))⟩
          case measure => simp [intOf]; omega
        · obtain ⟨⟨yd, yn, yp⟩, b', off', HY, eA, _, _, _, _, _, d2⟩ := RdS.get (hr.ext hE) (k := k + 1) (by omega)
          injection eA with eA; injection eA with eb eo _; subst eb; subst eo
          simp only at d2
          have hv : lastP l k = (yp != para) := by simp only [lastP, pa_at HX.out, pa_at HY.out, he, ne_beq, decide_false, Bool.false_or]
          have HV := Lib.hid hv
          have t1 : ((k : Int) == (l.length : Int) - 1) = false := by simp; omega
          have g1 : (0 : Int) ≤ (k : Int) + 1 := by omega
          have g2 : (k : Int) + 1 < l.length := by omega
          have q1 : IntKind.i64.wrap ((l.length : Int) - 1) = (l.length : Int) - 1 := IntWalk.i64_in _ (by omega)
          have q2 : IntKind.i64.wrap ((k : Int) + 1) = (k : Int) + 1 := IntWalk.i64_in _ (by omega)
          have q3 : ((k : Int) + 1).toNat = k + 1 := by omega
          have HE := Lib.hid he; clear he hv
          by_cases hyp : yp = para
          · have HB : Hid (lastP l k = false) := by show _ = _; rw [HV.out]; simp [hyp]
            have u1 : (yp != para) = false := by simp [hyp]
            clear hyp
            go_wp2_with fail
            refine (spec_Num a ha _).mono ?_
            rintro e wn1 ⟨rfl, hN1⟩
            have hz0 := gtTo_size HG.out k
            rw [← HS.out] at hz0
            have s1 := numS_size ha
            have s2 := numS_size hb
            have z1 : ¬ 9223372036854775807 < S.size + (numS a).size := by omega
            have z2 : ¬ 9223372036854775807 < 1 + (numS b).size := by omega
            have z3 : ¬ 9223372036854775807 < S.size + (numS a).size + (1 + (numS b).size) := by omega
            have z4 : ¬ 9223372036854775807 < S.size + (numS a).size + (1 + (numS b).size) + 1 := by omega
            have z5 : ¬ 9223372036854775807 < S.size + (numS a).size + 1 := by omega
            clear hz0 s1 s2
            have y1 : wn1.cell? ⟨wr.heap.size, 1, none⟩ = some (.int .i64 (b : Int)) := box_new hN1 rfl
            have y2 : wn1.cell? ⟨wr.heap.size, 2, none⟩ = some (.int .i64 para) := box_new hN1 rfl
            go_wp2_with fail
            have ey : ∀ y : XW wn1, y.v.cell? ⟨wr.heap.size, 2, none⟩ = _ := fun y => y.h.cell y2
            have hEw : Ext wr wn1 := (by repeat (first | exact Ext.refl _ | assumption | refine Ext.trans ?_ (Ext.alloc _ _) | refine Ext.trans ?_ (Ext.drew _) | refine Ext.trans ?_ (Ext.drewN _ _) | refine Ext.trans ?_ (by assumption)))
            have ed : ∀ y : XW wn1, y.v.cell? _ = _ := fun y => y.h.cell (hEw.cell d2)
            refine wp_region_xw (w0 := wn1) (by kernel_rfl) (by kernel_rfl) (by repeat (first | exact Ext.refl _ | assumption | refine Ext.trans ?_ (Ext.alloc _ _) | refine Ext.trans ?_ (Ext.drew _) | refine Ext.trans ?_ (Ext.drewN _ _) | refine Ext.trans ?_ (by assumption))) ?_; (repeat (go_big_quiet_step (fail))); refine wpQuiet_nil ?_; intro w9 hw'; obtain ⟨⟨_, hEw9⟩, hw''⟩ := hw'; subst hw''
            go_wp2_with fail
            go_roundw
            case rel => exact ⟨k + 1, S ++ numS a ++ ⟨#[44]⟩, by omega, by go_num, rfl, (by show _ = _; rw [gtTo_succ HX.out, ← HS.out, gtE, HB.out, gtN, if_neg (show ¬ (0 : Int) < (b : Int) by have := HNP.out; omega), gtD]; rfl), (by repeat (first | exact Ext.refl _ | assumption | refine Ext.trans ?_ (Ext.alloc _ _) | refine Ext.trans ?_ (Ext.drew _) | refine Ext.trans ?_ (Ext.drewN _ _) | refine Ext.trans ?_ (by assumption)))⟩
            case measure => simp [intOf]; omega
          · have HB : Hid (lastP l k = true) := by show _ = _; rw [HV.out]; simp [hyp]
            have u1 : (yp != para) = true := by simp [hyp]
            clear hyp
            go_wp2_with fail
            refine (spec_Num a ha _).mono ?_
            rintro e wn1 ⟨rfl, hN1⟩
            have hz0 := gtTo_size HG.out k
            rw [← HS.out] at hz0
            have s1 := numS_size ha
            have s2 := numS_size hb
            have z1 : ¬ 9223372036854775807 < S.size + (numS a).size := by omega
            have z2 : ¬ 9223372036854775807 < 1 + (numS b).size := by omega
            have z3 : ¬ 9223372036854775807 < S.size + (numS a).size + (1 + (numS b).size) := by omega
            have z4 : ¬ 9223372036854775807 < S.size + (numS a).size + (1 + (numS b).size) + 1 := by omega
            have z5 : ¬ 9223372036854775807 < S.size + (numS a).size + 1 := by omega
            clear hz0 s1 s2
            have y1 : wn1.cell? ⟨wr.heap.size, 1, none⟩ = some (.int .i64 (b : Int)) := box_new hN1 rfl
            have y2 : wn1.cell? ⟨wr.heap.size, 2, none⟩ = some (.int .i64 para) := box_new hN1 rfl
            go_wp2_with fail
            have ey : ∀ y : XW wn1, y.v.cell? ⟨wr.heap.size, 2, none⟩ = _ := fun y => y.h.cell y2
            have hEw : Ext wr wn1 := (by repeat (first | exact Ext.refl _ | assumption | refine Ext.trans ?_ (Ext.alloc _ _) | refine Ext.trans ?_ (Ext.drew _) | refine Ext.trans ?_ (Ext.drewN _ _) | refine Ext.trans ?_ (by assumption)))
            have ed : ∀ y : XW wn1, y.v.cell? _ = _ := fun y => y.h.cell (hEw.cell d2)
            refine wp_region_xw (w0 := wn1) (by kernel_rfl) (by kernel_rfl) (by repeat (first | exact Ext.refl _ | assumption | refine Ext.trans ?_ (Ext.alloc _ _) | refine Ext.trans ?_ (Ext.drew _) | refine Ext.trans ?_ (Ext.drewN _ _) | refine Ext.trans ?_ (by assumption))) ?_; (repeat (go_big_quiet_step (fail))); refine wpQuiet_nil ?_; intro w9 hw'; obtain ⟨⟨_, hEw9⟩, hw''⟩ := hw'; subst hw''
            go_wp2_with fail
            go_roundw
            case rel => exact ⟨k + 1, S ++ numS a ++ ⟨#[59]⟩, by omega, by go_num, rfl, (by show _ = _; rw [gtTo_succ HX.out, ← HS.out, gtE, HB.out, gtN, if_neg (show ¬ (0 : Int) < (b : Int) by have := HNP.out; omega), gtD]; rfl), (by repeat (first | exact Ext.refl _ | assumption | refine Ext.trans ?_ (Ext.alloc _ _) | refine Ext.trans ?_ (Ext.drew _) | refine Ext.trans ?_ (Ext.drewN _ _) | refine Ext.trans ?_ (by assumption)))⟩
            case measure => simp [intOf]; omega
    · have hkl : k = l.length := by omega
      subst hkl
      clear hlt
      go_wp2_with fail
      go_ret2
      exact ⟨by rw [← HS.out]; rfl, hE⟩
end Go.Proofs.YtblecbdkpjmfeaaDoor
