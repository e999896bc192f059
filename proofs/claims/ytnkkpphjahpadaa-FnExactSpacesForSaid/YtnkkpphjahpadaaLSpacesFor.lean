/- Proved here: for every input the law FnExactSpacesFor returns true and leaves its arguments as they were. No condition. -/
import Derived.Test.YtnkkpphjahpadaaRows
import Derived.Test.YtnkkpphjahpadaaOpen
import Derived.Deep.RegionHeld3
import Derived.Test.YtnkkpphjahpadaaStrO
import Derived.Test.YtnkkpphjahpadaaMksS
import Derived.Test.YtnkkpphjahpadaaMarkT
import Derived.Test.YtnkkpphjahpadaaFoK
namespace Go.Proofs.Ytnkkpphjahpadaa.fnExactSpacesFor
open Go.ChangeShapes Go.WideShapes Go.ChangeAt Go.RowKit Go.Deep
set_option linter.unusedVariables false

set_option maxHeartbeats 2000000 in
theorem walk (A0 : Option Addr) (c0 : Nat) (l0 : List Srt) (A1 : Option Addr) (c1 : Nat) (l1 : List ByteArray) (x2 : Rul) (a3 : Int) (w : World) (hl0 : l0.length ≤ c0) (hm0 : c0 ≤ maxLen) (hr0 : RdA w 0 w.heap.size A0 (l0.flatMap Srt.enc)) (hq0 : ∀ m ∈ l0, m.code.size ≤ maxLen) (hl1 : l1.length ≤ c1) (hm1 : c1 ≤ maxLen) (hr1 : RdA w 0 w.heap.size A1 (l1.map Value.string)) (hq1 : ∀ s ∈ l1, s.size ≤ maxLen) (w3 : (Lit.int .i64 a3).wf = true) :
    Calls Try.prog 10 #[.slice A0 l0.length c0, .slice A1 l1.length c1, .agg #[.int .i64 x2.least, .int .i64 x2.normal, .int .i64 x2.most], .int .i64 a3] w fun e w' => e = .returned (.bool true) ∧ Ext w w' := by
  unfold maxLen at hm0
  unfold maxLen at hm1
  by_cases hsz0 : bulkS l0 ≤ 1048576
  case neg =>
    go_enter Try.func10, Try.ntmps10
    have hE : Ext w w := Ext.refl _
    go_wp2_with fail
    have hEb2 := Ext.alloc w (.cells #[.int .i64 x2.least, .int .i64 x2.normal, .int .i64 x2.most] 57)
    replace hr0 := hr0.ext hEb2
    replace hr1 := hr1.ext hEb2
    have hb2_0 := box_new (Ext.refl (World.alloc w (.cells #[.int .i64 x2.least, .int .i64 x2.normal, .int .i64 x2.most] 57))) (j := 0) rfl
    have hb2_1 := box_new (Ext.refl (World.alloc w (.cells #[.int .i64 x2.least, .int .i64 x2.normal, .int .i64 x2.most] 57))) (j := 1) rfl
    have hb2_2 := box_new (Ext.refl (World.alloc w (.cells #[.int .i64 x2.least, .int .i64 x2.normal, .int .i64 x2.most] 57))) (j := 2) rfl
    replace hE := hE.trans hEb2
    clear hEb2
    have zb2 : w.heap.size < (World.alloc w (.cells #[.int .i64 x2.least, .int .i64 x2.normal, .int .i64 x2.most] 57)).heap.size := by simp
    generalize World.alloc w (.cells #[.int .i64 x2.least, .int .i64 x2.normal, .int .i64 x2.most] 57) = wb at *
    refine (szSortS_any A0 c0 l0 _ _ _ _ (by omega) hq0 (by omega) (by omega) hr0).mono ?_
    rintro e wS0 ⟨rfl, hES0⟩
    have zS0 := hES0.size
    replace hr0 := hr0.ext hES0
    replace hr1 := hr1.ext hES0
    replace hb2_0 := hES0.cell hb2_0
    replace hb2_1 := hES0.cell hb2_1
    replace hb2_2 := hES0.cell hb2_2
    replace hE := hE.trans hES0
    rw [szS_no (by omega)]
    go_wp2_with fail
    go_ret
    exact ⟨rfl, hE⟩
  by_cases hsz1 : bulkS l0 + bulkT l1 ≤ 1048576
  case neg =>
    go_enter Try.func10, Try.ntmps10
    have hE : Ext w w := Ext.refl _
    go_wp2_with fail
    have hEb2 := Ext.alloc w (.cells #[.int .i64 x2.least, .int .i64 x2.normal, .int .i64 x2.most] 57)
    replace hr0 := hr0.ext hEb2
    replace hr1 := hr1.ext hEb2
    have hb2_0 := box_new (Ext.refl (World.alloc w (.cells #[.int .i64 x2.least, .int .i64 x2.normal, .int .i64 x2.most] 57))) (j := 0) rfl
    have hb2_1 := box_new (Ext.refl (World.alloc w (.cells #[.int .i64 x2.least, .int .i64 x2.normal, .int .i64 x2.most] 57))) (j := 1) rfl
    have hb2_2 := box_new (Ext.refl (World.alloc w (.cells #[.int .i64 x2.least, .int .i64 x2.normal, .int .i64 x2.most] 57))) (j := 2) rfl
    replace hE := hE.trans hEb2
    clear hEb2
    have zb2 : w.heap.size < (World.alloc w (.cells #[.int .i64 x2.least, .int .i64 x2.normal, .int .i64 x2.most] 57)).heap.size := by simp
    generalize World.alloc w (.cells #[.int .i64 x2.least, .int .i64 x2.normal, .int .i64 x2.most] 57) = wb at *
    refine (szSortS_any A0 c0 l0 _ _ _ _ (by omega) hq0 (by omega) (by omega) hr0).mono ?_
    rintro e wS0 ⟨rfl, hES0⟩
    have zS0 := hES0.size
    replace hr0 := hr0.ext hES0
    replace hr1 := hr1.ext hES0
    replace hb2_0 := hES0.cell hb2_0
    replace hb2_1 := hES0.cell hb2_1
    replace hb2_2 := hES0.cell hb2_2
    replace hE := hE.trans hES0
    rw [szS_yes (by omega)]
    go_wp2_with fail
    refine (szStringS_any A1 c1 l1 _ _ _ _ (by omega) hq1 (by omega) (by omega) hr1).mono ?_
    rintro e w_ ⟨rfl, rfl⟩
    rw [szT_no (by omega)]
    go_wp2_with fail
    go_ret
    exact ⟨rfl, hE⟩
  have hn0 : l0.length ≤ 1048576 := by unfold bulkS at hsz0; omega
  have hb0 : ∀ m ∈ l0, m.code.size ≤ 1048577 := fun m hm => by have := recS_le hm; unfold bulkS at hsz0; omega
  have hn1 : l1.length ≤ 1048576 := by unfold bulkT at hsz1; omega
  have hb1 : ∀ s ∈ l1, s.size ≤ 1048577 := fun s hs => by have := str_le hs; unfold bulkT at hsz1; omega
  have hlim : (sfP l0 l1 x2 a3).1.length ≤ 4000000 := sfP_len _ _ _ _
  go_enter Try.func10, Try.ntmps10
  have hE : Ext w w := Ext.refl _
  go_wp2_with fail
  have hEb2 := Ext.alloc w (.cells #[.int .i64 x2.least, .int .i64 x2.normal, .int .i64 x2.most] 57)
  replace hr0 := hr0.ext hEb2
  replace hr1 := hr1.ext hEb2
  have hb2_0 := box_new (Ext.refl (World.alloc w (.cells #[.int .i64 x2.least, .int .i64 x2.normal, .int .i64 x2.most] 57))) (j := 0) rfl
  have hb2_1 := box_new (Ext.refl (World.alloc w (.cells #[.int .i64 x2.least, .int .i64 x2.normal, .int .i64 x2.most] 57))) (j := 1) rfl
  have hb2_2 := box_new (Ext.refl (World.alloc w (.cells #[.int .i64 x2.least, .int .i64 x2.normal, .int .i64 x2.most] 57))) (j := 2) rfl
  replace hE := hE.trans hEb2
  clear hEb2
  have zb2 : w.heap.size < (World.alloc w (.cells #[.int .i64 x2.least, .int .i64 x2.normal, .int .i64 x2.most] 57)).heap.size := by simp
  generalize World.alloc w (.cells #[.int .i64 x2.least, .int .i64 x2.normal, .int .i64 x2.most] 57) = wb at *
  refine (szSortS_any A0 c0 l0 _ _ _ _ (by omega) hq0 (by omega) (by omega) hr0).mono ?_
  rintro e wS0 ⟨rfl, hES0⟩
  have zS0 := hES0.size
  replace hr0 := hr0.ext hES0
  replace hr1 := hr1.ext hES0
  replace hb2_0 := hES0.cell hb2_0
  replace hb2_1 := hES0.cell hb2_1
  replace hb2_2 := hES0.cell hb2_2
  replace hE := hE.trans hES0
  rw [szS_yes (by omega)]
  go_wp2_with fail
  refine (szStringS_any A1 c1 l1 _ _ _ _ (by omega) hq1 (by omega) (by omega) hr1).mono ?_
  rintro e w_ ⟨rfl, rfl⟩
  rw [szT_yes (by omega)]
  go_wp2_with fail
  have ehb2_0 : ∀ w', Ext wS0 w' → w'.cell? _ = _ := fun _ h => h.cell hb2_0
  have ehb2_1 : ∀ w', Ext wS0 w' → w'.cell? _ = _ := fun _ h => h.cell hb2_1
  have ehb2_2 : ∀ w', Ext wS0 w' → w'.cell? _ = _ := fun _ h => h.cell hb2_2
  go_region_held3 (fun w' => Ext wS0 w') (exact (by repeat (first | exact Ext.refl _ | assumption | refine Ext.trans ?_ (Ext.alloc _ _) | refine Ext.trans ?_ (Ext.drew _) | refine Ext.trans ?_ (Ext.drewN _ _) | refine Ext.trans ?_ (by assumption)))) (first | (go_at_call 17; with_reducible refine (toSortS_any A0 c0 l0 _ _ _ (by omega) (hr0.ext (by repeat (first | exact Ext.refl _ | assumption | refine Ext.trans ?_ (Ext.alloc _ _) | refine Ext.trans ?_ (Ext.drew _) | refine Ext.trans ?_ (Ext.drewN _ _) | refine Ext.trans ?_ (by assumption))))).mono ?_; rintro e w1 ⟨gs0, rfl, hXs0, hE1⟩) | (go_at_call 40; with_reducible refine (toStringS_any A1 c1 l1 _ _ _ (by omega) (hr1.ext (by repeat (first | exact Ext.refl _ | assumption | refine Ext.trans ?_ (Ext.alloc _ _) | refine Ext.trans ?_ (Ext.drew _) | refine Ext.trans ?_ (Ext.drewN _ _) | refine Ext.trans ?_ (by assumption))))).mono ?_; rintro e w2 ⟨gs1, rfl, hXs1, hE2⟩) | (go_at_call 46; refine (toRule_any x2 _).mono ?_; rintro e w3 ⟨rfl, hE3⟩) | (go_at_call 45; refine (spec_SpacesFor _ _ _ _ l0 l1 x2 a3 _ _ _ _ _ (by omega) hb0 (by omega) hb1 (hXs0.ext (by first | exact (hE2).trans hE3 | exact (by repeat (first | exact Ext.refl _ | assumption | refine Ext.trans ?_ (Ext.alloc _ _) | refine Ext.trans ?_ (Ext.drew _) | refine Ext.trans ?_ (Ext.drewN _ _) | refine Ext.trans ?_ (by assumption))))) (hXs1.ext (by first | exact hE3 | exact (by repeat (first | exact Ext.refl _ | assumption | refine Ext.trans ?_ (Ext.alloc _ _) | refine Ext.trans ?_ (Ext.drew _) | refine Ext.trans ?_ (Ext.drewN _ _) | refine Ext.trans ?_ (by assumption)))))).mono ?_; rintro e w4 ⟨AS, cS, rfl, hcS, hRS, hE4⟩))
  have y1 : Ext wS0 w1 := (by repeat (first | exact Ext.refl _ | assumption | refine Ext.trans ?_ (Ext.alloc _ _) | refine Ext.trans ?_ (Ext.drew _) | refine Ext.trans ?_ (Ext.drewN _ _) | refine Ext.trans ?_ (by assumption)))
  have z1 := y1.size
  have y2 : Ext w1 w2 := (by repeat (first | exact Ext.refl _ | assumption | refine Ext.trans ?_ (Ext.alloc _ _) | refine Ext.trans ?_ (Ext.drew _) | refine Ext.trans ?_ (Ext.drewN _ _) | refine Ext.trans ?_ (by assumption)))
  have z2 := y2.size
  have y3 : Ext w2 w3 := (by repeat (first | exact Ext.refl _ | assumption | refine Ext.trans ?_ (Ext.alloc _ _) | refine Ext.trans ?_ (Ext.drew _) | refine Ext.trans ?_ (Ext.drewN _ _) | refine Ext.trans ?_ (by assumption)))
  have z3 := y3.size
  have y4 : Ext w3 w4 := (by repeat (first | exact Ext.refl _ | assumption | refine Ext.trans ?_ (Ext.alloc _ _) | refine Ext.trans ?_ (Ext.drew _) | refine Ext.trans ?_ (Ext.drewN _ _) | refine Ext.trans ?_ (by assumption)))
  have z4 := y4.size
  have y : Ext wS0 w4 := (by repeat (first | exact Ext.refl _ | assumption | refine Ext.trans ?_ (Ext.alloc _ _) | refine Ext.trans ?_ (Ext.drew _) | refine Ext.trans ?_ (Ext.drewN _ _) | refine Ext.trans ?_ (by assumption)))
  clear ehb2_0
  clear ehb2_1
  clear ehb2_2
  replace hr0 := hr0.ext y
  replace hr1 := hr1.ext y
  replace hb2_0 := y.cell hb2_0
  replace hb2_1 := y.cell hb2_1
  replace hb2_2 := y.cell hb2_2
  replace hE := hE.trans y
  clear y
  go_wp2_with fail
  refine (toSortS_any A0 c0 l0 _ _ _ (by omega) hr0).mono ?_
  rintro e w5 ⟨gx0, rfl, hXx0, hE5⟩
  have z5 := hE5.size
  replace hr0 := hr0.ext hE5
  replace hr1 := hr1.ext hE5
  replace hb2_0 := hE5.cell hb2_0
  replace hb2_1 := hE5.cell hb2_1
  replace hb2_2 := hE5.cell hb2_2
  replace hRS := hRS.ext hE5
  replace hE := hE.trans hE5
  go_wp2_with fail
  refine (toStringS_any A1 c1 l1 _ _ _ (by omega) hr1).mono ?_
  rintro e w6 ⟨gx1, rfl, hXx1, hE6⟩
  have z6 := hE6.size
  replace hr0 := hr0.ext hE6
  replace hr1 := hr1.ext hE6
  replace hb2_0 := hE6.cell hb2_0
  replace hb2_1 := hE6.cell hb2_1
  replace hb2_2 := hE6.cell hb2_2
  replace hRS := hRS.ext hE6
  replace hXx0 := hXx0.ext hE6
  replace hE := hE.trans hE6
  go_wp2_with fail
  refine (toRule_any x2 _).mono ?_
  rintro e w7 ⟨rfl, hE7⟩
  have z7 := hE7.size
  replace hr0 := hr0.ext hE7
  replace hr1 := hr1.ext hE7
  replace hb2_0 := hE7.cell hb2_0
  replace hb2_1 := hE7.cell hb2_1
  replace hb2_2 := hE7.cell hb2_2
  replace hRS := hRS.ext hE7
  replace hXx0 := hXx0.ext hE7
  replace hXx1 := hXx1.ext hE7
  replace hE := hE.trans hE7
  go_wp2_with fail
  refine (impl_SpacesFor _ _ _ _ l0 l1 x2 a3 _ _ _ _ _ (by omega) hb0 (by omega) hb1 hXx0 hXx1).mono ?_
  rintro e w8 ⟨AG, cG, rfl, hcG, hRG, hE8⟩
  have z8 := hE8.size
  replace hr0 := hr0.ext hE8
  replace hr1 := hr1.ext hE8
  replace hb2_0 := hE8.cell hb2_0
  replace hb2_1 := hE8.cell hb2_1
  replace hb2_2 := hE8.cell hb2_2
  replace hRS := hRS.ext hE8
  replace hXx0 := hXx0.ext hE8
  replace hXx1 := hXx1.ext hE8
  replace hE := hE.trans hE8
  go_wp2_with fail
  refine (eqIntS_same _ _ _ _ (sfP l0 l1 x2 a3).1 _ _ _ _ _ (by omega) hRG hRS).mono ?_
  rintro e w9 ⟨rfl, hE9⟩
  have z9 := hE9.size
  replace hr0 := hr0.ext hE9
  replace hr1 := hr1.ext hE9
  replace hb2_0 := hE9.cell hb2_0
  replace hb2_1 := hE9.cell hb2_1
  replace hb2_2 := hE9.cell hb2_2
  replace hRS := hRS.ext hE9
  replace hXx0 := hXx0.ext hE9
  replace hXx1 := hXx1.ext hE9
  replace hRG := hRG.ext hE9
  replace hE := hE.trans hE9
  go_wp2_with fail
  refine (toSortS_any A0 c0 l0 _ _ _ (by omega) hr0).mono ?_
  rintro e w10 ⟨gy0, rfl, hXy0, hE10⟩
  have z10 := hE10.size
  replace hr0 := hr0.ext hE10
  replace hr1 := hr1.ext hE10
  replace hb2_0 := hE10.cell hb2_0
  replace hb2_1 := hE10.cell hb2_1
  replace hb2_2 := hE10.cell hb2_2
  replace hRS := hRS.ext hE10
  replace hXx0 := hXx0.ext hE10
  replace hXx1 := hXx1.ext hE10
  replace hRG := hRG.ext hE10
  replace hE := hE.trans hE10
  go_wp2_with fail
  refine (eqSortS_same _ _ _ _ l0 _ _ _ _ _ (by omega) hXx0 hXy0).mono ?_
  rintro e w11 ⟨rfl, hE11⟩
  have z11 := hE11.size
  replace hr0 := hr0.ext hE11
  replace hr1 := hr1.ext hE11
  replace hb2_0 := hE11.cell hb2_0
  replace hb2_1 := hE11.cell hb2_1
  replace hb2_2 := hE11.cell hb2_2
  replace hRS := hRS.ext hE11
  replace hXx0 := hXx0.ext hE11
  replace hXx1 := hXx1.ext hE11
  replace hRG := hRG.ext hE11
  replace hE := hE.trans hE11
  go_wp2_with fail
  refine (toStringS_any A1 c1 l1 _ _ _ (by omega) hr1).mono ?_
  rintro e w12 ⟨gy1, rfl, hXy1, hE12⟩
  have z12 := hE12.size
  replace hr0 := hr0.ext hE12
  replace hr1 := hr1.ext hE12
  replace hb2_0 := hE12.cell hb2_0
  replace hb2_1 := hE12.cell hb2_1
  replace hb2_2 := hE12.cell hb2_2
  replace hRS := hRS.ext hE12
  replace hXx0 := hXx0.ext hE12
  replace hXx1 := hXx1.ext hE12
  replace hRG := hRG.ext hE12
  replace hE := hE.trans hE12
  go_wp2_with fail
  refine (eqStringS_same _ _ _ _ l1 _ _ _ _ _ (by omega) hXx1 hXy1).mono ?_
  rintro e w13 ⟨rfl, hE13⟩
  have z13 := hE13.size
  replace hr0 := hr0.ext hE13
  replace hr1 := hr1.ext hE13
  replace hb2_0 := hE13.cell hb2_0
  replace hb2_1 := hE13.cell hb2_1
  replace hb2_2 := hE13.cell hb2_2
  replace hRS := hRS.ext hE13
  replace hXx0 := hXx0.ext hE13
  replace hXx1 := hXx1.ext hE13
  replace hRG := hRG.ext hE13
  replace hE := hE.trans hE13
  go_wp2_with fail
  refine (markSortS_any _ _ l0.length (l0.flatMap Srt.enc) _ _ _ _ (lenS l0) (by omega) (by omega) (by omega) hXx0).mono ?_
  rintro e w14 ⟨rfl, hMx0, hO14⟩
  have z14 := hO14.size
  replace hr0 := hr0.out hO14 (by omega)
  replace hr1 := hr1.out hO14 (by omega)
  replace hb2_0 := hO14.cell hb2_0 (by simp; omega)
  replace hb2_1 := hO14.cell hb2_1 (by simp; omega)
  replace hb2_2 := hO14.cell hb2_2 (by simp; omega)
  replace hRS := hRS.out hO14 (by omega)
  replace hXx1 := hXx1.out hO14 (by omega)
  replace hRG := hRG.out hO14 (by omega)
  replace hE := hO14.ext hE (by omega)
  go_wp2_with fail
  refine (markStringS_any _ _ l1 _ _ _ _ (by omega) (by omega) (by omega) hXx1).mono ?_
  rintro e w15 ⟨rfl, hMx1, hO15⟩
  have z15 := hO15.size
  replace hr0 := hr0.out hO15 (by omega)
  replace hr1 := hr1.out hO15 (by omega)
  replace hb2_0 := hO15.cell hb2_0 (by simp; omega)
  replace hb2_1 := hO15.cell hb2_1 (by simp; omega)
  replace hb2_2 := hO15.cell hb2_2 (by simp; omega)
  replace hRS := hRS.out hO15 (by omega)
  replace hRG := hRG.out hO15 (by omega)
  replace hE := hO15.ext hE (by omega)
  go_wp2_with fail
  refine (eqIntS_same _ _ _ _ (sfP l0 l1 x2 a3).1 _ _ _ _ _ (by omega) hRG hRS).mono ?_
  rintro e w16 ⟨rfl, hE16⟩
  have z16 := hE16.size
  replace hr0 := hr0.ext hE16
  replace hr1 := hr1.ext hE16
  replace hb2_0 := hE16.cell hb2_0
  replace hb2_1 := hE16.cell hb2_1
  replace hb2_2 := hE16.cell hb2_2
  replace hRS := hRS.ext hE16
  replace hRG := hRG.ext hE16
  replace hE := hE.trans hE16
  go_wp2_with fail
  refine (markIntS_any _ _ (sfP l0 l1 x2 a3).1 1 _ _ _ (by omega) (by omega) (by omega) hRG).mono ?_
  rintro e w17 ⟨rfl, hMG, hO17⟩
  have z17 := hO17.size
  replace hr0 := hr0.out hO17 (by omega)
  replace hr1 := hr1.out hO17 (by omega)
  replace hb2_0 := hO17.cell hb2_0 (by simp; omega)
  replace hb2_1 := hO17.cell hb2_1 (by simp; omega)
  replace hb2_2 := hO17.cell hb2_2 (by simp; omega)
  replace hRS := hRS.out hO17 (by omega)
  replace hE := hO17.ext hE (by omega)
  go_wp2_with fail
  refine (heldIntS_any _ _ _ 1 _ _ _ (by omega) (by omega) (by omega) hMG).mono ?_
  rintro e w' ⟨rfl, rfl⟩
  go_wp2_with fail
  have ehb2_0 : ∀ w', Ext w17 w' → w'.cell? _ = _ := fun _ h => h.cell hb2_0
  have ehb2_1 : ∀ w', Ext w17 w' → w'.cell? _ = _ := fun _ h => h.cell hb2_1
  have ehb2_2 : ∀ w', Ext w17 w' → w'.cell? _ = _ := fun _ h => h.cell hb2_2
  go_region_held3 (fun w' => Ext w17 w') (exact (by repeat (first | exact Ext.refl _ | assumption | refine Ext.trans ?_ (Ext.alloc _ _) | refine Ext.trans ?_ (Ext.drew _) | refine Ext.trans ?_ (Ext.drewN _ _) | refine Ext.trans ?_ (by assumption)))) (first | (go_at_call 17; with_reducible refine (toSortS_any A0 c0 l0 _ _ _ (by omega) (hr0.ext (by repeat (first | exact Ext.refl _ | assumption | refine Ext.trans ?_ (Ext.alloc _ _) | refine Ext.trans ?_ (Ext.drew _) | refine Ext.trans ?_ (Ext.drewN _ _) | refine Ext.trans ?_ (by assumption))))).mono ?_; rintro e w18 ⟨gt0, rfl, hXt0, hE18⟩) | (go_at_call 40; with_reducible refine (toStringS_any A1 c1 l1 _ _ _ (by omega) (hr1.ext (by repeat (first | exact Ext.refl _ | assumption | refine Ext.trans ?_ (Ext.alloc _ _) | refine Ext.trans ?_ (Ext.drew _) | refine Ext.trans ?_ (Ext.drewN _ _) | refine Ext.trans ?_ (by assumption))))).mono ?_; rintro e w19 ⟨gt1, rfl, hXt1, hE19⟩) | (go_at_call 46; refine (toRule_any x2 _).mono ?_; rintro e w20 ⟨rfl, hE20⟩) | (go_at_call 47; refine (impl_SpacesFor _ _ _ _ l0 l1 x2 a3 _ _ _ _ _ (by omega) hb0 (by omega) hb1 (hXt0.ext (by first | exact (hE19).trans hE20 | exact (by repeat (first | exact Ext.refl _ | assumption | refine Ext.trans ?_ (Ext.alloc _ _) | refine Ext.trans ?_ (Ext.drew _) | refine Ext.trans ?_ (Ext.drewN _ _) | refine Ext.trans ?_ (by assumption))))) (hXt1.ext (by first | exact hE20 | exact (by repeat (first | exact Ext.refl _ | assumption | refine Ext.trans ?_ (Ext.alloc _ _) | refine Ext.trans ?_ (Ext.drew _) | refine Ext.trans ?_ (Ext.drewN _ _) | refine Ext.trans ?_ (by assumption)))))).mono ?_; rintro e w21 ⟨AH, cH, rfl, hcH, hRH, hE21⟩))
  have y18 : Ext w17 w18 := (by repeat (first | exact Ext.refl _ | assumption | refine Ext.trans ?_ (Ext.alloc _ _) | refine Ext.trans ?_ (Ext.drew _) | refine Ext.trans ?_ (Ext.drewN _ _) | refine Ext.trans ?_ (by assumption)))
  have z18 := y18.size
  have y19 : Ext w18 w19 := (by repeat (first | exact Ext.refl _ | assumption | refine Ext.trans ?_ (Ext.alloc _ _) | refine Ext.trans ?_ (Ext.drew _) | refine Ext.trans ?_ (Ext.drewN _ _) | refine Ext.trans ?_ (by assumption)))
  have z19 := y19.size
  have y20 : Ext w19 w20 := (by repeat (first | exact Ext.refl _ | assumption | refine Ext.trans ?_ (Ext.alloc _ _) | refine Ext.trans ?_ (Ext.drew _) | refine Ext.trans ?_ (Ext.drewN _ _) | refine Ext.trans ?_ (by assumption)))
  have z20 := y20.size
  have y21 : Ext w20 w21 := (by repeat (first | exact Ext.refl _ | assumption | refine Ext.trans ?_ (Ext.alloc _ _) | refine Ext.trans ?_ (Ext.drew _) | refine Ext.trans ?_ (Ext.drewN _ _) | refine Ext.trans ?_ (by assumption)))
  have z21 := y21.size
  have y : Ext w17 w21 := (by repeat (first | exact Ext.refl _ | assumption | refine Ext.trans ?_ (Ext.alloc _ _) | refine Ext.trans ?_ (Ext.drew _) | refine Ext.trans ?_ (Ext.drewN _ _) | refine Ext.trans ?_ (by assumption)))
  clear ehb2_0
  clear ehb2_1
  clear ehb2_2
  replace hr0 := hr0.ext y
  replace hr1 := hr1.ext y
  replace hb2_0 := y.cell hb2_0
  replace hb2_1 := y.cell hb2_1
  replace hb2_2 := y.cell hb2_2
  replace hRS := hRS.ext y
  replace hMG := hMG.ext y
  replace hE := hE.trans y
  clear y
  go_wp2_with fail
  refine (eqIntS_same _ _ _ _ (sfP l0 l1 x2 a3).1 _ _ _ _ _ (by omega) hRH hRS).mono ?_
  rintro e w22 ⟨rfl, hE22⟩
  have z22 := hE22.size
  replace hr0 := hr0.ext hE22
  replace hr1 := hr1.ext hE22
  replace hb2_0 := hE22.cell hb2_0
  replace hb2_1 := hE22.cell hb2_1
  replace hb2_2 := hE22.cell hb2_2
  replace hRS := hRS.ext hE22
  replace hMG := hMG.ext hE22
  replace hRH := hRH.ext hE22
  replace hE := hE.trans hE22
  go_wp2_with fail
  refine (heldIntS_any _ _ _ 1 _ _ _ (by omega) (by omega) (by omega) hMG).mono ?_
  rintro e w' ⟨rfl, rfl⟩
  go_wp2_with fail
  go_ret
  exact ⟨rfl, hE⟩
theorem own : ownKnob Try.prog.godebug = none := by kernel_rfl
theorem laidOut : laidOutB Try.prog = true := by kernel_rfl
set_option maxRecDepth 100000 in
theorem lifted (os : Os) (started : os.Started) (H : Type) (enc : TypeId × Value → H) :
    ReturnsInHanded {} Try.checked os 10 .any (Rows.fnExactSpacesForSpec.pre6 enc Try.prog Try.f10 Rows.fnExactSpacesForRow.domain false) (Rows.fnExactSpacesForSpec.post enc Try.prog Try.f10 false true false false) := by
  refine returnsInHanded_of_change (C := Try.checked) own started (by kernel_rfl) Try.func10
    (ChangeSpec.witness6 (enc := enc) (C := Try.checked) false ⟨#[], #[.slice none 0 0, .slice none 0 0, .agg #[.int .i64 0, .int .i64 0, .int .i64 0], .int .i64 0], []⟩ 8 (by kernel_rfl) (by kernel_rfl) (by kernel_rfl) (by kernel_rfl)) ?_
  intro W base args ds gs before hval0 hW hcnd _
  have hval : ∀ (j : Nat) t v, Try.f10.params[j]? = some t → args[j]? = some v → Value.okWide Try.prog W .any base t v := hval0
  have hW' := hW
  obtain ⟨p, q, hA0, hV, rfl, hfz, hnd⟩ := hW
  have hA : DataW.TrodAll enc Try.prog W 0 (fun _ => true) true Try.f10.params.toList args.toList ds p := hA0
  rw [Try.params10] at hA hval
  obtain ⟨v0, vs0, d0, ds0, p0, q0, hargs, rfl, rfl, h0, r0⟩ := trodAll_cons hA
  obtain ⟨v1, vs1, d1, ds1, p1, q1, rfl, rfl, rfl, h1, r1⟩ := trodAll_cons r0
  obtain ⟨v2, vs2, d2, ds2, p2, q2, rfl, rfl, rfl, h2, r2⟩ := trodAll_cons r1
  obtain ⟨v3, vs3, d3, ds3, p3, q3, rfl, rfl, rfl, h3, r3⟩ := trodAll_cons r2
  obtain ⟨rfl, rfl, rfl⟩ := trodAll_nil r3
  obtain rfl : args = #[v0, v1, v2, v3] := by cases args; simp_all
  obtain ⟨rfl, rfl⟩ := trodVars_none hV
  have k0 := h0
  have lt0 : ∀ x ∈ p0, x.block < W.heap.size := by obtain ⟨m, hm⟩ := k0; exact DataW.trod_lt m _ _ _ hm
  obtain ⟨A0, len0, c0, rfl⟩ := okWide_slice Try.underlying22 (hval 0 22 v0 rfl rfl)
  obtain ⟨l0, rfl, hl0, hm0, hr0, hq0⟩ := open_flat Srt.enc 2 (fun _ => rfl) Try.underlying22 (by kernel_rfl) (fun m => m.code.size ≤ maxLen) (fun n cs y h => by obtain ⟨a, s, rfl, q⟩ := dec_s1 Try.underlying42 (by kernel_rfl) (by kernel_rfl) Try.underlying9 Try.underlying3 n cs y h; exact ⟨⟨a, s⟩, rfl, q⟩) h0
  have k1 := h1
  have lt1 : ∀ x ∈ p1, x.block < W.heap.size := by obtain ⟨m, hm⟩ := k1; exact DataW.trod_lt m _ _ _ hm
  obtain ⟨A1, len1, c1, rfl⟩ := okWide_slice Try.underlying24 (hval 1 24 v1 rfl rfl)
  obtain ⟨l1, rfl, hl1, hm1, hr1, hq1⟩ := open_strsQ Try.underlying24 Try.underlying9 (by kernel_rfl) h1
  have k2 := h2
  have lt2 : ∀ x ∈ p2, x.block < W.heap.size := by obtain ⟨m, hm⟩ := k2; exact DataW.trod_lt m _ _ _ hm
  obtain ⟨u2, u2b, u2c, y2, y2b, y2c, n2, rfl, rfl, rfl, g2, g2b, g2c⟩ := Joins.open_agg3 Try.underlying57 (by kernel_rfl) (by kernel_rfl) (hval 2 57 v2 rfl rfl) h2
  obtain ⟨x2, rfl, rfl, rfl⟩ : ∃ x : Rul, u2 = .int .i64 x.least ∧ u2b = .int .i64 x.normal ∧ u2c = .int .i64 x.most := by
    obtain ⟨a, ea, _⟩ := dec_int Try.underlying3 g2
    obtain ⟨b, eb, _⟩ := dec_int Try.underlying3 g2b
    obtain ⟨c, ec, _⟩ := dec_int Try.underlying3 g2c
    exact ⟨⟨a, b, c⟩, ea, eb, ec⟩
  have k3 := h3
  have lt3 : ∀ x ∈ p3, x.block < W.heap.size := by obtain ⟨m, hm⟩ := k3; exact DataW.trod_lt m _ _ _ hm
  obtain ⟨a3, rfl, rfl, rfl, w3⟩ := open_int Try.underlying3 (hval 3 3 v3 rfl rfl) h3
  clear hA0 hval0
  refine (walk A0 c0 l0 A1 c1 l1 x2 a3 W hl0 hm0 hr0 hq0 hl1 hm1 hr1 hq1  w3).mono fun e W' ⟨he, bel⟩ => ?_
  subst he
  exact ⟨_, rfl, _, _, _, [], _, [], hW', trodAll_mk1 (shut_bool Try.underlying4 _), (trodAll_cons_mk (Below.trod laidOut (by kernel_rfl) (of_decide_eq_true (by kernel_rfl)) k0 bel lt0) (trodAll_cons_mk (Below.trod laidOut (by kernel_rfl) (of_decide_eq_true (by kernel_rfl)) k1 bel lt1) (trodAll_cons_mk (Below.trod laidOut (by kernel_rfl) (of_decide_eq_true (by kernel_rfl)) k2 bel lt2) (trodAll_cons_mk (Below.trod laidOut (by kernel_rfl) (of_decide_eq_true (by kernel_rfl)) k3 bel lt3) trodAll_mk0)))), rfl, Below.frame bel _, fun h => by cases h⟩

theorem over : Rows.fnExactSpacesForRow.holds Try.pinned (OpenSpec.ofChange Rows.fnExactSpacesForSpec) :=
  OpenClaim.holds_of_wide 10 Try.f10 rfl rfl rfl rfl rfl rfl rfl ⟨rfl, rfl, rfl, rfl, rfl⟩ rfl rfl rfl rfl rfl (by kernel_rfl) Try.func10 (by kernel_rfl)
    (of_decide_eq_true (by kernel_rfl)) (by unfold Func.isWrapper; first | (rw [if_pos (by decide +kernel)]; kernel_rfl) | (rw [if_neg (by decide +kernel)]; exact ⟨rfl, rfl⟩))
    (fun os started H enc _ => lifted os started H enc)

theorem proved : Rows.FnExactSpacesForSaid := over
#print axioms proved

end Go.Proofs.Ytnkkpphjahpadaa.fnExactSpacesFor
