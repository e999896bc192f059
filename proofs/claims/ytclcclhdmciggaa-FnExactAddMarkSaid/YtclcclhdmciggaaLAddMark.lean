/- Proved here: for every input the law FnExactAddMark returns true and leaves its arguments as they were. No condition. -/
import Derived.Test.YtclcclhdmciggaaRows
import Derived.Test.YtclcclhdmciggaaOpen
import Derived.Deep.RegionHeld3
import Derived.Test.YtclcclhdmciggaaStrO
import Derived.Test.YtclcclhdmciggaaMksM
import Derived.Test.YtclcclhdmciggaaMkC
namespace Go.Proofs.Ytclcclhdmciggaa.fnExactAddMark
open Go.ChangeShapes Go.WideShapes Go.ChangeAt Go.RowKit Go.Deep
set_option linter.unusedVariables false

set_option maxHeartbeats 2000000 in
theorem walk (A0 : Option Addr) (c0 : Nat) (l0 : List ByteArray) (A1 : Option Addr) (c1 : Nat) (l1 : List Mrk) (x2 : Mrk) (w : World) (hl0 : l0.length ≤ c0) (hm0 : c0 ≤ maxLen) (hr0 : RdA w 0 w.heap.size A0 (l0.map Value.string)) (hq0 : ∀ s ∈ l0, s.size ≤ maxLen) (hl1 : l1.length ≤ c1) (hm1 : c1 ≤ maxLen) (hr1 : RdA w 0 w.heap.size A1 (l1.flatMap Mrk.enc)) (hq1 : ∀ m ∈ l1, m.text.size ≤ maxLen) (hx2 : x2.text.size ≤ maxLen) :
    Calls Try.prog 3 #[.slice A0 l0.length c0, .slice A1 l1.length c1, .agg #[.int .i64 x2.line, .int .i64 x2.place, .int .i64 x2.kind, .string x2.text]] w fun e w' => e = .returned (.bool true) ∧ Ext w w' := by
  unfold maxLen at hm0
  unfold maxLen at hm1
  by_cases hsz0 : bulkT l0 ≤ 1048576
  case neg =>
    go_enter Try.func3, Try.ntmps3
    have hE : Ext w w := Ext.refl _
    go_wp2_with fail
    have hEb2 := Ext.alloc w (.cells #[.int .i64 x2.line, .int .i64 x2.place, .int .i64 x2.kind, .string x2.text] 25)
    replace hr0 := hr0.ext hEb2
    replace hr1 := hr1.ext hEb2
    have hb2_0 := box_new (Ext.refl (World.alloc w (.cells #[.int .i64 x2.line, .int .i64 x2.place, .int .i64 x2.kind, .string x2.text] 25))) (j := 0) rfl
    have hb2_1 := box_new (Ext.refl (World.alloc w (.cells #[.int .i64 x2.line, .int .i64 x2.place, .int .i64 x2.kind, .string x2.text] 25))) (j := 1) rfl
    have hb2_2 := box_new (Ext.refl (World.alloc w (.cells #[.int .i64 x2.line, .int .i64 x2.place, .int .i64 x2.kind, .string x2.text] 25))) (j := 2) rfl
    have hb2_3 := box_new (Ext.refl (World.alloc w (.cells #[.int .i64 x2.line, .int .i64 x2.place, .int .i64 x2.kind, .string x2.text] 25))) (j := 3) rfl
    replace hE := hE.trans hEb2
    clear hEb2
    have zb2 : w.heap.size < (World.alloc w (.cells #[.int .i64 x2.line, .int .i64 x2.place, .int .i64 x2.kind, .string x2.text] 25)).heap.size := by simp
    generalize World.alloc w (.cells #[.int .i64 x2.line, .int .i64 x2.place, .int .i64 x2.kind, .string x2.text] 25) = wb at *
    refine (szStringS_any A0 c0 l0 _ _ _ _ (by omega) hq0 (by omega) (by omega) hr0).mono ?_
    rintro e w_ ⟨rfl, rfl⟩
    rw [szT_no (by omega)]
    go_wp2_with fail
    go_ret
    exact ⟨rfl, hE⟩
  by_cases hsz1 : bulkT l0 + bulkM l1 ≤ 1048576
  case neg =>
    go_enter Try.func3, Try.ntmps3
    have hE : Ext w w := Ext.refl _
    go_wp2_with fail
    have hEb2 := Ext.alloc w (.cells #[.int .i64 x2.line, .int .i64 x2.place, .int .i64 x2.kind, .string x2.text] 25)
    replace hr0 := hr0.ext hEb2
    replace hr1 := hr1.ext hEb2
    have hb2_0 := box_new (Ext.refl (World.alloc w (.cells #[.int .i64 x2.line, .int .i64 x2.place, .int .i64 x2.kind, .string x2.text] 25))) (j := 0) rfl
    have hb2_1 := box_new (Ext.refl (World.alloc w (.cells #[.int .i64 x2.line, .int .i64 x2.place, .int .i64 x2.kind, .string x2.text] 25))) (j := 1) rfl
    have hb2_2 := box_new (Ext.refl (World.alloc w (.cells #[.int .i64 x2.line, .int .i64 x2.place, .int .i64 x2.kind, .string x2.text] 25))) (j := 2) rfl
    have hb2_3 := box_new (Ext.refl (World.alloc w (.cells #[.int .i64 x2.line, .int .i64 x2.place, .int .i64 x2.kind, .string x2.text] 25))) (j := 3) rfl
    replace hE := hE.trans hEb2
    clear hEb2
    have zb2 : w.heap.size < (World.alloc w (.cells #[.int .i64 x2.line, .int .i64 x2.place, .int .i64 x2.kind, .string x2.text] 25)).heap.size := by simp
    generalize World.alloc w (.cells #[.int .i64 x2.line, .int .i64 x2.place, .int .i64 x2.kind, .string x2.text] 25) = wb at *
    refine (szStringS_any A0 c0 l0 _ _ _ _ (by omega) hq0 (by omega) (by omega) hr0).mono ?_
    rintro e w_ ⟨rfl, rfl⟩
    rw [szT_yes (by omega)]
    go_wp2_with fail
    refine (szMarkS_any A1 c1 l1 _ _ _ _ (by omega) hq1 (by omega) (by omega) hr1).mono ?_
    rintro e wS1 ⟨rfl, hES1⟩
    have zS1 := hES1.size
    replace hr0 := hr0.ext hES1
    replace hr1 := hr1.ext hES1
    replace hb2_0 := hES1.cell hb2_0
    replace hb2_1 := hES1.cell hb2_1
    replace hb2_2 := hES1.cell hb2_2
    replace hb2_3 := hES1.cell hb2_3
    replace hE := hE.trans hES1
    rw [szM_no (by omega)]
    go_wp2_with fail
    go_ret
    exact ⟨rfl, hE⟩
  by_cases hsz2 : bulkT l0 + bulkM l1 + x2.text.size ≤ 1048576
  case neg =>
    go_enter Try.func3, Try.ntmps3
    have hE : Ext w w := Ext.refl _
    go_wp2_with fail
    have hEb2 := Ext.alloc w (.cells #[.int .i64 x2.line, .int .i64 x2.place, .int .i64 x2.kind, .string x2.text] 25)
    replace hr0 := hr0.ext hEb2
    replace hr1 := hr1.ext hEb2
    have hb2_0 := box_new (Ext.refl (World.alloc w (.cells #[.int .i64 x2.line, .int .i64 x2.place, .int .i64 x2.kind, .string x2.text] 25))) (j := 0) rfl
    have hb2_1 := box_new (Ext.refl (World.alloc w (.cells #[.int .i64 x2.line, .int .i64 x2.place, .int .i64 x2.kind, .string x2.text] 25))) (j := 1) rfl
    have hb2_2 := box_new (Ext.refl (World.alloc w (.cells #[.int .i64 x2.line, .int .i64 x2.place, .int .i64 x2.kind, .string x2.text] 25))) (j := 2) rfl
    have hb2_3 := box_new (Ext.refl (World.alloc w (.cells #[.int .i64 x2.line, .int .i64 x2.place, .int .i64 x2.kind, .string x2.text] 25))) (j := 3) rfl
    replace hE := hE.trans hEb2
    clear hEb2
    have zb2 : w.heap.size < (World.alloc w (.cells #[.int .i64 x2.line, .int .i64 x2.place, .int .i64 x2.kind, .string x2.text] 25)).heap.size := by simp
    generalize World.alloc w (.cells #[.int .i64 x2.line, .int .i64 x2.place, .int .i64 x2.kind, .string x2.text] 25) = wb at *
    refine (szStringS_any A0 c0 l0 _ _ _ _ (by omega) hq0 (by omega) (by omega) hr0).mono ?_
    rintro e w_ ⟨rfl, rfl⟩
    rw [szT_yes (by omega)]
    go_wp2_with fail
    refine (szMarkS_any A1 c1 l1 _ _ _ _ (by omega) hq1 (by omega) (by omega) hr1).mono ?_
    rintro e wS1 ⟨rfl, hES1⟩
    have zS1 := hES1.size
    replace hr0 := hr0.ext hES1
    replace hr1 := hr1.ext hES1
    replace hb2_0 := hES1.cell hb2_0
    replace hb2_1 := hES1.cell hb2_1
    replace hb2_2 := hES1.cell hb2_2
    replace hb2_3 := hES1.cell hb2_3
    replace hE := hE.trans hES1
    rw [szM_yes (by omega)]
    go_wp2_with fail
    refine (szMark_no x2 _ _ (by omega) (by omega) hx2 (by omega)).mono ?_
    rintro e wS2 ⟨rfl, hES2⟩
    have zS2 := hES2.size
    replace hr0 := hr0.ext hES2
    replace hr1 := hr1.ext hES2
    replace hb2_0 := hES2.cell hb2_0
    replace hb2_1 := hES2.cell hb2_1
    replace hb2_2 := hES2.cell hb2_2
    replace hb2_3 := hES2.cell hb2_3
    replace hE := hE.trans hES2
    go_wp2_with fail
    go_ret
    exact ⟨rfl, hE⟩
  have hn0 : l0.length ≤ 1048576 := by unfold bulkT at hsz0; omega
  have hb0 : ∀ s ∈ l0, s.size ≤ 1048577 := fun s hs => by have := str_le hs; unfold bulkT at hsz0; omega
  have hn1 : l1.length ≤ 1048576 := by unfold bulkM at hsz1; omega
  have hb1 : ∀ m ∈ l1, m.text.size ≤ 1048577 := fun m hm => by have := mark_le hm; unfold bulkM at hsz1; omega
  have hlim : (amP l0 l1 x2).1.length ≤ 4000000 := amP_len _ _ _
  go_enter Try.func3, Try.ntmps3
  have hE : Ext w w := Ext.refl _
  go_wp2_with fail
  have hEb2 := Ext.alloc w (.cells #[.int .i64 x2.line, .int .i64 x2.place, .int .i64 x2.kind, .string x2.text] 25)
  replace hr0 := hr0.ext hEb2
  replace hr1 := hr1.ext hEb2
  have hb2_0 := box_new (Ext.refl (World.alloc w (.cells #[.int .i64 x2.line, .int .i64 x2.place, .int .i64 x2.kind, .string x2.text] 25))) (j := 0) rfl
  have hb2_1 := box_new (Ext.refl (World.alloc w (.cells #[.int .i64 x2.line, .int .i64 x2.place, .int .i64 x2.kind, .string x2.text] 25))) (j := 1) rfl
  have hb2_2 := box_new (Ext.refl (World.alloc w (.cells #[.int .i64 x2.line, .int .i64 x2.place, .int .i64 x2.kind, .string x2.text] 25))) (j := 2) rfl
  have hb2_3 := box_new (Ext.refl (World.alloc w (.cells #[.int .i64 x2.line, .int .i64 x2.place, .int .i64 x2.kind, .string x2.text] 25))) (j := 3) rfl
  replace hE := hE.trans hEb2
  clear hEb2
  have zb2 : w.heap.size < (World.alloc w (.cells #[.int .i64 x2.line, .int .i64 x2.place, .int .i64 x2.kind, .string x2.text] 25)).heap.size := by simp
  generalize World.alloc w (.cells #[.int .i64 x2.line, .int .i64 x2.place, .int .i64 x2.kind, .string x2.text] 25) = wb at *
  refine (szStringS_any A0 c0 l0 _ _ _ _ (by omega) hq0 (by omega) (by omega) hr0).mono ?_
  rintro e w_ ⟨rfl, rfl⟩
  rw [szT_yes (by omega)]
  go_wp2_with fail
  refine (szMarkS_any A1 c1 l1 _ _ _ _ (by omega) hq1 (by omega) (by omega) hr1).mono ?_
  rintro e wS1 ⟨rfl, hES1⟩
  have zS1 := hES1.size
  replace hr0 := hr0.ext hES1
  replace hr1 := hr1.ext hES1
  replace hb2_0 := hES1.cell hb2_0
  replace hb2_1 := hES1.cell hb2_1
  replace hb2_2 := hES1.cell hb2_2
  replace hb2_3 := hES1.cell hb2_3
  replace hE := hE.trans hES1
  rw [szM_yes (by omega)]
  go_wp2_with fail
  refine (szMark_yes x2 _ _ (by omega) (by omega) (by omega)).mono ?_
  rintro e wS2 ⟨rfl, hES2⟩
  have zS2 := hES2.size
  replace hr0 := hr0.ext hES2
  replace hr1 := hr1.ext hES2
  replace hb2_0 := hES2.cell hb2_0
  replace hb2_1 := hES2.cell hb2_1
  replace hb2_2 := hES2.cell hb2_2
  replace hb2_3 := hES2.cell hb2_3
  replace hE := hE.trans hES2
  go_wp2_with fail
  have ehb2_0 : ∀ w', Ext wS2 w' → w'.cell? _ = _ := fun _ h => h.cell hb2_0
  have ehb2_1 : ∀ w', Ext wS2 w' → w'.cell? _ = _ := fun _ h => h.cell hb2_1
  have ehb2_2 : ∀ w', Ext wS2 w' → w'.cell? _ = _ := fun _ h => h.cell hb2_2
  have ehb2_3 : ∀ w', Ext wS2 w' → w'.cell? _ = _ := fun _ h => h.cell hb2_3
  go_region_held3 (fun w' => Ext wS2 w') (exact (by repeat (first | exact Ext.refl _ | assumption | refine Ext.trans ?_ (Ext.alloc _ _) | refine Ext.trans ?_ (Ext.drew _) | refine Ext.trans ?_ (Ext.drewN _ _) | refine Ext.trans ?_ (by assumption)))) (first | (go_at_call 12; with_reducible refine (toStringS_any A0 c0 l0 _ _ _ (by omega) (hr0.ext (by repeat (first | exact Ext.refl _ | assumption | refine Ext.trans ?_ (Ext.alloc _ _) | refine Ext.trans ?_ (Ext.drew _) | refine Ext.trans ?_ (Ext.drewN _ _) | refine Ext.trans ?_ (by assumption))))).mono ?_; rintro e w1 ⟨gs0, rfl, hXs0, hE1⟩) | (go_at_call 13; with_reducible refine (toMarkS_any A1 c1 l1 _ _ _ (by omega) (hr1.ext (by repeat (first | exact Ext.refl _ | assumption | refine Ext.trans ?_ (Ext.alloc _ _) | refine Ext.trans ?_ (Ext.drew _) | refine Ext.trans ?_ (Ext.drewN _ _) | refine Ext.trans ?_ (by assumption))))).mono ?_; rintro e w2 ⟨gs1, rfl, hXs1, hE2⟩) | (go_at_call 14; refine (toMark_any x2 _).mono ?_; rintro e w3 ⟨rfl, hE3⟩) | (go_at_call 11; refine (spec_AddMark _ _ _ _ l0 l1 x2 _ _ _ _ _ (by omega) hb0 (by omega) hb1 (by omega) (by simp) (hXs0.ext (by first | exact (hE2).trans hE3 | exact (by repeat (first | exact Ext.refl _ | assumption | refine Ext.trans ?_ (Ext.alloc _ _) | refine Ext.trans ?_ (Ext.drew _) | refine Ext.trans ?_ (Ext.drewN _ _) | refine Ext.trans ?_ (by assumption))))) (hXs1.ext (by first | exact hE3 | exact (by repeat (first | exact Ext.refl _ | assumption | refine Ext.trans ?_ (Ext.alloc _ _) | refine Ext.trans ?_ (Ext.drew _) | refine Ext.trans ?_ (Ext.drewN _ _) | refine Ext.trans ?_ (by assumption)))))).mono ?_; rintro e w4 ⟨AS, cS, rfl, hcS, hRS, hE4⟩))
  have y1 : Ext wS2 w1 := (by repeat (first | exact Ext.refl _ | assumption | refine Ext.trans ?_ (Ext.alloc _ _) | refine Ext.trans ?_ (Ext.drew _) | refine Ext.trans ?_ (Ext.drewN _ _) | refine Ext.trans ?_ (by assumption)))
  have z1 := y1.size
  have y2 : Ext w1 w2 := (by repeat (first | exact Ext.refl _ | assumption | refine Ext.trans ?_ (Ext.alloc _ _) | refine Ext.trans ?_ (Ext.drew _) | refine Ext.trans ?_ (Ext.drewN _ _) | refine Ext.trans ?_ (by assumption)))
  have z2 := y2.size
  have y3 : Ext w2 w3 := (by repeat (first | exact Ext.refl _ | assumption | refine Ext.trans ?_ (Ext.alloc _ _) | refine Ext.trans ?_ (Ext.drew _) | refine Ext.trans ?_ (Ext.drewN _ _) | refine Ext.trans ?_ (by assumption)))
  have z3 := y3.size
  have y4 : Ext w3 w4 := (by repeat (first | exact Ext.refl _ | assumption | refine Ext.trans ?_ (Ext.alloc _ _) | refine Ext.trans ?_ (Ext.drew _) | refine Ext.trans ?_ (Ext.drewN _ _) | refine Ext.trans ?_ (by assumption)))
  have z4 := y4.size
  have y : Ext wS2 w4 := (by repeat (first | exact Ext.refl _ | assumption | refine Ext.trans ?_ (Ext.alloc _ _) | refine Ext.trans ?_ (Ext.drew _) | refine Ext.trans ?_ (Ext.drewN _ _) | refine Ext.trans ?_ (by assumption)))
  clear ehb2_0
  clear ehb2_1
  clear ehb2_2
  clear ehb2_3
  replace hr0 := hr0.ext y
  replace hr1 := hr1.ext y
  replace hb2_0 := y.cell hb2_0
  replace hb2_1 := y.cell hb2_1
  replace hb2_2 := y.cell hb2_2
  replace hb2_3 := y.cell hb2_3
  replace hE := hE.trans y
  clear y
  go_wp2_with fail
  refine (toStringS_any A0 c0 l0 _ _ _ (by omega) hr0).mono ?_
  rintro e w5 ⟨gx0, rfl, hXx0, hE5⟩
  have z5 := hE5.size
  replace hr0 := hr0.ext hE5
  replace hr1 := hr1.ext hE5
  replace hb2_0 := hE5.cell hb2_0
  replace hb2_1 := hE5.cell hb2_1
  replace hb2_2 := hE5.cell hb2_2
  replace hb2_3 := hE5.cell hb2_3
  replace hRS := hRS.ext hE5
  replace hE := hE.trans hE5
  go_wp2_with fail
  refine (toMarkS_any A1 c1 l1 _ _ _ (by omega) hr1).mono ?_
  rintro e w6 ⟨gx1, rfl, hXx1, hE6⟩
  have z6 := hE6.size
  replace hr0 := hr0.ext hE6
  replace hr1 := hr1.ext hE6
  replace hb2_0 := hE6.cell hb2_0
  replace hb2_1 := hE6.cell hb2_1
  replace hb2_2 := hE6.cell hb2_2
  replace hb2_3 := hE6.cell hb2_3
  replace hRS := hRS.ext hE6
  replace hXx0 := hXx0.ext hE6
  replace hE := hE.trans hE6
  go_wp2_with fail
  refine (toMark_any x2 _).mono ?_
  rintro e w7 ⟨rfl, hE7⟩
  have z7 := hE7.size
  replace hr0 := hr0.ext hE7
  replace hr1 := hr1.ext hE7
  replace hb2_0 := hE7.cell hb2_0
  replace hb2_1 := hE7.cell hb2_1
  replace hb2_2 := hE7.cell hb2_2
  replace hb2_3 := hE7.cell hb2_3
  replace hRS := hRS.ext hE7
  replace hXx0 := hXx0.ext hE7
  replace hXx1 := hXx1.ext hE7
  replace hE := hE.trans hE7
  go_wp2_with fail
  refine (impl_AddMark _ _ _ _ l0 l1 x2 _ _ _ _ _ (by omega) hb0 (by omega) hb1 (by omega) (by simp) hXx0 hXx1).mono ?_
  rintro e w8 ⟨AG, cG, rfl, hcG, hRG, hE8⟩
  have z8 := hE8.size
  replace hr0 := hr0.ext hE8
  replace hr1 := hr1.ext hE8
  replace hb2_0 := hE8.cell hb2_0
  replace hb2_1 := hE8.cell hb2_1
  replace hb2_2 := hE8.cell hb2_2
  replace hb2_3 := hE8.cell hb2_3
  replace hRS := hRS.ext hE8
  replace hXx0 := hXx0.ext hE8
  replace hXx1 := hXx1.ext hE8
  replace hE := hE.trans hE8
  go_wp2_with fail
  refine (eqMarkS_same _ _ _ _ (amP l0 l1 x2).1 _ _ _ _ _ (by omega) hRG hRS).mono ?_
  rintro e w9 ⟨rfl, hE9⟩
  have z9 := hE9.size
  replace hr0 := hr0.ext hE9
  replace hr1 := hr1.ext hE9
  replace hb2_0 := hE9.cell hb2_0
  replace hb2_1 := hE9.cell hb2_1
  replace hb2_2 := hE9.cell hb2_2
  replace hb2_3 := hE9.cell hb2_3
  replace hRS := hRS.ext hE9
  replace hXx0 := hXx0.ext hE9
  replace hXx1 := hXx1.ext hE9
  replace hRG := hRG.ext hE9
  replace hE := hE.trans hE9
  go_wp2_with fail
  refine (toStringS_any A0 c0 l0 _ _ _ (by omega) hr0).mono ?_
  rintro e w10 ⟨gy0, rfl, hXy0, hE10⟩
  have z10 := hE10.size
  replace hr0 := hr0.ext hE10
  replace hr1 := hr1.ext hE10
  replace hb2_0 := hE10.cell hb2_0
  replace hb2_1 := hE10.cell hb2_1
  replace hb2_2 := hE10.cell hb2_2
  replace hb2_3 := hE10.cell hb2_3
  replace hRS := hRS.ext hE10
  replace hXx0 := hXx0.ext hE10
  replace hXx1 := hXx1.ext hE10
  replace hRG := hRG.ext hE10
  replace hE := hE.trans hE10
  go_wp2_with fail
  refine (eqStringS_same _ _ _ _ l0 _ _ _ _ _ (by omega) hXx0 hXy0).mono ?_
  rintro e w11 ⟨rfl, hE11⟩
  have z11 := hE11.size
  replace hr0 := hr0.ext hE11
  replace hr1 := hr1.ext hE11
  replace hb2_0 := hE11.cell hb2_0
  replace hb2_1 := hE11.cell hb2_1
  replace hb2_2 := hE11.cell hb2_2
  replace hb2_3 := hE11.cell hb2_3
  replace hRS := hRS.ext hE11
  replace hXx0 := hXx0.ext hE11
  replace hXx1 := hXx1.ext hE11
  replace hRG := hRG.ext hE11
  replace hE := hE.trans hE11
  go_wp2_with fail
  refine (toMarkS_any A1 c1 l1 _ _ _ (by omega) hr1).mono ?_
  rintro e w12 ⟨gy1, rfl, hXy1, hE12⟩
  have z12 := hE12.size
  replace hr0 := hr0.ext hE12
  replace hr1 := hr1.ext hE12
  replace hb2_0 := hE12.cell hb2_0
  replace hb2_1 := hE12.cell hb2_1
  replace hb2_2 := hE12.cell hb2_2
  replace hb2_3 := hE12.cell hb2_3
  replace hRS := hRS.ext hE12
  replace hXx0 := hXx0.ext hE12
  replace hXx1 := hXx1.ext hE12
  replace hRG := hRG.ext hE12
  replace hE := hE.trans hE12
  go_wp2_with fail
  refine (eqMarkS_same _ _ _ _ l1 _ _ _ _ _ (by omega) hXx1 hXy1).mono ?_
  rintro e w13 ⟨rfl, hE13⟩
  have z13 := hE13.size
  replace hr0 := hr0.ext hE13
  replace hr1 := hr1.ext hE13
  replace hb2_0 := hE13.cell hb2_0
  replace hb2_1 := hE13.cell hb2_1
  replace hb2_2 := hE13.cell hb2_2
  replace hb2_3 := hE13.cell hb2_3
  replace hRS := hRS.ext hE13
  replace hXx0 := hXx0.ext hE13
  replace hXx1 := hXx1.ext hE13
  replace hRG := hRG.ext hE13
  replace hE := hE.trans hE13
  go_wp2_with fail
  refine (markStringS_any _ _ l0 _ _ _ _ (by omega) (by omega) (by omega) hXx0).mono ?_
  rintro e w14 ⟨rfl, hMx0, hO14⟩
  have z14 := hO14.size
  replace hr0 := hr0.out hO14 (by omega)
  replace hr1 := hr1.out hO14 (by omega)
  replace hb2_0 := hO14.cell hb2_0 (by simp; omega)
  replace hb2_1 := hO14.cell hb2_1 (by simp; omega)
  replace hb2_2 := hO14.cell hb2_2 (by simp; omega)
  replace hb2_3 := hO14.cell hb2_3 (by simp; omega)
  replace hRS := hRS.out hO14 (by omega)
  replace hXx1 := hXx1.out hO14 (by omega)
  replace hRG := hRG.out hO14 (by omega)
  replace hE := hO14.ext hE (by omega)
  go_wp2_with fail
  refine (markMarkS_any _ _ l1.length (l1.flatMap Mrk.enc) _ _ _ _ (lenM l1) (by omega) (by omega) (by omega) hXx1).mono ?_
  rintro e w15 ⟨rfl, hMx1, hO15⟩
  have z15 := hO15.size
  replace hr0 := hr0.out hO15 (by omega)
  replace hr1 := hr1.out hO15 (by omega)
  replace hb2_0 := hO15.cell hb2_0 (by simp; omega)
  replace hb2_1 := hO15.cell hb2_1 (by simp; omega)
  replace hb2_2 := hO15.cell hb2_2 (by simp; omega)
  replace hb2_3 := hO15.cell hb2_3 (by simp; omega)
  replace hRS := hRS.out hO15 (by omega)
  replace hRG := hRG.out hO15 (by omega)
  replace hE := hO15.ext hE (by omega)
  go_wp2_with fail
  refine (eqMarkS_same _ _ _ _ (amP l0 l1 x2).1 _ _ _ _ _ (by omega) hRG hRS).mono ?_
  rintro e w16 ⟨rfl, hE16⟩
  have z16 := hE16.size
  replace hr0 := hr0.ext hE16
  replace hr1 := hr1.ext hE16
  replace hb2_0 := hE16.cell hb2_0
  replace hb2_1 := hE16.cell hb2_1
  replace hb2_2 := hE16.cell hb2_2
  replace hb2_3 := hE16.cell hb2_3
  replace hRS := hRS.ext hE16
  replace hRG := hRG.ext hE16
  replace hE := hE.trans hE16
  go_wp2_with fail
  refine (markMarkS_any _ _ _ ((amP l0 l1 x2).1.flatMap Mrk.enc) 1 _ _ _ (lenM (amP l0 l1 x2).1) (by omega) (by omega) (by omega) hRG).mono ?_
  rintro e w17 ⟨rfl, hMG, hO17⟩
  have z17 := hO17.size
  replace hr0 := hr0.out hO17 (by omega)
  replace hr1 := hr1.out hO17 (by omega)
  replace hb2_0 := hO17.cell hb2_0 (by simp; omega)
  replace hb2_1 := hO17.cell hb2_1 (by simp; omega)
  replace hb2_2 := hO17.cell hb2_2 (by simp; omega)
  replace hb2_3 := hO17.cell hb2_3 (by simp; omega)
  replace hRS := hRS.out hO17 (by omega)
  replace hE := hO17.ext hE (by omega)
  go_wp2_with fail
  refine (heldMarkS_any _ _ _ 1 _ _ _ (by omega) (by omega) (by omega) hMG).mono ?_
  rintro e w18 ⟨rfl, hE18⟩
  have z18 := hE18.size
  replace hr0 := hr0.ext hE18
  replace hr1 := hr1.ext hE18
  replace hb2_0 := hE18.cell hb2_0
  replace hb2_1 := hE18.cell hb2_1
  replace hb2_2 := hE18.cell hb2_2
  replace hb2_3 := hE18.cell hb2_3
  replace hRS := hRS.ext hE18
  replace hMG := hMG.ext hE18
  replace hE := hE.trans hE18
  go_wp2_with fail
  have ehb2_0 : ∀ w', Ext w18 w' → w'.cell? _ = _ := fun _ h => h.cell hb2_0
  have ehb2_1 : ∀ w', Ext w18 w' → w'.cell? _ = _ := fun _ h => h.cell hb2_1
  have ehb2_2 : ∀ w', Ext w18 w' → w'.cell? _ = _ := fun _ h => h.cell hb2_2
  have ehb2_3 : ∀ w', Ext w18 w' → w'.cell? _ = _ := fun _ h => h.cell hb2_3
  go_region_held3 (fun w' => Ext w18 w') (exact (by repeat (first | exact Ext.refl _ | assumption | refine Ext.trans ?_ (Ext.alloc _ _) | refine Ext.trans ?_ (Ext.drew _) | refine Ext.trans ?_ (Ext.drewN _ _) | refine Ext.trans ?_ (by assumption)))) (first | (go_at_call 12; with_reducible refine (toStringS_any A0 c0 l0 _ _ _ (by omega) (hr0.ext (by repeat (first | exact Ext.refl _ | assumption | refine Ext.trans ?_ (Ext.alloc _ _) | refine Ext.trans ?_ (Ext.drew _) | refine Ext.trans ?_ (Ext.drewN _ _) | refine Ext.trans ?_ (by assumption))))).mono ?_; rintro e w19 ⟨gt0, rfl, hXt0, hE19⟩) | (go_at_call 13; with_reducible refine (toMarkS_any A1 c1 l1 _ _ _ (by omega) (hr1.ext (by repeat (first | exact Ext.refl _ | assumption | refine Ext.trans ?_ (Ext.alloc _ _) | refine Ext.trans ?_ (Ext.drew _) | refine Ext.trans ?_ (Ext.drewN _ _) | refine Ext.trans ?_ (by assumption))))).mono ?_; rintro e w20 ⟨gt1, rfl, hXt1, hE20⟩) | (go_at_call 14; refine (toMark_any x2 _).mono ?_; rintro e w21 ⟨rfl, hE21⟩) | (go_at_call 15; refine (impl_AddMark _ _ _ _ l0 l1 x2 _ _ _ _ _ (by omega) hb0 (by omega) hb1 (by omega) (by simp) (hXt0.ext (by first | exact (hE20).trans hE21 | exact (by repeat (first | exact Ext.refl _ | assumption | refine Ext.trans ?_ (Ext.alloc _ _) | refine Ext.trans ?_ (Ext.drew _) | refine Ext.trans ?_ (Ext.drewN _ _) | refine Ext.trans ?_ (by assumption))))) (hXt1.ext (by first | exact hE21 | exact (by repeat (first | exact Ext.refl _ | assumption | refine Ext.trans ?_ (Ext.alloc _ _) | refine Ext.trans ?_ (Ext.drew _) | refine Ext.trans ?_ (Ext.drewN _ _) | refine Ext.trans ?_ (by assumption)))))).mono ?_; rintro e w22 ⟨AH, cH, rfl, hcH, hRH, hE22⟩))
  have y19 : Ext w18 w19 := (by repeat (first | exact Ext.refl _ | assumption | refine Ext.trans ?_ (Ext.alloc _ _) | refine Ext.trans ?_ (Ext.drew _) | refine Ext.trans ?_ (Ext.drewN _ _) | refine Ext.trans ?_ (by assumption)))
  have z19 := y19.size
  have y20 : Ext w19 w20 := (by repeat (first | exact Ext.refl _ | assumption | refine Ext.trans ?_ (Ext.alloc _ _) | refine Ext.trans ?_ (Ext.drew _) | refine Ext.trans ?_ (Ext.drewN _ _) | refine Ext.trans ?_ (by assumption)))
  have z20 := y20.size
  have y21 : Ext w20 w21 := (by repeat (first | exact Ext.refl _ | assumption | refine Ext.trans ?_ (Ext.alloc _ _) | refine Ext.trans ?_ (Ext.drew _) | refine Ext.trans ?_ (Ext.drewN _ _) | refine Ext.trans ?_ (by assumption)))
  have z21 := y21.size
  have y22 : Ext w21 w22 := (by repeat (first | exact Ext.refl _ | assumption | refine Ext.trans ?_ (Ext.alloc _ _) | refine Ext.trans ?_ (Ext.drew _) | refine Ext.trans ?_ (Ext.drewN _ _) | refine Ext.trans ?_ (by assumption)))
  have z22 := y22.size
  have y : Ext w18 w22 := (by repeat (first | exact Ext.refl _ | assumption | refine Ext.trans ?_ (Ext.alloc _ _) | refine Ext.trans ?_ (Ext.drew _) | refine Ext.trans ?_ (Ext.drewN _ _) | refine Ext.trans ?_ (by assumption)))
  clear ehb2_0
  clear ehb2_1
  clear ehb2_2
  clear ehb2_3
  replace hr0 := hr0.ext y
  replace hr1 := hr1.ext y
  replace hb2_0 := y.cell hb2_0
  replace hb2_1 := y.cell hb2_1
  replace hb2_2 := y.cell hb2_2
  replace hb2_3 := y.cell hb2_3
  replace hRS := hRS.ext y
  replace hMG := hMG.ext y
  replace hE := hE.trans y
  clear y
  go_wp2_with fail
  refine (eqMarkS_same _ _ _ _ (amP l0 l1 x2).1 _ _ _ _ _ (by omega) hRH hRS).mono ?_
  rintro e w23 ⟨rfl, hE23⟩
  have z23 := hE23.size
  replace hr0 := hr0.ext hE23
  replace hr1 := hr1.ext hE23
  replace hb2_0 := hE23.cell hb2_0
  replace hb2_1 := hE23.cell hb2_1
  replace hb2_2 := hE23.cell hb2_2
  replace hb2_3 := hE23.cell hb2_3
  replace hRS := hRS.ext hE23
  replace hMG := hMG.ext hE23
  replace hRH := hRH.ext hE23
  replace hE := hE.trans hE23
  go_wp2_with fail
  refine (heldMarkS_any _ _ _ 1 _ _ _ (by omega) (by omega) (by omega) hMG).mono ?_
  rintro e w24 ⟨rfl, hE24⟩
  have z24 := hE24.size
  replace hr0 := hr0.ext hE24
  replace hr1 := hr1.ext hE24
  replace hb2_0 := hE24.cell hb2_0
  replace hb2_1 := hE24.cell hb2_1
  replace hb2_2 := hE24.cell hb2_2
  replace hb2_3 := hE24.cell hb2_3
  replace hRS := hRS.ext hE24
  replace hMG := hMG.ext hE24
  replace hRH := hRH.ext hE24
  replace hE := hE.trans hE24
  go_wp2_with fail
  go_ret
  exact ⟨rfl, hE⟩
theorem own : ownKnob Try.prog.godebug = none := by kernel_rfl
theorem laidOut : laidOutB Try.prog = true := by kernel_rfl
set_option maxRecDepth 100000 in
theorem lifted (os : Os) (started : os.Started) (H : Type) (enc : TypeId × Value → H) :
    ReturnsInHanded {} Try.checked os 3 .any (Rows.fnExactAddMarkSpec.pre6 enc Try.prog Try.f3 Rows.fnExactAddMarkRow.domain false) (Rows.fnExactAddMarkSpec.post enc Try.prog Try.f3 false true false false) := by
  refine returnsInHanded_of_change (C := Try.checked) own started (by kernel_rfl) Try.func3
    (ChangeSpec.witness6 (enc := enc) (C := Try.checked) false ⟨#[], #[.slice none 0 0, .slice none 0 0, .agg #[.int .i64 0, .int .i64 0, .int .i64 0, .string ByteArray.empty]], []⟩ 8 (by kernel_rfl) (by kernel_rfl) (by kernel_rfl) (by kernel_rfl)) ?_
  intro W base args ds gs before hval0 hW hcnd _
  have hval : ∀ (j : Nat) t v, Try.f3.params[j]? = some t → args[j]? = some v → Value.okWide Try.prog W .any base t v := hval0
  have hW' := hW
  obtain ⟨p, q, hA0, hV, rfl, hfz, hnd⟩ := hW
  have hA : DataW.TrodAll enc Try.prog W 0 (fun _ => true) true Try.f3.params.toList args.toList ds p := hA0
  rw [Try.params3] at hA hval
  obtain ⟨v0, vs0, d0, ds0, p0, q0, hargs, rfl, rfl, h0, r0⟩ := trodAll_cons hA
  obtain ⟨v1, vs1, d1, ds1, p1, q1, rfl, rfl, rfl, h1, r1⟩ := trodAll_cons r0
  obtain ⟨v2, vs2, d2, ds2, p2, q2, rfl, rfl, rfl, h2, r2⟩ := trodAll_cons r1
  obtain ⟨rfl, rfl, rfl⟩ := trodAll_nil r2
  obtain rfl : args = #[v0, v1, v2] := by cases args; simp_all
  obtain ⟨rfl, rfl⟩ := trodVars_none hV
  have k0 := h0
  have lt0 : ∀ x ∈ p0, x.block < W.heap.size := by obtain ⟨m, hm⟩ := k0; exact DataW.trod_lt m _ _ _ hm
  obtain ⟨A0, len0, c0, rfl⟩ := okWide_slice Try.underlying22 (hval 0 22 v0 rfl rfl)
  obtain ⟨l0, rfl, hl0, hm0, hr0, hq0⟩ := open_strsQ Try.underlying22 Try.underlying9 (by kernel_rfl) h0
  have k1 := h1
  have lt1 : ∀ x ∈ p1, x.block < W.heap.size := by obtain ⟨m, hm⟩ := k1; exact DataW.trod_lt m _ _ _ hm
  obtain ⟨A1, len1, c1, rfl⟩ := okWide_slice Try.underlying23 (hval 1 23 v1 rfl rfl)
  obtain ⟨l1, rfl, hl1, hm1, hr1, hq1⟩ := open_flat Mrk.enc 4 (fun _ => rfl) Try.underlying23 (by kernel_rfl) (fun m => m.text.size ≤ maxLen) (fun n cs y h => by obtain ⟨a, b, c, s, rfl, q⟩ := dec_int3s Try.underlying25 (by kernel_rfl) (by kernel_rfl) Try.underlying3 Try.underlying3 Try.underlying3 Try.underlying9 n cs y h; exact ⟨⟨a, b, c, s⟩, rfl, q⟩) h1
  have k2 := h2
  have lt2 : ∀ x ∈ p2, x.block < W.heap.size := by obtain ⟨m, hm⟩ := k2; exact DataW.trod_lt m _ _ _ hm
  obtain ⟨u2, u2b, u2c, u2d, y2, y2b, y2c, y2d, n2, rfl, rfl, rfl, g2, g2b, g2c, g2d⟩ := Joins.open_agg4 Try.underlying25 (by kernel_rfl) (by kernel_rfl) (hval 2 25 v2 rfl rfl) h2
  obtain ⟨x2, rfl, rfl, rfl, rfl, hx2⟩ : ∃ x : Mrk, u2 = .int .i64 x.line ∧ u2b = .int .i64 x.place ∧ u2c = .int .i64 x.kind ∧ u2d = .string x.text ∧ x.text.size ≤ maxLen := by
    obtain ⟨a, ea, _⟩ := dec_int Try.underlying3 g2
    obtain ⟨b, eb, _⟩ := dec_int Try.underlying3 g2b
    obtain ⟨c, ec, _⟩ := dec_int Try.underlying3 g2c
    obtain ⟨d, ed, hd⟩ := dec_string Try.underlying9 g2d
    exact ⟨⟨a, b, c, d⟩, ea, eb, ec, ed, hd⟩
  clear hA0 hval0
  refine (walk A0 c0 l0 A1 c1 l1 x2 W hl0 hm0 hr0 hq0 hl1 hm1 hr1 hq1 hx2).mono fun e W' ⟨he, bel⟩ => ?_
  subst he
  exact ⟨_, rfl, _, _, _, [], _, [], hW', trodAll_mk1 (shut_bool Try.underlying4 _), (trodAll_cons_mk (Below.trod laidOut (by kernel_rfl) (of_decide_eq_true (by kernel_rfl)) k0 bel lt0) (trodAll_cons_mk (Below.trod laidOut (by kernel_rfl) (of_decide_eq_true (by kernel_rfl)) k1 bel lt1) (trodAll_cons_mk (Below.trod laidOut (by kernel_rfl) (of_decide_eq_true (by kernel_rfl)) k2 bel lt2) trodAll_mk0))), rfl, Below.frame bel _, fun h => by cases h⟩

theorem over : Rows.fnExactAddMarkRow.holds Try.pinned (OpenSpec.ofChange Rows.fnExactAddMarkSpec) :=
  OpenClaim.holds_of_wide 3 Try.f3 rfl rfl rfl rfl rfl rfl rfl ⟨rfl, rfl, rfl, rfl, rfl⟩ rfl rfl rfl rfl rfl (by kernel_rfl) Try.func3 (by kernel_rfl)
    (of_decide_eq_true (by kernel_rfl)) (by unfold Func.isWrapper; first | (rw [if_pos (by decide +kernel)]; kernel_rfl) | (rw [if_neg (by decide +kernel)]; exact ⟨rfl, rfl⟩))
    (fun os started H enc _ => lifted os started H enc)

theorem proved : Rows.FnExactAddMarkSaid := over
#print axioms proved

end Go.Proofs.Ytclcclhdmciggaa.fnExactAddMark
