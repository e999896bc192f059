/- Proved here: for every input the law FnExactLeastRecast returns true and leaves its arguments as they were. No condition. -/
import Derived.Test.YtnkkpphjahpadaaRows
import Derived.Test.YtnkkpphjahpadaaOpen
import Derived.Deep.RegionHeld3
import Derived.Test.YtnkkpphjahpadaaStrO
import Derived.Test.YtnkkpphjahpadaaMksS
import Derived.Test.YtnkkpphjahpadaaMarkT
import Derived.Test.YtnkkpphjahpadaaFoH
namespace Go.Proofs.Ytnkkpphjahpadaa.fnExactLeastRecast
open Go.ChangeShapes Go.WideShapes Go.ChangeAt Go.RowKit Go.Deep
set_option linter.unusedVariables false

theorem walk (A0 : Option Addr) (c0 : Nat) (l0 : List Srt) (A1 : Option Addr) (c1 : Nat) (l1 : List Int) (A2 : Option Addr) (c2 : Nat) (l2 : List ByteArray) (a3 : Int) (w : World) (hl0 : l0.length ≤ c0) (hm0 : c0 ≤ maxLen) (hr0 : RdA w 0 w.heap.size A0 (l0.flatMap Srt.enc)) (hq0 : ∀ m ∈ l0, m.code.size ≤ maxLen) (hl1 : l1.length ≤ c1) (hm1 : c1 ≤ maxLen) (hr1 : RdA w 0 w.heap.size A1 (l1.map (Value.int .i64))) (hq1 : ∀ x ∈ l1, InR x) (hl2 : l2.length ≤ c2) (hm2 : c2 ≤ maxLen) (hr2 : RdA w 0 w.heap.size A2 (l2.map Value.string)) (hq2 : ∀ s ∈ l2, s.size ≤ maxLen) (w3 : (Lit.int .i64 a3).wf = true) :
    Calls Try.prog 9 #[.slice A0 l0.length c0, .slice A1 l1.length c1, .slice A2 l2.length c2, .int .i64 a3] w fun e w' => e = .returned (.bool true) ∧ Ext w w' := by
  unfold maxLen at hm0
  unfold maxLen at hm1
  unfold maxLen at hm2
  by_cases hsz1 : l1.length ≤ 1048576
  case neg =>
    go_enter Try.func9, Try.ntmps9
    go_wp2_with fail
    go_ret
    exact ⟨rfl, (by repeat (first | exact Ext.refl _ | assumption | refine Ext.trans ?_ (Ext.alloc _ _) | refine Ext.trans ?_ (Ext.drew _) | refine Ext.trans ?_ (Ext.drewN _ _) | refine Ext.trans ?_ (by assumption)))⟩
  by_cases hsz0 : bulkS l0 ≤ 1048576
  case neg =>
    go_enter Try.func9, Try.ntmps9
    go_wp2_with fail
    refine (szSortS_any A0 c0 l0 _ _ _ _ (by omega) hq0 (by omega) (by omega) hr0).mono ?_
    rintro e wS0 ⟨rfl, hES0⟩
    rw [szS_no (by omega)]
    go_wp2_with fail
    go_ret
    exact ⟨rfl, (by repeat (first | exact Ext.refl _ | assumption | refine Ext.trans ?_ (Ext.alloc _ _) | refine Ext.trans ?_ (Ext.drew _) | refine Ext.trans ?_ (Ext.drewN _ _) | refine Ext.trans ?_ (by assumption)))⟩
  by_cases hsz2 : bulkS l0 + bulkT l2 ≤ 1048576
  case neg =>
    go_enter Try.func9, Try.ntmps9
    go_wp2_with fail
    refine (szSortS_any A0 c0 l0 _ _ _ _ (by omega) hq0 (by omega) (by omega) hr0).mono ?_
    rintro e wS0 ⟨rfl, hES0⟩
    rw [szS_yes (by omega)]
    go_wp2_with fail
    refine (szStringS_any A2 c2 l2 _ _ _ _ (by omega) hq2 (by omega) (by omega) (hr2.ext (by repeat (first | exact Ext.refl _ | assumption | refine Ext.trans ?_ (Ext.alloc _ _) | refine Ext.trans ?_ (Ext.drew _) | refine Ext.trans ?_ (Ext.drewN _ _) | refine Ext.trans ?_ (by assumption))))).mono ?_
    rintro e w_ ⟨rfl, rfl⟩
    rw [szT_no (by omega)]
    go_wp2_with fail
    go_ret
    exact ⟨rfl, (by repeat (first | exact Ext.refl _ | assumption | refine Ext.trans ?_ (Ext.alloc _ _) | refine Ext.trans ?_ (Ext.drew _) | refine Ext.trans ?_ (Ext.drewN _ _) | refine Ext.trans ?_ (by assumption)))⟩
  have hn0 : l0.length ≤ 1048576 := by unfold bulkS at hsz0; omega
  have hb0 : ∀ m ∈ l0, m.code.size ≤ 1048577 := fun m hm => by have := recS_le hm; unfold bulkS at hsz0; omega
  have hn2 : l2.length ≤ 1048576 := by unfold bulkT at hsz2; omega
  have hb2 : ∀ s ∈ l2, s.size ≤ 1048577 := fun s hs => by have := str_le hs; unfold bulkT at hsz2; omega
  have hlim : (lrP l0 l1 l2 a3).1.length ≤ 4000000 := lrP_len _ _ _ _
  go_enter Try.func9, Try.ntmps9
  have hE : Ext w w := Ext.refl _
  go_wp2_with fail
  refine (szSortS_any A0 c0 l0 _ _ _ _ (by omega) hq0 (by omega) (by omega) hr0).mono ?_
  rintro e wS0 ⟨rfl, hES0⟩
  rw [szS_yes (by omega)]
  go_wp2_with fail
  refine (szStringS_any A2 c2 l2 _ _ _ _ (by omega) hq2 (by omega) (by omega) (hr2.ext (by repeat (first | exact Ext.refl _ | assumption | refine Ext.trans ?_ (Ext.alloc _ _) | refine Ext.trans ?_ (Ext.drew _) | refine Ext.trans ?_ (Ext.drewN _ _) | refine Ext.trans ?_ (by assumption))))).mono ?_
  rintro e w_ ⟨rfl, rfl⟩
  rw [szT_yes (by omega)]
  go_wp2_with fail
  have hES : Ext w wS0 := (by repeat (first | exact Ext.refl _ | assumption | refine Ext.trans ?_ (Ext.alloc _ _) | refine Ext.trans ?_ (Ext.drew _) | refine Ext.trans ?_ (Ext.drewN _ _) | refine Ext.trans ?_ (by assumption)))
  have zS := hES.size
  replace hr0 := hr0.ext hES
  replace hr1 := hr1.ext hES
  replace hr2 := hr2.ext hES
  replace hE := hES
  clear hES
  refine (toSortS_any A0 c0 l0 _ _ _ (by omega) hr0).mono ?_
  rintro e w1 ⟨gs0, rfl, hXs0, hE1⟩
  have z1 := hE1.size
  replace hr0 := hr0.ext hE1
  replace hr1 := hr1.ext hE1
  replace hr2 := hr2.ext hE1
  replace hE := hE.trans hE1
  go_wp2_with fail
  refine (toIntS_any A1 c1 l1 _ _ _ (by omega) hr1).mono ?_
  rintro e w2 ⟨gs1, rfl, hXs1, hE2⟩
  have z2 := hE2.size
  replace hr0 := hr0.ext hE2
  replace hr1 := hr1.ext hE2
  replace hr2 := hr2.ext hE2
  replace hXs0 := hXs0.ext hE2
  replace hE := hE.trans hE2
  go_wp2_with fail
  refine (toStringS_any A2 c2 l2 _ _ _ (by omega) hr2).mono ?_
  rintro e w3 ⟨gs2, rfl, hXs2, hE3⟩
  have z3 := hE3.size
  replace hr0 := hr0.ext hE3
  replace hr1 := hr1.ext hE3
  replace hr2 := hr2.ext hE3
  replace hXs0 := hXs0.ext hE3
  replace hXs1 := hXs1.ext hE3
  replace hE := hE.trans hE3
  go_wp2_with fail
  refine (spec_LeastRecast _ _ _ _ _ _ l0 l1 l2 a3 _ _ _ _ _ _ _ (by omega) hb0 (by omega) (by omega) hb2 hXs0 hXs1 hXs2).mono ?_
  rintro e w4 ⟨AS, cS, rfl, hcS, hRS, hE4⟩
  have z4 := hE4.size
  replace hr0 := hr0.ext hE4
  replace hr1 := hr1.ext hE4
  replace hr2 := hr2.ext hE4
  replace hXs0 := hXs0.ext hE4
  replace hXs1 := hXs1.ext hE4
  replace hXs2 := hXs2.ext hE4
  replace hE := hE.trans hE4
  go_wp2_with fail
  refine (toSortS_any A0 c0 l0 _ _ _ (by omega) hr0).mono ?_
  rintro e w5 ⟨gx0, rfl, hXx0, hE5⟩
  have z5 := hE5.size
  replace hr0 := hr0.ext hE5
  replace hr1 := hr1.ext hE5
  replace hr2 := hr2.ext hE5
  replace hRS := hRS.ext hE5
  replace hE := hE.trans hE5
  go_wp2_with fail
  refine (toIntS_any A1 c1 l1 _ _ _ (by omega) hr1).mono ?_
  rintro e w6 ⟨gx1, rfl, hXx1, hE6⟩
  have z6 := hE6.size
  replace hr0 := hr0.ext hE6
  replace hr1 := hr1.ext hE6
  replace hr2 := hr2.ext hE6
  replace hRS := hRS.ext hE6
  replace hXx0 := hXx0.ext hE6
  replace hE := hE.trans hE6
  go_wp2_with fail
  refine (toStringS_any A2 c2 l2 _ _ _ (by omega) hr2).mono ?_
  rintro e w7 ⟨gx2, rfl, hXx2, hE7⟩
  have z7 := hE7.size
  replace hr0 := hr0.ext hE7
  replace hr1 := hr1.ext hE7
  replace hr2 := hr2.ext hE7
  replace hRS := hRS.ext hE7
  replace hXx0 := hXx0.ext hE7
  replace hXx1 := hXx1.ext hE7
  replace hE := hE.trans hE7
  go_wp2_with fail
  refine (impl_LeastRecast _ _ _ _ _ _ l0 l1 l2 a3 _ _ _ _ _ _ _ (by omega) hb0 (by omega) (by omega) hb2 hXx0 hXx1 hXx2).mono ?_
  rintro e w8 ⟨AG, cG, rfl, hcG, hRG, hE8⟩
  have z8 := hE8.size
  replace hr0 := hr0.ext hE8
  replace hr1 := hr1.ext hE8
  replace hr2 := hr2.ext hE8
  replace hRS := hRS.ext hE8
  replace hXx0 := hXx0.ext hE8
  replace hXx1 := hXx1.ext hE8
  replace hXx2 := hXx2.ext hE8
  replace hE := hE.trans hE8
  go_wp2_with fail
  refine (eqIntS_same _ _ _ _ (lrP l0 l1 l2 a3).1 _ _ _ _ _ (by omega) hRG hRS).mono ?_
  rintro e w9 ⟨rfl, hE9⟩
  have z9 := hE9.size
  replace hr0 := hr0.ext hE9
  replace hr1 := hr1.ext hE9
  replace hr2 := hr2.ext hE9
  replace hRS := hRS.ext hE9
  replace hXx0 := hXx0.ext hE9
  replace hXx1 := hXx1.ext hE9
  replace hXx2 := hXx2.ext hE9
  replace hRG := hRG.ext hE9
  replace hE := hE.trans hE9
  go_wp2_with fail
  refine (toSortS_any A0 c0 l0 _ _ _ (by omega) hr0).mono ?_
  rintro e w10 ⟨gy0, rfl, hXy0, hE10⟩
  have z10 := hE10.size
  replace hr0 := hr0.ext hE10
  replace hr1 := hr1.ext hE10
  replace hr2 := hr2.ext hE10
  replace hRS := hRS.ext hE10
  replace hXx0 := hXx0.ext hE10
  replace hXx1 := hXx1.ext hE10
  replace hXx2 := hXx2.ext hE10
  replace hRG := hRG.ext hE10
  replace hE := hE.trans hE10
  go_wp2_with fail
  refine (eqSortS_same _ _ _ _ l0 _ _ _ _ _ (by omega) hXx0 hXy0).mono ?_
  rintro e w11 ⟨rfl, hE11⟩
  have z11 := hE11.size
  replace hr0 := hr0.ext hE11
  replace hr1 := hr1.ext hE11
  replace hr2 := hr2.ext hE11
  replace hRS := hRS.ext hE11
  replace hXx0 := hXx0.ext hE11
  replace hXx1 := hXx1.ext hE11
  replace hXx2 := hXx2.ext hE11
  replace hRG := hRG.ext hE11
  replace hE := hE.trans hE11
  go_wp2_with fail
  refine (toIntS_any A1 c1 l1 _ _ _ (by omega) hr1).mono ?_
  rintro e w12 ⟨gy1, rfl, hXy1, hE12⟩
  have z12 := hE12.size
  replace hr0 := hr0.ext hE12
  replace hr1 := hr1.ext hE12
  replace hr2 := hr2.ext hE12
  replace hRS := hRS.ext hE12
  replace hXx0 := hXx0.ext hE12
  replace hXx1 := hXx1.ext hE12
  replace hXx2 := hXx2.ext hE12
  replace hRG := hRG.ext hE12
  replace hE := hE.trans hE12
  go_wp2_with fail
  refine (eqIntS_same _ _ _ _ l1 _ _ _ _ _ (by omega) hXx1 hXy1).mono ?_
  rintro e w13 ⟨rfl, hE13⟩
  have z13 := hE13.size
  replace hr0 := hr0.ext hE13
  replace hr1 := hr1.ext hE13
  replace hr2 := hr2.ext hE13
  replace hRS := hRS.ext hE13
  replace hXx0 := hXx0.ext hE13
  replace hXx1 := hXx1.ext hE13
  replace hXx2 := hXx2.ext hE13
  replace hRG := hRG.ext hE13
  replace hE := hE.trans hE13
  go_wp2_with fail
  refine (toStringS_any A2 c2 l2 _ _ _ (by omega) hr2).mono ?_
  rintro e w14 ⟨gy2, rfl, hXy2, hE14⟩
  have z14 := hE14.size
  replace hr0 := hr0.ext hE14
  replace hr1 := hr1.ext hE14
  replace hr2 := hr2.ext hE14
  replace hRS := hRS.ext hE14
  replace hXx0 := hXx0.ext hE14
  replace hXx1 := hXx1.ext hE14
  replace hXx2 := hXx2.ext hE14
  replace hRG := hRG.ext hE14
  replace hE := hE.trans hE14
  go_wp2_with fail
  refine (eqStringS_same _ _ _ _ l2 _ _ _ _ _ (by omega) hXx2 hXy2).mono ?_
  rintro e w15 ⟨rfl, hE15⟩
  have z15 := hE15.size
  replace hr0 := hr0.ext hE15
  replace hr1 := hr1.ext hE15
  replace hr2 := hr2.ext hE15
  replace hRS := hRS.ext hE15
  replace hXx0 := hXx0.ext hE15
  replace hXx1 := hXx1.ext hE15
  replace hXx2 := hXx2.ext hE15
  replace hRG := hRG.ext hE15
  replace hE := hE.trans hE15
  go_wp2_with fail
  refine (markSortS_any _ _ l0.length (l0.flatMap Srt.enc) _ _ _ _ (lenS l0) (by omega) (by omega) (by omega) hXx0).mono ?_
  rintro e w16 ⟨rfl, hMx0, hO16⟩
  have z16 := hO16.size
  replace hr0 := hr0.out hO16 (by omega)
  replace hr1 := hr1.out hO16 (by omega)
  replace hr2 := hr2.out hO16 (by omega)
  replace hRS := hRS.out hO16 (by omega)
  replace hXx1 := hXx1.out hO16 (by omega)
  replace hXx2 := hXx2.out hO16 (by omega)
  replace hRG := hRG.out hO16 (by omega)
  replace hE := hO16.ext hE (by omega)
  go_wp2_with fail
  refine (markIntS_any _ _ l1 _ _ _ _ (by omega) (by omega) (by omega) hXx1).mono ?_
  rintro e w17 ⟨rfl, hMx1, hO17⟩
  have z17 := hO17.size
  replace hr0 := hr0.out hO17 (by omega)
  replace hr1 := hr1.out hO17 (by omega)
  replace hr2 := hr2.out hO17 (by omega)
  replace hRS := hRS.out hO17 (by omega)
  replace hXx2 := hXx2.out hO17 (by omega)
  replace hRG := hRG.out hO17 (by omega)
  replace hE := hO17.ext hE (by omega)
  go_wp2_with fail
  refine (markStringS_any _ _ l2 _ _ _ _ (by omega) (by omega) (by omega) hXx2).mono ?_
  rintro e w18 ⟨rfl, hMx2, hO18⟩
  have z18 := hO18.size
  replace hr0 := hr0.out hO18 (by omega)
  replace hr1 := hr1.out hO18 (by omega)
  replace hr2 := hr2.out hO18 (by omega)
  replace hRS := hRS.out hO18 (by omega)
  replace hRG := hRG.out hO18 (by omega)
  replace hE := hO18.ext hE (by omega)
  go_wp2_with fail
  refine (eqIntS_same _ _ _ _ (lrP l0 l1 l2 a3).1 _ _ _ _ _ (by omega) hRG hRS).mono ?_
  rintro e w19 ⟨rfl, hE19⟩
  have z19 := hE19.size
  replace hr0 := hr0.ext hE19
  replace hr1 := hr1.ext hE19
  replace hr2 := hr2.ext hE19
  replace hRS := hRS.ext hE19
  replace hRG := hRG.ext hE19
  replace hE := hE.trans hE19
  go_wp2_with fail
  refine (markIntS_any _ _ (lrP l0 l1 l2 a3).1 1 _ _ _ (by omega) (by omega) (by omega) hRG).mono ?_
  rintro e w20 ⟨rfl, hMG, hO20⟩
  have z20 := hO20.size
  replace hr0 := hr0.out hO20 (by omega)
  replace hr1 := hr1.out hO20 (by omega)
  replace hr2 := hr2.out hO20 (by omega)
  replace hRS := hRS.out hO20 (by omega)
  replace hE := hO20.ext hE (by omega)
  go_wp2_with fail
  refine (heldIntS_any _ _ _ 1 _ _ _ (by omega) (by omega) (by omega) hMG).mono ?_
  rintro e w' ⟨rfl, rfl⟩
  go_wp2_with fail
  refine (toSortS_any A0 c0 l0 _ _ _ (by omega) hr0).mono ?_
  rintro e w21 ⟨gt0, rfl, hXt0, hE21⟩
  have z21 := hE21.size
  replace hr0 := hr0.ext hE21
  replace hr1 := hr1.ext hE21
  replace hr2 := hr2.ext hE21
  replace hRS := hRS.ext hE21
  replace hMG := hMG.ext hE21
  replace hE := hE.trans hE21
  go_wp2_with fail
  refine (toIntS_any A1 c1 l1 _ _ _ (by omega) hr1).mono ?_
  rintro e w22 ⟨gt1, rfl, hXt1, hE22⟩
  have z22 := hE22.size
  replace hr0 := hr0.ext hE22
  replace hr1 := hr1.ext hE22
  replace hr2 := hr2.ext hE22
  replace hRS := hRS.ext hE22
  replace hMG := hMG.ext hE22
  replace hXt0 := hXt0.ext hE22
  replace hE := hE.trans hE22
  go_wp2_with fail
  refine (toStringS_any A2 c2 l2 _ _ _ (by omega) hr2).mono ?_
  rintro e w23 ⟨gt2, rfl, hXt2, hE23⟩
  have z23 := hE23.size
  replace hr0 := hr0.ext hE23
  replace hr1 := hr1.ext hE23
  replace hr2 := hr2.ext hE23
  replace hRS := hRS.ext hE23
  replace hMG := hMG.ext hE23
  replace hXt0 := hXt0.ext hE23
  replace hXt1 := hXt1.ext hE23
  replace hE := hE.trans hE23
  go_wp2_with fail
  refine (impl_LeastRecast _ _ _ _ _ _ l0 l1 l2 a3 _ _ _ _ _ _ _ (by omega) hb0 (by omega) (by omega) hb2 hXt0 hXt1 hXt2).mono ?_
  rintro e w24 ⟨AH, cH, rfl, hcH, hRH, hE24⟩
  have z24 := hE24.size
  replace hr0 := hr0.ext hE24
  replace hr1 := hr1.ext hE24
  replace hr2 := hr2.ext hE24
  replace hRS := hRS.ext hE24
  replace hMG := hMG.ext hE24
  replace hXt0 := hXt0.ext hE24
  replace hXt1 := hXt1.ext hE24
  replace hXt2 := hXt2.ext hE24
  replace hE := hE.trans hE24
  go_wp2_with fail
  refine (eqIntS_same _ _ _ _ (lrP l0 l1 l2 a3).1 _ _ _ _ _ (by omega) hRH hRS).mono ?_
  rintro e w25 ⟨rfl, hE25⟩
  have z25 := hE25.size
  replace hr0 := hr0.ext hE25
  replace hr1 := hr1.ext hE25
  replace hr2 := hr2.ext hE25
  replace hRS := hRS.ext hE25
  replace hMG := hMG.ext hE25
  replace hRH := hRH.ext hE25
  replace hE := hE.trans hE25
  go_wp2_with fail
  refine (heldIntS_any _ _ _ 1 _ _ _ (by omega) (by omega) (by omega) hMG).mono ?_
  rintro e w' ⟨rfl, rfl⟩
  go_wp2_with fail
  go_ret
  exact ⟨rfl, hE⟩
theorem own : ownKnob Try.prog.godebug = none := by kernel_rfl
theorem laidOut : laidOutB Try.prog = true := by kernel_rfl
set_option maxRecDepth 100000 in
theorem lifted (os : Os) (started : os.Started) (H : Type) (enc : TypeId × Value → H) :
    ReturnsInHanded {} Try.checked os 9 .any (Rows.fnExactLeastRecastSpec.pre6 enc Try.prog Try.f9 Rows.fnExactLeastRecastRow.domain false) (Rows.fnExactLeastRecastSpec.post enc Try.prog Try.f9 false true false false) := by
  refine returnsInHanded_of_change (C := Try.checked) own started (by kernel_rfl) Try.func9
    (ChangeSpec.witness6 (enc := enc) (C := Try.checked) false ⟨#[], #[.slice none 0 0, .slice none 0 0, .slice none 0 0, .int .i64 0], []⟩ 8 (by kernel_rfl) (by kernel_rfl) (by kernel_rfl) (by kernel_rfl)) ?_
  intro W base args ds gs before hval0 hW hcnd _
  have hval : ∀ (j : Nat) t v, Try.f9.params[j]? = some t → args[j]? = some v → Value.okWide Try.prog W .any base t v := hval0
  have hW' := hW
  obtain ⟨p, q, hA0, hV, rfl, hfz, hnd⟩ := hW
  have hA : DataW.TrodAll enc Try.prog W 0 (fun _ => true) true Try.f9.params.toList args.toList ds p := hA0
  rw [Try.params9] at hA hval
  obtain ⟨v0, vs0, d0, ds0, p0, q0, hargs, rfl, rfl, h0, r0⟩ := trodAll_cons hA
  obtain ⟨v1, vs1, d1, ds1, p1, q1, rfl, rfl, rfl, h1, r1⟩ := trodAll_cons r0
  obtain ⟨v2, vs2, d2, ds2, p2, q2, rfl, rfl, rfl, h2, r2⟩ := trodAll_cons r1
  obtain ⟨v3, vs3, d3, ds3, p3, q3, rfl, rfl, rfl, h3, r3⟩ := trodAll_cons r2
  obtain ⟨rfl, rfl, rfl⟩ := trodAll_nil r3
  obtain rfl : args = #[v0, v1, v2, v3] := by cases args; simp_all
  obtain ⟨rfl, rfl⟩ := trodVars_none hV
  have k0 := h0
  have lt0 : ∀ x ∈ p0, x.block < W.heap.size := by obtain ⟨m, hm⟩ := k0; exact DataW.trod_lt m _ _ _ hm
  obtain ⟨A0, len0, c0, rfl⟩ := okWide_slice Try.underlying22 (hval 0 22 v0 rfl rfl)
  obtain ⟨l0, rfl, hl0, hm0, hr0, hq0⟩ := open_flat Srt.enc 2 (fun _ => rfl) Try.underlying22 (by kernel_rfl) (fun m => m.code.size ≤ maxLen) (fun n cs y h => by obtain ⟨a, s, rfl, q⟩ := dec_s1 Try.underlying42 (by kernel_rfl) (by kernel_rfl) Try.underlying9 Try.underlying3 n cs y h; exact ⟨⟨a, s⟩, rfl, q⟩) h0
  have k1 := h1
  have lt1 : ∀ x ∈ p1, x.block < W.heap.size := by obtain ⟨m, hm⟩ := k1; exact DataW.trod_lt m _ _ _ hm
  obtain ⟨A1, len1, c1, rfl⟩ := okWide_slice Try.underlying34 (hval 1 34 v1 rfl rfl)
  obtain ⟨l1, rfl, hl1, hm1, hr1, hq1⟩ := open_intsQ Try.underlying34 Try.underlying3 (by kernel_rfl) h1
  have k2 := h2
  have lt2 : ∀ x ∈ p2, x.block < W.heap.size := by obtain ⟨m, hm⟩ := k2; exact DataW.trod_lt m _ _ _ hm
  obtain ⟨A2, len2, c2, rfl⟩ := okWide_slice Try.underlying24 (hval 2 24 v2 rfl rfl)
  obtain ⟨l2, rfl, hl2, hm2, hr2, hq2⟩ := open_strsQ Try.underlying24 Try.underlying9 (by kernel_rfl) h2
  have k3 := h3
  have lt3 : ∀ x ∈ p3, x.block < W.heap.size := by obtain ⟨m, hm⟩ := k3; exact DataW.trod_lt m _ _ _ hm
  obtain ⟨a3, rfl, rfl, rfl, w3⟩ := open_int Try.underlying3 (hval 3 3 v3 rfl rfl) h3
  clear hA0 hval0
  refine (walk A0 c0 l0 A1 c1 l1 A2 c2 l2 a3 W hl0 hm0 hr0 hq0 hl1 hm1 hr1 hq1 hl2 hm2 hr2 hq2 w3).mono fun e W' ⟨he, bel⟩ => ?_
  subst he
  exact ⟨_, rfl, _, _, _, [], _, [], hW', trodAll_mk1 (shut_bool Try.underlying4 _), (trodAll_cons_mk (Below.trod laidOut (by kernel_rfl) (of_decide_eq_true (by kernel_rfl)) k0 bel lt0) (trodAll_cons_mk (Below.trod laidOut (by kernel_rfl) (of_decide_eq_true (by kernel_rfl)) k1 bel lt1) (trodAll_cons_mk (Below.trod laidOut (by kernel_rfl) (of_decide_eq_true (by kernel_rfl)) k2 bel lt2) (trodAll_cons_mk (Below.trod laidOut (by kernel_rfl) (of_decide_eq_true (by kernel_rfl)) k3 bel lt3) trodAll_mk0)))), rfl, Below.frame bel _, fun h => by cases h⟩

theorem over : Rows.fnExactLeastRecastRow.holds Try.pinned (OpenSpec.ofChange Rows.fnExactLeastRecastSpec) :=
  OpenClaim.holds_of_wide 9 Try.f9 rfl rfl rfl rfl rfl rfl rfl ⟨rfl, rfl, rfl, rfl, rfl⟩ rfl rfl rfl rfl rfl (by kernel_rfl) Try.func9 (by kernel_rfl)
    (of_decide_eq_true (by kernel_rfl)) (by unfold Func.isWrapper; first | (rw [if_pos (by decide +kernel)]; kernel_rfl) | (rw [if_neg (by decide +kernel)]; exact ⟨rfl, rfl⟩))
    (fun os started H enc _ => lifted os started H enc)

theorem proved : Rows.FnExactLeastRecastSaid := over
#print axioms proved

end Go.Proofs.Ytnkkpphjahpadaa.fnExactLeastRecast
