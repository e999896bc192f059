/- Proved here: for every input the law FnExactPutTypes returns true and leaves its arguments as they were. No condition. -/
import Derived.Test.YtnkkpphjahpadaaRows
import Derived.Test.YtnkkpphjahpadaaOpen
import Derived.Deep.RegionHeld3
import Derived.Test.YtnkkpphjahpadaaStrO
import Derived.Test.YtnkkpphjahpadaaMksB
import Derived.Test.YtnkkpphjahpadaaBxB
namespace Go.Proofs.Ytnkkpphjahpadaa.fnExactPutTypes
open Go.ChangeShapes Go.WideShapes Go.ChangeAt Go.RowKit Go.Deep
set_option linter.unusedVariables false

theorem walk (A0 : Option Addr) (c0 : Nat) (l0 : List Bx) (A1 : Option Addr) (c1 : Nat) (l1 : List ByteArray) (w : World) (hl0 : l0.length ≤ c0) (hm0 : c0 ≤ maxLen) (hr0 : RdA w 0 w.heap.size A0 (l0.flatMap Bx.enc)) (hq0 : ∀ m ∈ l0, m.code.size ≤ maxLen) (hl1 : l1.length ≤ c1) (hm1 : c1 ≤ maxLen) (hr1 : RdA w 0 w.heap.size A1 (l1.map Value.string)) (hq1 : ∀ s ∈ l1, s.size ≤ maxLen) :
    Calls Try.prog 12 #[.slice A0 l0.length c0, .slice A1 l1.length c1] w fun e w' => e = .returned (.bool true) ∧ Ext w w' := by
  unfold maxLen at hm0
  unfold maxLen at hm1
  by_cases hsz0 : bulkB l0 ≤ 1048576
  case neg =>
    go_enter Try.func12, Try.ntmps12
    go_wp2_with fail
    refine (szBoxS_any A0 c0 l0 _ _ _ _ (by omega) hq0 (by omega) (by omega) hr0).mono ?_
    rintro e wS0 ⟨rfl, hES0⟩
    rw [szB_no (by omega)]
    go_wp2_with fail
    go_ret
    exact ⟨rfl, (by repeat (first | exact Ext.refl _ | assumption | refine Ext.trans ?_ (Ext.alloc _ _) | refine Ext.trans ?_ (Ext.drew _) | refine Ext.trans ?_ (Ext.drewN _ _) | refine Ext.trans ?_ (by assumption)))⟩
  by_cases hsz1 : bulkB l0 + bulkT l1 ≤ 1048576
  case neg =>
    go_enter Try.func12, Try.ntmps12
    go_wp2_with fail
    refine (szBoxS_any A0 c0 l0 _ _ _ _ (by omega) hq0 (by omega) (by omega) hr0).mono ?_
    rintro e wS0 ⟨rfl, hES0⟩
    rw [szB_yes (by omega)]
    go_wp2_with fail
    refine (szStringS_any A1 c1 l1 _ _ _ _ (by omega) hq1 (by omega) (by omega) (hr1.ext (by repeat (first | exact Ext.refl _ | assumption | refine Ext.trans ?_ (Ext.alloc _ _) | refine Ext.trans ?_ (Ext.drew _) | refine Ext.trans ?_ (Ext.drewN _ _) | refine Ext.trans ?_ (by assumption))))).mono ?_
    rintro e w_ ⟨rfl, rfl⟩
    rw [szT_no (by omega)]
    go_wp2_with fail
    go_ret
    exact ⟨rfl, (by repeat (first | exact Ext.refl _ | assumption | refine Ext.trans ?_ (Ext.alloc _ _) | refine Ext.trans ?_ (Ext.drew _) | refine Ext.trans ?_ (Ext.drewN _ _) | refine Ext.trans ?_ (by assumption)))⟩
  have hn0 : l0.length ≤ 1048576 := by unfold bulkB at hsz0; omega
  have hb0 : ∀ m ∈ l0, m.code.size ≤ 1048577 := fun m hm => by have := recB_le hm; unfold bulkB at hsz0; omega
  have hn1 : l1.length ≤ 1048576 := by unfold bulkT at hsz1; omega
  have hb1 : ∀ s ∈ l1, s.size ≤ 1048577 := fun s hs => by have := str_le hs; unfold bulkT at hsz1; omega
  have hlim : (moP l0 l1 1).1.length ≤ 4000000 := moP_len _ _ _
  go_enter Try.func12, Try.ntmps12
  have hE : Ext w w := Ext.refl _
  go_wp2_with fail
  refine (szBoxS_any A0 c0 l0 _ _ _ _ (by omega) hq0 (by omega) (by omega) hr0).mono ?_
  rintro e wS0 ⟨rfl, hES0⟩
  rw [szB_yes (by omega)]
  go_wp2_with fail
  refine (szStringS_any A1 c1 l1 _ _ _ _ (by omega) hq1 (by omega) (by omega) (hr1.ext (by repeat (first | exact Ext.refl _ | assumption | refine Ext.trans ?_ (Ext.alloc _ _) | refine Ext.trans ?_ (Ext.drew _) | refine Ext.trans ?_ (Ext.drewN _ _) | refine Ext.trans ?_ (by assumption))))).mono ?_
  rintro e w_ ⟨rfl, rfl⟩
  rw [szT_yes (by omega)]
  go_wp2_with fail
  have hES : Ext w wS0 := (by repeat (first | exact Ext.refl _ | assumption | refine Ext.trans ?_ (Ext.alloc _ _) | refine Ext.trans ?_ (Ext.drew _) | refine Ext.trans ?_ (Ext.drewN _ _) | refine Ext.trans ?_ (by assumption)))
  have zS := hES.size
  replace hr0 := hr0.ext hES
  replace hr1 := hr1.ext hES
  replace hE := hES
  clear hES
  refine (toBoxS_any A0 c0 l0 _ _ _ (by omega) hr0).mono ?_
  rintro e w1 ⟨gs0, rfl, hXs0, hE1⟩
  have z1 := hE1.size
  replace hr0 := hr0.ext hE1
  replace hr1 := hr1.ext hE1
  replace hE := hE.trans hE1
  go_wp2_with fail
  refine (toStringS_any A1 c1 l1 _ _ _ (by omega) hr1).mono ?_
  rintro e w2 ⟨gs1, rfl, hXs1, hE2⟩
  have z2 := hE2.size
  replace hr0 := hr0.ext hE2
  replace hr1 := hr1.ext hE2
  replace hXs0 := hXs0.ext hE2
  replace hE := hE.trans hE2
  go_wp2_with fail
  refine (spec_PutTypes _ _ _ _ l0 l1 _ _ _ _ _ (by omega) hb0 (Nat.le_refl _) (by omega) hXs0 hXs1).mono ?_
  rintro e w3 ⟨AS, cS, rfl, hcS, hRS, hE3⟩
  have z3 := hE3.size
  replace hr0 := hr0.ext hE3
  replace hr1 := hr1.ext hE3
  replace hXs0 := hXs0.ext hE3
  replace hXs1 := hXs1.ext hE3
  replace hE := hE.trans hE3
  go_wp2_with fail
  refine (toBoxS_any A0 c0 l0 _ _ _ (by omega) hr0).mono ?_
  rintro e w4 ⟨gx0, rfl, hXx0, hE4⟩
  have z4 := hE4.size
  replace hr0 := hr0.ext hE4
  replace hr1 := hr1.ext hE4
  replace hRS := hRS.ext hE4
  replace hE := hE.trans hE4
  go_wp2_with fail
  refine (toStringS_any A1 c1 l1 _ _ _ (by omega) hr1).mono ?_
  rintro e w5 ⟨gx1, rfl, hXx1, hE5⟩
  have z5 := hE5.size
  replace hr0 := hr0.ext hE5
  replace hr1 := hr1.ext hE5
  replace hRS := hRS.ext hE5
  replace hXx0 := hXx0.ext hE5
  replace hE := hE.trans hE5
  go_wp2_with fail
  refine (impl_PutTypes _ _ _ _ l0 l1 _ _ _ _ _ (by omega) hb0 (Nat.le_refl _) (by omega) hXx0 hXx1).mono ?_
  rintro e w6 ⟨AG, cG, rfl, hcG, hRG, hE6⟩
  have z6 := hE6.size
  replace hr0 := hr0.ext hE6
  replace hr1 := hr1.ext hE6
  replace hRS := hRS.ext hE6
  replace hXx0 := hXx0.ext hE6
  replace hXx1 := hXx1.ext hE6
  replace hE := hE.trans hE6
  go_wp2_with fail
  refine (eqBoxS_same _ _ _ _ (moP l0 l1 1).1 _ _ _ _ _ (by omega) hRG hRS).mono ?_
  rintro e w7 ⟨rfl, hE7⟩
  have z7 := hE7.size
  replace hr0 := hr0.ext hE7
  replace hr1 := hr1.ext hE7
  replace hRS := hRS.ext hE7
  replace hXx0 := hXx0.ext hE7
  replace hXx1 := hXx1.ext hE7
  replace hRG := hRG.ext hE7
  replace hE := hE.trans hE7
  go_wp2_with fail
  refine (toBoxS_any A0 c0 l0 _ _ _ (by omega) hr0).mono ?_
  rintro e w8 ⟨gy0, rfl, hXy0, hE8⟩
  have z8 := hE8.size
  replace hr0 := hr0.ext hE8
  replace hr1 := hr1.ext hE8
  replace hRS := hRS.ext hE8
  replace hXx0 := hXx0.ext hE8
  replace hXx1 := hXx1.ext hE8
  replace hRG := hRG.ext hE8
  replace hE := hE.trans hE8
  go_wp2_with fail
  refine (eqBoxS_same _ _ _ _ l0 _ _ _ _ _ (by omega) hXx0 hXy0).mono ?_
  rintro e w9 ⟨rfl, hE9⟩
  have z9 := hE9.size
  replace hr0 := hr0.ext hE9
  replace hr1 := hr1.ext hE9
  replace hRS := hRS.ext hE9
  replace hXx0 := hXx0.ext hE9
  replace hXx1 := hXx1.ext hE9
  replace hRG := hRG.ext hE9
  replace hE := hE.trans hE9
  go_wp2_with fail
  refine (toStringS_any A1 c1 l1 _ _ _ (by omega) hr1).mono ?_
  rintro e w10 ⟨gy1, rfl, hXy1, hE10⟩
  have z10 := hE10.size
  replace hr0 := hr0.ext hE10
  replace hr1 := hr1.ext hE10
  replace hRS := hRS.ext hE10
  replace hXx0 := hXx0.ext hE10
  replace hXx1 := hXx1.ext hE10
  replace hRG := hRG.ext hE10
  replace hE := hE.trans hE10
  go_wp2_with fail
  refine (eqStringS_same _ _ _ _ l1 _ _ _ _ _ (by omega) hXx1 hXy1).mono ?_
  rintro e w11 ⟨rfl, hE11⟩
  have z11 := hE11.size
  replace hr0 := hr0.ext hE11
  replace hr1 := hr1.ext hE11
  replace hRS := hRS.ext hE11
  replace hXx0 := hXx0.ext hE11
  replace hXx1 := hXx1.ext hE11
  replace hRG := hRG.ext hE11
  replace hE := hE.trans hE11
  go_wp2_with fail
  refine (markBoxS_any _ _ l0.length (l0.flatMap Bx.enc) _ _ _ _ (lenB l0) (by omega) (by omega) (by omega) hXx0).mono ?_
  rintro e w12 ⟨rfl, hMx0, hO12⟩
  have z12 := hO12.size
  replace hr0 := hr0.out hO12 (by omega)
  replace hr1 := hr1.out hO12 (by omega)
  replace hRS := hRS.out hO12 (by omega)
  replace hXx1 := hXx1.out hO12 (by omega)
  replace hRG := hRG.out hO12 (by omega)
  replace hE := hO12.ext hE (by omega)
  go_wp2_with fail
  refine (markStringS_any _ _ l1 _ _ _ _ (by omega) (by omega) (by omega) hXx1).mono ?_
  rintro e w13 ⟨rfl, hMx1, hO13⟩
  have z13 := hO13.size
  replace hr0 := hr0.out hO13 (by omega)
  replace hr1 := hr1.out hO13 (by omega)
  replace hRS := hRS.out hO13 (by omega)
  replace hRG := hRG.out hO13 (by omega)
  replace hE := hO13.ext hE (by omega)
  go_wp2_with fail
  refine (eqBoxS_same _ _ _ _ (moP l0 l1 1).1 _ _ _ _ _ (by omega) hRG hRS).mono ?_
  rintro e w14 ⟨rfl, hE14⟩
  have z14 := hE14.size
  replace hr0 := hr0.ext hE14
  replace hr1 := hr1.ext hE14
  replace hRS := hRS.ext hE14
  replace hRG := hRG.ext hE14
  replace hE := hE.trans hE14
  go_wp2_with fail
  refine (markBoxS_any _ _ _ ((moP l0 l1 1).1.flatMap Bx.enc) 1 _ _ _ (lenB (moP l0 l1 1).1) (by omega) (by omega) (by omega) hRG).mono ?_
  rintro e w15 ⟨rfl, hMG, hO15⟩
  have z15 := hO15.size
  replace hr0 := hr0.out hO15 (by omega)
  replace hr1 := hr1.out hO15 (by omega)
  replace hRS := hRS.out hO15 (by omega)
  replace hE := hO15.ext hE (by omega)
  go_wp2_with fail
  refine (heldBoxS_any _ _ _ 1 _ _ _ (by omega) (by omega) (by omega) hMG).mono ?_
  rintro e w16 ⟨rfl, hE16⟩
  have z16 := hE16.size
  replace hr0 := hr0.ext hE16
  replace hr1 := hr1.ext hE16
  replace hRS := hRS.ext hE16
  replace hMG := hMG.ext hE16
  replace hE := hE.trans hE16
  go_wp2_with fail
  refine (toBoxS_any A0 c0 l0 _ _ _ (by omega) hr0).mono ?_
  rintro e w17 ⟨gt0, rfl, hXt0, hE17⟩
  have z17 := hE17.size
  replace hr0 := hr0.ext hE17
  replace hr1 := hr1.ext hE17
  replace hRS := hRS.ext hE17
  replace hMG := hMG.ext hE17
  replace hE := hE.trans hE17
  go_wp2_with fail
  refine (toStringS_any A1 c1 l1 _ _ _ (by omega) hr1).mono ?_
  rintro e w18 ⟨gt1, rfl, hXt1, hE18⟩
  have z18 := hE18.size
  replace hr0 := hr0.ext hE18
  replace hr1 := hr1.ext hE18
  replace hRS := hRS.ext hE18
  replace hMG := hMG.ext hE18
  replace hXt0 := hXt0.ext hE18
  replace hE := hE.trans hE18
  go_wp2_with fail
  refine (impl_PutTypes _ _ _ _ l0 l1 _ _ _ _ _ (by omega) hb0 (Nat.le_refl _) (by omega) hXt0 hXt1).mono ?_
  rintro e w19 ⟨AH, cH, rfl, hcH, hRH, hE19⟩
  have z19 := hE19.size
  replace hr0 := hr0.ext hE19
  replace hr1 := hr1.ext hE19
  replace hRS := hRS.ext hE19
  replace hMG := hMG.ext hE19
  replace hXt0 := hXt0.ext hE19
  replace hXt1 := hXt1.ext hE19
  replace hE := hE.trans hE19
  go_wp2_with fail
  refine (eqBoxS_same _ _ _ _ (moP l0 l1 1).1 _ _ _ _ _ (by omega) hRH hRS).mono ?_
  rintro e w20 ⟨rfl, hE20⟩
  have z20 := hE20.size
  replace hr0 := hr0.ext hE20
  replace hr1 := hr1.ext hE20
  replace hRS := hRS.ext hE20
  replace hMG := hMG.ext hE20
  replace hRH := hRH.ext hE20
  replace hE := hE.trans hE20
  go_wp2_with fail
  refine (heldBoxS_any _ _ _ 1 _ _ _ (by omega) (by omega) (by omega) hMG).mono ?_
  rintro e w21 ⟨rfl, hE21⟩
  have z21 := hE21.size
  replace hr0 := hr0.ext hE21
  replace hr1 := hr1.ext hE21
  replace hRS := hRS.ext hE21
  replace hMG := hMG.ext hE21
  replace hRH := hRH.ext hE21
  replace hE := hE.trans hE21
  go_wp2_with fail
  go_ret
  exact ⟨rfl, hE⟩
theorem own : ownKnob Try.prog.godebug = none := by kernel_rfl
theorem laidOut : laidOutB Try.prog = true := by kernel_rfl
set_option maxRecDepth 100000 in
theorem lifted (os : Os) (started : os.Started) (H : Type) (enc : TypeId × Value → H) :
    ReturnsInHanded {} Try.checked os 12 .any (Rows.fnExactPutTypesSpec.pre6 enc Try.prog Try.f12 Rows.fnExactPutTypesRow.domain false) (Rows.fnExactPutTypesSpec.post enc Try.prog Try.f12 false true false false) := by
  refine returnsInHanded_of_change (C := Try.checked) own started (by kernel_rfl) Try.func12
    (ChangeSpec.witness6 (enc := enc) (C := Try.checked) false ⟨#[], #[.slice none 0 0, .slice none 0 0], []⟩ 8 (by kernel_rfl) (by kernel_rfl) (by kernel_rfl) (by kernel_rfl)) ?_
  intro W base args ds gs before hval0 hW hcnd _
  have hval : ∀ (j : Nat) t v, Try.f12.params[j]? = some t → args[j]? = some v → Value.okWide Try.prog W .any base t v := hval0
  have hW' := hW
  obtain ⟨p, q, hA0, hV, rfl, hfz, hnd⟩ := hW
  have hA : DataW.TrodAll enc Try.prog W 0 (fun _ => true) true Try.f12.params.toList args.toList ds p := hA0
  rw [Try.params12] at hA hval
  obtain ⟨v0, vs0, d0, ds0, p0, q0, hargs, rfl, rfl, h0, r0⟩ := trodAll_cons hA
  obtain ⟨v1, vs1, d1, ds1, p1, q1, rfl, rfl, rfl, h1, r1⟩ := trodAll_cons r0
  obtain ⟨rfl, rfl, rfl⟩ := trodAll_nil r1
  obtain rfl : args = #[v0, v1] := by cases args; simp_all
  obtain ⟨rfl, rfl⟩ := trodVars_none hV
  have k0 := h0
  have lt0 : ∀ x ∈ p0, x.block < W.heap.size := by obtain ⟨m, hm⟩ := k0; exact DataW.trod_lt m _ _ _ hm
  obtain ⟨A0, len0, c0, rfl⟩ := okWide_slice Try.underlying64 (hval 0 64 v0 rfl rfl)
  obtain ⟨l0, rfl, hl0, hm0, hr0, hq0⟩ := open_flat Bx.enc 4 (fun _ => rfl) Try.underlying64 (by kernel_rfl) (fun m => m.code.size ≤ maxLen) (fun n cs y h => by obtain ⟨s, a, b, c, rfl, q⟩ := dec_s3 Try.underlying101 (by kernel_rfl) (by kernel_rfl) Try.underlying9 Try.underlying3 Try.underlying3 Try.underlying3 n cs y h; exact ⟨⟨s, a, b, c⟩, rfl, q⟩) h0
  have k1 := h1
  have lt1 : ∀ x ∈ p1, x.block < W.heap.size := by obtain ⟨m, hm⟩ := k1; exact DataW.trod_lt m _ _ _ hm
  obtain ⟨A1, len1, c1, rfl⟩ := okWide_slice Try.underlying24 (hval 1 24 v1 rfl rfl)
  obtain ⟨l1, rfl, hl1, hm1, hr1, hq1⟩ := open_strsQ Try.underlying24 Try.underlying9 (by kernel_rfl) h1
  clear hA0 hval0
  refine (walk A0 c0 l0 A1 c1 l1 W hl0 hm0 hr0 hq0 hl1 hm1 hr1 hq1).mono fun e W' ⟨he, bel⟩ => ?_
  subst he
  exact ⟨_, rfl, _, _, _, [], _, [], hW', trodAll_mk1 (shut_bool Try.underlying4 _), (trodAll_cons_mk (Below.trod laidOut (by kernel_rfl) (of_decide_eq_true (by kernel_rfl)) k0 bel lt0) (trodAll_cons_mk (Below.trod laidOut (by kernel_rfl) (of_decide_eq_true (by kernel_rfl)) k1 bel lt1) trodAll_mk0)), rfl, Below.frame bel _, fun h => by cases h⟩

theorem over : Rows.fnExactPutTypesRow.holds Try.pinned (OpenSpec.ofChange Rows.fnExactPutTypesSpec) :=
  OpenClaim.holds_of_wide 12 Try.f12 rfl rfl rfl rfl rfl rfl rfl ⟨rfl, rfl, rfl, rfl, rfl⟩ rfl rfl rfl rfl rfl (by kernel_rfl) Try.func12 (by kernel_rfl)
    (of_decide_eq_true (by kernel_rfl)) (by unfold Func.isWrapper; first | (rw [if_pos (by decide +kernel)]; kernel_rfl) | (rw [if_neg (by decide +kernel)]; exact ⟨rfl, rfl⟩))
    (fun os started H enc _ => lifted os started H enc)

theorem proved : Rows.FnExactPutTypesSaid := over
#print axioms proved

end Go.Proofs.Ytnkkpphjahpadaa.fnExactPutTypes
