/- Proved here: for every input the law FnExactSwapBoxes returns true and leaves its arguments as they were. No condition. -/
import Derived.Test.YtnkkpphjahpadaaRows
import Derived.Test.YtnkkpphjahpadaaOpen
import Derived.Deep.RegionHeld3
import Derived.Test.YtnkkpphjahpadaaStrO
import Derived.Test.YtnkkpphjahpadaaMksB
import Derived.Test.YtnkkpphjahpadaaBxB
namespace Go.Proofs.Ytnkkpphjahpadaa.fnExactSwapBoxes
open Go.ChangeShapes Go.WideShapes Go.ChangeAt Go.RowKit Go.Deep
set_option linter.unusedVariables false

theorem walk (A0 : Option Addr) (c0 : Nat) (l0 : List Bx) (a1 : Int) (a2 : Int) (w : World) (hl0 : l0.length ≤ c0) (hm0 : c0 ≤ maxLen) (hr0 : RdA w 0 w.heap.size A0 (l0.flatMap Bx.enc)) (hq0 : ∀ m ∈ l0, m.code.size ≤ maxLen) (w1 : (Lit.int .i64 a1).wf = true) (w2 : (Lit.int .i64 a2).wf = true) :
    Calls Try.prog 13 #[.slice A0 l0.length c0, .int .i64 a1, .int .i64 a2] w fun e w' => e = .returned (.bool true) ∧ Ext w w' := by
  unfold maxLen at hm0
  by_cases hsz0 : bulkB l0 ≤ 1048576
  case neg =>
    go_enter Try.func13, Try.ntmps13
    go_wp2_with fail
    refine (szBoxS_any A0 c0 l0 _ _ _ _ (by omega) hq0 (by omega) (by omega) hr0).mono ?_
    rintro e wS0 ⟨rfl, hES0⟩
    rw [szB_no (by omega)]
    go_wp2_with fail
    go_ret
    exact ⟨rfl, (by repeat (first | exact Ext.refl _ | assumption | refine Ext.trans ?_ (Ext.alloc _ _) | refine Ext.trans ?_ (Ext.drew _) | refine Ext.trans ?_ (Ext.drewN _ _) | refine Ext.trans ?_ (by assumption)))⟩
  have hn0 : l0.length ≤ 1048576 := by unfold bulkB at hsz0; omega
  have hb0 : ∀ m ∈ l0, m.code.size ≤ 1048577 := fun m hm => by have := recB_le hm; unfold bulkB at hsz0; omega
  have hlim : (sbP l0 a1 a2).1.length ≤ 4000000 := sbP_len _ _ _
  go_enter Try.func13, Try.ntmps13
  have hE : Ext w w := Ext.refl _
  go_wp2_with fail
  refine (szBoxS_any A0 c0 l0 _ _ _ _ (by omega) hq0 (by omega) (by omega) hr0).mono ?_
  rintro e wS0 ⟨rfl, hES0⟩
  rw [szB_yes (by omega)]
  go_wp2_with fail
  have hES : Ext w wS0 := (by repeat (first | exact Ext.refl _ | assumption | refine Ext.trans ?_ (Ext.alloc _ _) | refine Ext.trans ?_ (Ext.drew _) | refine Ext.trans ?_ (Ext.drewN _ _) | refine Ext.trans ?_ (by assumption)))
  have zS := hES.size
  replace hr0 := hr0.ext hES
  replace hE := hES
  clear hES
  refine (toBoxS_any A0 c0 l0 _ _ _ (by omega) hr0).mono ?_
  rintro e w1 ⟨gs0, rfl, hXs0, hE1⟩
  have z1 := hE1.size
  replace hr0 := hr0.ext hE1
  replace hE := hE.trans hE1
  go_wp2_with fail
  refine (spec_SwapBoxes _ _ l0 a1 a2 _ _ _ (by omega) hb0 (Nat.le_refl _) hXs0).mono ?_
  rintro e w2 ⟨AS, cS, rfl, hcS, hRS, hE2⟩
  have z2 := hE2.size
  replace hr0 := hr0.ext hE2
  replace hXs0 := hXs0.ext hE2
  replace hE := hE.trans hE2
  go_wp2_with fail
  refine (toBoxS_any A0 c0 l0 _ _ _ (by omega) hr0).mono ?_
  rintro e w3 ⟨gx0, rfl, hXx0, hE3⟩
  have z3 := hE3.size
  replace hr0 := hr0.ext hE3
  replace hRS := hRS.ext hE3
  replace hE := hE.trans hE3
  go_wp2_with fail
  refine (impl_SwapBoxes _ _ l0 a1 a2 _ _ _ (by omega) hb0 (Nat.le_refl _) hXx0).mono ?_
  rintro e w4 ⟨AG, cG, rfl, hcG, hRG, hE4⟩
  have z4 := hE4.size
  replace hr0 := hr0.ext hE4
  replace hRS := hRS.ext hE4
  replace hXx0 := hXx0.ext hE4
  replace hE := hE.trans hE4
  go_wp2_with fail
  refine (eqBoxS_same _ _ _ _ (sbP l0 a1 a2).1 _ _ _ _ _ (by omega) hRG hRS).mono ?_
  rintro e w5 ⟨rfl, hE5⟩
  have z5 := hE5.size
  replace hr0 := hr0.ext hE5
  replace hRS := hRS.ext hE5
  replace hXx0 := hXx0.ext hE5
  replace hRG := hRG.ext hE5
  replace hE := hE.trans hE5
  go_wp2_with fail
  refine (toBoxS_any A0 c0 l0 _ _ _ (by omega) hr0).mono ?_
  rintro e w6 ⟨gy0, rfl, hXy0, hE6⟩
  have z6 := hE6.size
  replace hr0 := hr0.ext hE6
  replace hRS := hRS.ext hE6
  replace hXx0 := hXx0.ext hE6
  replace hRG := hRG.ext hE6
  replace hE := hE.trans hE6
  go_wp2_with fail
  refine (eqBoxS_same _ _ _ _ l0 _ _ _ _ _ (by omega) hXx0 hXy0).mono ?_
  rintro e w7 ⟨rfl, hE7⟩
  have z7 := hE7.size
  replace hr0 := hr0.ext hE7
  replace hRS := hRS.ext hE7
  replace hXx0 := hXx0.ext hE7
  replace hRG := hRG.ext hE7
  replace hE := hE.trans hE7
  go_wp2_with fail
  refine (markBoxS_any _ _ l0.length (l0.flatMap Bx.enc) _ _ _ _ (lenB l0) (by omega) (by omega) (by omega) hXx0).mono ?_
  rintro e w8 ⟨rfl, hMx0, hO8⟩
  have z8 := hO8.size
  replace hr0 := hr0.out hO8 (by omega)
  replace hRS := hRS.out hO8 (by omega)
  replace hRG := hRG.out hO8 (by omega)
  replace hE := hO8.ext hE (by omega)
  go_wp2_with fail
  refine (eqBoxS_same _ _ _ _ (sbP l0 a1 a2).1 _ _ _ _ _ (by omega) hRG hRS).mono ?_
  rintro e w9 ⟨rfl, hE9⟩
  have z9 := hE9.size
  replace hr0 := hr0.ext hE9
  replace hRS := hRS.ext hE9
  replace hRG := hRG.ext hE9
  replace hE := hE.trans hE9
  go_wp2_with fail
  refine (markBoxS_any _ _ _ ((sbP l0 a1 a2).1.flatMap Bx.enc) 1 _ _ _ (lenB (sbP l0 a1 a2).1) (by omega) (by omega) (by omega) hRG).mono ?_
  rintro e w10 ⟨rfl, hMG, hO10⟩
  have z10 := hO10.size
  replace hr0 := hr0.out hO10 (by omega)
  replace hRS := hRS.out hO10 (by omega)
  replace hE := hO10.ext hE (by omega)
  go_wp2_with fail
  refine (heldBoxS_any _ _ _ 1 _ _ _ (by omega) (by omega) (by omega) hMG).mono ?_
  rintro e w11 ⟨rfl, hE11⟩
  have z11 := hE11.size
  replace hr0 := hr0.ext hE11
  replace hRS := hRS.ext hE11
  replace hMG := hMG.ext hE11
  replace hE := hE.trans hE11
  go_wp2_with fail
  refine (toBoxS_any A0 c0 l0 _ _ _ (by omega) hr0).mono ?_
  rintro e w12 ⟨gt0, rfl, hXt0, hE12⟩
  have z12 := hE12.size
  replace hr0 := hr0.ext hE12
  replace hRS := hRS.ext hE12
  replace hMG := hMG.ext hE12
  replace hE := hE.trans hE12
  go_wp2_with fail
  refine (impl_SwapBoxes _ _ l0 a1 a2 _ _ _ (by omega) hb0 (Nat.le_refl _) hXt0).mono ?_
  rintro e w13 ⟨AH, cH, rfl, hcH, hRH, hE13⟩
  have z13 := hE13.size
  replace hr0 := hr0.ext hE13
  replace hRS := hRS.ext hE13
  replace hMG := hMG.ext hE13
  replace hXt0 := hXt0.ext hE13
  replace hE := hE.trans hE13
  go_wp2_with fail
  refine (eqBoxS_same _ _ _ _ (sbP l0 a1 a2).1 _ _ _ _ _ (by omega) hRH hRS).mono ?_
  rintro e w14 ⟨rfl, hE14⟩
  have z14 := hE14.size
  replace hr0 := hr0.ext hE14
  replace hRS := hRS.ext hE14
  replace hMG := hMG.ext hE14
  replace hRH := hRH.ext hE14
  replace hE := hE.trans hE14
  go_wp2_with fail
  refine (heldBoxS_any _ _ _ 1 _ _ _ (by omega) (by omega) (by omega) hMG).mono ?_
  rintro e w15 ⟨rfl, hE15⟩
  have z15 := hE15.size
  replace hr0 := hr0.ext hE15
  replace hRS := hRS.ext hE15
  replace hMG := hMG.ext hE15
  replace hRH := hRH.ext hE15
  replace hE := hE.trans hE15
  go_wp2_with fail
  go_ret
  exact ⟨rfl, hE⟩
theorem own : ownKnob Try.prog.godebug = none := by kernel_rfl
theorem laidOut : laidOutB Try.prog = true := by kernel_rfl
set_option maxRecDepth 100000 in
theorem lifted (os : Os) (started : os.Started) (H : Type) (enc : TypeId × Value → H) :
    ReturnsInHanded {} Try.checked os 13 .any (Rows.fnExactSwapBoxesSpec.pre6 enc Try.prog Try.f13 Rows.fnExactSwapBoxesRow.domain false) (Rows.fnExactSwapBoxesSpec.post enc Try.prog Try.f13 false true false false) := by
  refine returnsInHanded_of_change (C := Try.checked) own started (by kernel_rfl) Try.func13
    (ChangeSpec.witness6 (enc := enc) (C := Try.checked) false ⟨#[], #[.slice none 0 0, .int .i64 0, .int .i64 0], []⟩ 8 (by kernel_rfl) (by kernel_rfl) (by kernel_rfl) (by kernel_rfl)) ?_
  intro W base args ds gs before hval0 hW hcnd _
  have hval : ∀ (j : Nat) t v, Try.f13.params[j]? = some t → args[j]? = some v → Value.okWide Try.prog W .any base t v := hval0
  have hW' := hW
  obtain ⟨p, q, hA0, hV, rfl, hfz, hnd⟩ := hW
  have hA : DataW.TrodAll enc Try.prog W 0 (fun _ => true) true Try.f13.params.toList args.toList ds p := hA0
  rw [Try.params13] at hA hval
  obtain ⟨v0, vs0, d0, ds0, p0, q0, hargs, rfl, rfl, h0, r0⟩ := trodAll_cons hA
  obtain ⟨v1, vs1, d1, ds1, p1, q1, rfl, rfl, rfl, h1, r1⟩ := trodAll_cons r0
  obtain ⟨v2, vs2, d2, ds2, p2, q2, rfl, rfl, rfl, h2, r2⟩ := trodAll_cons r1
  obtain ⟨rfl, rfl, rfl⟩ := trodAll_nil r2
  obtain rfl : args = #[v0, v1, v2] := by cases args; simp_all
  obtain ⟨rfl, rfl⟩ := trodVars_none hV
  have k0 := h0
  have lt0 : ∀ x ∈ p0, x.block < W.heap.size := by obtain ⟨m, hm⟩ := k0; exact DataW.trod_lt m _ _ _ hm
  obtain ⟨A0, len0, c0, rfl⟩ := okWide_slice Try.underlying64 (hval 0 64 v0 rfl rfl)
  obtain ⟨l0, rfl, hl0, hm0, hr0, hq0⟩ := open_flat Bx.enc 4 (fun _ => rfl) Try.underlying64 (by kernel_rfl) (fun m => m.code.size ≤ maxLen) (fun n cs y h => by obtain ⟨s, a, b, c, rfl, q⟩ := dec_s3 Try.underlying101 (by kernel_rfl) (by kernel_rfl) Try.underlying9 Try.underlying3 Try.underlying3 Try.underlying3 n cs y h; exact ⟨⟨s, a, b, c⟩, rfl, q⟩) h0
  have k1 := h1
  have lt1 : ∀ x ∈ p1, x.block < W.heap.size := by obtain ⟨m, hm⟩ := k1; exact DataW.trod_lt m _ _ _ hm
  obtain ⟨a1, rfl, rfl, rfl, w1⟩ := open_int Try.underlying3 (hval 1 3 v1 rfl rfl) h1
  have k2 := h2
  have lt2 : ∀ x ∈ p2, x.block < W.heap.size := by obtain ⟨m, hm⟩ := k2; exact DataW.trod_lt m _ _ _ hm
  obtain ⟨a2, rfl, rfl, rfl, w2⟩ := open_int Try.underlying3 (hval 2 3 v2 rfl rfl) h2
  clear hA0 hval0
  refine (walk A0 c0 l0 a1 a2 W hl0 hm0 hr0 hq0 w1 w2).mono fun e W' ⟨he, bel⟩ => ?_
  subst he
  exact ⟨_, rfl, _, _, _, [], _, [], hW', trodAll_mk1 (shut_bool Try.underlying4 _), (trodAll_cons_mk (Below.trod laidOut (by kernel_rfl) (of_decide_eq_true (by kernel_rfl)) k0 bel lt0) (trodAll_cons_mk (Below.trod laidOut (by kernel_rfl) (of_decide_eq_true (by kernel_rfl)) k1 bel lt1) (trodAll_cons_mk (Below.trod laidOut (by kernel_rfl) (of_decide_eq_true (by kernel_rfl)) k2 bel lt2) trodAll_mk0))), rfl, Below.frame bel _, fun h => by cases h⟩

theorem over : Rows.fnExactSwapBoxesRow.holds Try.pinned (OpenSpec.ofChange Rows.fnExactSwapBoxesSpec) :=
  OpenClaim.holds_of_wide 13 Try.f13 rfl rfl rfl rfl rfl rfl rfl ⟨rfl, rfl, rfl, rfl, rfl⟩ rfl rfl rfl rfl rfl (by kernel_rfl) Try.func13 (by kernel_rfl)
    (of_decide_eq_true (by kernel_rfl)) (by unfold Func.isWrapper; first | (rw [if_pos (by decide +kernel)]; kernel_rfl) | (rw [if_neg (by decide +kernel)]; exact ⟨rfl, rfl⟩))
    (fun os started H enc _ => lifted os started H enc)

theorem proved : Rows.FnExactSwapBoxesSaid := over
#print axioms proved

end Go.Proofs.Ytnkkpphjahpadaa.fnExactSwapBoxes
