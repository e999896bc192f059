/- Proved here: for every input the law FnExactEvenBreaks returns true and leaves its arguments as they were. No condition. -/
import Derived.Test.YtnhddepmhelgiaaRows
import Derived.Test.YtnhddepmhelgiaaOpen
import Derived.Deep.RegionHeld3
import Derived.Test.YtnhddepmhelgiaaNestO
import Derived.Test.YtnhddepmhelgiaaNestM
import Derived.Test.YtnhddepmhelgiaaEvL
namespace Go.Proofs.Ytnhddepmhelgiaa.fnExactEvenBreaks
open Go.ChangeShapes Go.WideShapes Go.ChangeAt Go.RowKit Go.Deep
set_option linter.unusedVariables false

theorem walk (A0 : Option Addr) (c0 : Nat) (l0 : List (List Int)) (a1 : Int) (w : World) (hl0 : l0.length ≤ c0) (hm0 : c0 ≤ maxLen) (hr0 : RdAA w w.heap.size A0 l0) (hq0 : ∀ l ∈ l0, l.length ≤ maxLen ∧ ∀ x ∈ l, InR x) (w1 : (Lit.int .i64 a1).wf = true) :
    Calls Try.prog 6 #[.slice A0 l0.length c0, .int .i64 a1] w fun e w' => e = .returned (.bool true) ∧ Ext w w' := by
  unfold maxLen at hm0
  unfold maxLen at hq0
  by_cases hsz0 : bulk l0 ≤ 1048576
  case neg =>
    go_enter Try.func6, Try.ntmps6
    go_wp2_with (first | (go_at_call 15; refine (szIntSS_any A0 c0 l0 _ _ _ (by omega) (fun l hl => (hq0 l hl).1) (by omega) (by omega) hr0).mono ?_; rintro e w_ ⟨rfl, rfl⟩; rw [szR_no (by omega)]))
    go_ret
    exact ⟨rfl, (by repeat (first | exact Ext.refl _ | assumption | refine Ext.trans ?_ (Ext.alloc _ _) | refine Ext.trans ?_ (Ext.drew _) | refine Ext.trans ?_ (Ext.drewN _ _) | refine Ext.trans ?_ (by assumption)))⟩
  have hn0 : l0.length ≤ 1048576 := by unfold bulk at hsz0; omega
  have hb0 : ∀ l ∈ l0, l.length ≤ 1048577 := fun l hl => by have := row_le hl; unfold bulk at hsz0; omega
  have hlim : (evP l0 a1).1.length ≤ 4000000 := evP_len _ _
  go_enter Try.func6, Try.ntmps6
  have hE : Ext w w := Ext.refl _
  go_wp2_with (first | (go_at_call 15; refine (szIntSS_any A0 c0 l0 _ _ _ (by omega) (fun l hl => (hq0 l hl).1) (by omega) (by omega) hr0).mono ?_; rintro e w_ ⟨rfl, rfl⟩; rw [szR_yes (by omega)]))
  refine (toIntSS_any A0 c0 l0 _ _ (by omega) hb0 hr0).mono ?_
  rintro e w1 ⟨gs0, rfl, hXs0, hE1⟩
  have z1 := hE1.size
  replace hr0 := hr0.ext hE1
  replace hE := hE.trans hE1
  go_wp2_with fail
  refine (spec_EvenBreaks _ _ l0 a1 _ _ _ (by omega) hb0 hXs0).mono ?_
  rintro e w2 ⟨AS, cS, rfl, hcS, hRS, hE2⟩
  have z2 := hE2.size
  replace hr0 := hr0.ext hE2
  replace hXs0 := hXs0.ext hE2
  replace hE := hE.trans hE2
  go_wp2_with fail
  refine (toIntSS_any A0 c0 l0 _ _ (by omega) hb0 hr0).mono ?_
  rintro e w3 ⟨gx0, rfl, hXx0, hE3⟩
  have z3 := hE3.size
  replace hr0 := hr0.ext hE3
  replace hRS := hRS.ext hE3
  replace hE := hE.trans hE3
  go_wp2_with fail
  refine (impl_EvenBreaks _ _ l0 a1 _ _ _ (by omega) hb0 hXx0).mono ?_
  rintro e w4 ⟨AG, cG, rfl, hcG, hRG, hE4⟩
  have z4 := hE4.size
  replace hr0 := hr0.ext hE4
  replace hRS := hRS.ext hE4
  replace hXx0 := hXx0.ext hE4
  replace hE := hE.trans hE4
  go_wp2_with fail
  refine (eqIntS_same _ _ _ _ (evP l0 a1).1 _ _ _ _ _ (by omega) hRG hRS).mono ?_
  rintro e w5 ⟨rfl, hE5⟩
  have z5 := hE5.size
  replace hr0 := hr0.ext hE5
  replace hRS := hRS.ext hE5
  replace hXx0 := hXx0.ext hE5
  replace hRG := hRG.ext hE5
  replace hE := hE.trans hE5
  go_wp2_with fail
  refine (toIntSS_any A0 c0 l0 _ _ (by omega) hb0 hr0).mono ?_
  rintro e w6 ⟨gy0, rfl, hXy0, hE6⟩
  have z6 := hE6.size
  replace hr0 := hr0.ext hE6
  replace hRS := hRS.ext hE6
  replace hXx0 := hXx0.ext hE6
  replace hRG := hRG.ext hE6
  replace hE := hE.trans hE6
  go_wp2_with fail
  refine (eqIntSS_same _ _ _ _ l0 _ _ _ _ _ (by omega) (fun l hl => by have := hb0 l hl; omega) hXx0 hXy0).mono ?_
  rintro e w7 ⟨rfl, hE7⟩
  have z7 := hE7.size
  replace hr0 := hr0.ext hE7
  replace hRS := hRS.ext hE7
  replace hXx0 := hXx0.ext hE7
  replace hRG := hRG.ext hE7
  replace hE := hE.trans hE7
  go_wp2_with fail
  refine (markIntSS_any _ _ l0 _ _ _ _ (by omega) (by omega) (by omega) hXx0).mono ?_
  rintro e w8 ⟨rfl, hMx0, hO8⟩
  have z8 := hO8.size
  replace hr0 := hr0.out hO8 (by omega)
  replace hRS := hRS.out hO8 (by omega)
  replace hRG := hRG.out hO8 (by omega)
  replace hE := hO8.ext hE (by omega)
  go_wp2_with fail
  refine (eqIntS_same _ _ _ _ (evP l0 a1).1 _ _ _ _ _ (by omega) hRG hRS).mono ?_
  rintro e w9 ⟨rfl, hE9⟩
  have z9 := hE9.size
  replace hr0 := hr0.ext hE9
  replace hRS := hRS.ext hE9
  replace hRG := hRG.ext hE9
  replace hE := hE.trans hE9
  go_wp2_with fail
  refine (markIntS_any _ _ (evP l0 a1).1 1 _ _ _ (by omega) (by omega) (by omega) hRG).mono ?_
  rintro e w10 ⟨rfl, hMG, hO10⟩
  have z10 := hO10.size
  replace hr0 := hr0.out hO10 (by omega)
  replace hRS := hRS.out hO10 (by omega)
  replace hE := hO10.ext hE (by omega)
  go_wp2_with fail
  refine (heldIntS_any _ _ _ 1 _ _ _ (by omega) (by omega) (by omega) hMG).mono ?_
  rintro e w' ⟨rfl, rfl⟩
  go_wp2_with fail
  refine (toIntSS_any A0 c0 l0 _ _ (by omega) hb0 hr0).mono ?_
  rintro e w11 ⟨gt0, rfl, hXt0, hE11⟩
  have z11 := hE11.size
  replace hr0 := hr0.ext hE11
  replace hRS := hRS.ext hE11
  replace hMG := hMG.ext hE11
  replace hE := hE.trans hE11
  go_wp2_with fail
  refine (impl_EvenBreaks _ _ l0 a1 _ _ _ (by omega) hb0 hXt0).mono ?_
  rintro e w12 ⟨AH, cH, rfl, hcH, hRH, hE12⟩
  have z12 := hE12.size
  replace hr0 := hr0.ext hE12
  replace hRS := hRS.ext hE12
  replace hMG := hMG.ext hE12
  replace hXt0 := hXt0.ext hE12
  replace hE := hE.trans hE12
  go_wp2_with fail
  refine (eqIntS_same _ _ _ _ (evP l0 a1).1 _ _ _ _ _ (by omega) hRH hRS).mono ?_
  rintro e w13 ⟨rfl, hE13⟩
  have z13 := hE13.size
  replace hr0 := hr0.ext hE13
  replace hRS := hRS.ext hE13
  replace hMG := hMG.ext hE13
  replace hRH := hRH.ext hE13
  replace hE := hE.trans hE13
  go_wp2_with fail
  refine (heldIntS_any _ _ _ 1 _ _ _ (by omega) (by omega) (by omega) hMG).mono ?_
  rintro e w' ⟨rfl, rfl⟩
  go_wp2_with fail
  go_ret
  exact ⟨rfl, hE⟩
theorem own : ownKnob Try.prog.godebug = none := by kernel_rfl
theorem laidOut : laidOutB Try.prog = true := by kernel_rfl
set_option maxRecDepth 100000 in
theorem lifted (os : Os) (started : os.Started) (H : Type) (enc : TypeId × Value → H) :
    ReturnsInHanded {} Try.checked os 6 .any (Rows.fnExactEvenBreaksSpec.pre6 enc Try.prog Try.f6 Rows.fnExactEvenBreaksRow.domain false) (Rows.fnExactEvenBreaksSpec.post enc Try.prog Try.f6 false true false false) := by
  refine returnsInHanded_of_change (C := Try.checked) own started (by kernel_rfl) Try.func6
    (ChangeSpec.witness6 (enc := enc) (C := Try.checked) false ⟨#[], #[.slice none 0 0, .int .i64 0], []⟩ 8 (by kernel_rfl) (by kernel_rfl) (by kernel_rfl) (by kernel_rfl)) ?_
  intro W base args ds gs before hval0 hW hcnd _
  have hval : ∀ (j : Nat) t v, Try.f6.params[j]? = some t → args[j]? = some v → Value.okWide Try.prog W .any base t v := hval0
  have hW' := hW
  obtain ⟨p, q, hA0, hV, rfl, hfz, hnd⟩ := hW
  have hA : DataW.TrodAll enc Try.prog W 0 (fun _ => true) true Try.f6.params.toList args.toList ds p := hA0
  rw [Try.params6] at hA hval
  obtain ⟨v0, vs0, d0, ds0, p0, q0, hargs, rfl, rfl, h0, r0⟩ := trodAll_cons hA
  obtain ⟨v1, vs1, d1, ds1, p1, q1, rfl, rfl, rfl, h1, r1⟩ := trodAll_cons r0
  obtain ⟨rfl, rfl, rfl⟩ := trodAll_nil r1
  obtain rfl : args = #[v0, v1] := by cases args; simp_all
  obtain ⟨rfl, rfl⟩ := trodVars_none hV
  have k0 := h0
  have lt0 : ∀ x ∈ p0, x.block < W.heap.size := by obtain ⟨m, hm⟩ := k0; exact DataW.trod_lt m _ _ _ hm
  obtain ⟨A0, len0, c0, rfl⟩ := okWide_slice Try.underlying22 (hval 0 22 v0 rfl rfl)
  obtain ⟨l0, rfl, hl0, hm0, hr0, hq0⟩ := open_rows Try.underlying22 Try.underlying29 Try.underlying3 (by kernel_rfl) (by kernel_rfl) h0
  have k1 := h1
  have lt1 : ∀ x ∈ p1, x.block < W.heap.size := by obtain ⟨m, hm⟩ := k1; exact DataW.trod_lt m _ _ _ hm
  obtain ⟨a1, rfl, rfl, rfl, w1⟩ := open_int Try.underlying3 (hval 1 3 v1 rfl rfl) h1
  clear hA0 hval0
  refine (walk A0 c0 l0 a1 W hl0 hm0 hr0 hq0 w1).mono fun e W' ⟨he, bel⟩ => ?_
  subst he
  exact ⟨_, rfl, _, _, _, [], _, [], hW', trodAll_mk1 (shut_bool Try.underlying4 _), (trodAll_cons_mk (Below.trod laidOut (by kernel_rfl) (of_decide_eq_true (by kernel_rfl)) k0 bel lt0) (trodAll_cons_mk (Below.trod laidOut (by kernel_rfl) (of_decide_eq_true (by kernel_rfl)) k1 bel lt1) trodAll_mk0)), rfl, Below.frame bel _, fun h => by cases h⟩

theorem over : Rows.fnExactEvenBreaksRow.holds Try.pinned (OpenSpec.ofChange Rows.fnExactEvenBreaksSpec) :=
  OpenClaim.holds_of_wide 6 Try.f6 rfl rfl rfl rfl rfl rfl rfl ⟨rfl, rfl, rfl, rfl, rfl⟩ rfl rfl rfl rfl rfl (by kernel_rfl) Try.func6 (by kernel_rfl)
    (of_decide_eq_true (by kernel_rfl)) (by unfold Func.isWrapper; first | (rw [if_pos (by decide +kernel)]; kernel_rfl) | (rw [if_neg (by decide +kernel)]; exact ⟨rfl, rfl⟩))
    (fun os started H enc _ => lifted os started H enc)

theorem proved : Rows.FnExactEvenBreaksSaid := over
#print axioms proved

end Go.Proofs.Ytnhddepmhelgiaa.fnExactEvenBreaks
