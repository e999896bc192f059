/- Proved here: for every input the law FnExactMarksBetween returns true and leaves its arguments as they were. No condition. -/
import Derived.Test.YtclcclhdmciggaaRows
import Derived.Test.YtclcclhdmciggaaOpen
import Derived.Deep.RegionHeld3
import Derived.Test.YtclcclhdmciggaaStrO
import Derived.Test.YtclcclhdmciggaaMksM
import Derived.Test.YtclcclhdmciggaaMbW
namespace Go.Proofs.Ytclcclhdmciggaa.fnExactMarksBetween
open Go.ChangeShapes Go.WideShapes Go.ChangeAt Go.RowKit Go.Deep
set_option linter.unusedVariables false

theorem walk (s0 : ByteArray) (s1 : ByteArray) (w : World) (hs0 : s0.size ≤ maxLen) (hs1 : s1.size ≤ maxLen) :
    Calls Try.prog 7 #[.string s0, .string s1] w fun e w' => e = .returned (.bool true) ∧ Ext w w' := by
  unfold maxLen at hs0
  by_cases hsz0 : s0.size ≤ 1048576
  case neg =>
    go_enter Try.func7, Try.ntmps7
    go_wp2_with fail
    go_ret
    exact ⟨rfl, (by repeat (first | exact Ext.refl _ | assumption | refine Ext.trans ?_ (Ext.alloc _ _) | refine Ext.trans ?_ (Ext.drew _) | refine Ext.trans ?_ (Ext.drewN _ _) | refine Ext.trans ?_ (by assumption)))⟩
  unfold maxLen at hs1
  by_cases hsz1 : s1.size ≤ 1048576
  case neg =>
    go_enter Try.func7, Try.ntmps7
    go_wp2_with fail
    go_ret
    exact ⟨rfl, (by repeat (first | exact Ext.refl _ | assumption | refine Ext.trans ?_ (Ext.alloc _ _) | refine Ext.trans ?_ (Ext.drew _) | refine Ext.trans ?_ (Ext.drewN _ _) | refine Ext.trans ?_ (by assumption)))⟩
  have hlim : (msP s0 s1).1.length ≤ 4000000 := msP_len _ _
  go_enter Try.func7, Try.ntmps7
  have hE : Ext w w := Ext.refl _
  go_wp2_with fail
  refine (spec_MarksBetween s0 s1 _ (by omega) (by omega)).mono ?_
  rintro e w1 ⟨AS, cS, rfl, hcS, hRS, hE1⟩
  have z1 := hE1.size
  replace hE := hE.trans hE1
  go_wp2_with fail
  refine (impl_MarksBetween s0 s1 _ (by omega) (by omega)).mono ?_
  rintro e w2 ⟨AG, cG, rfl, hcG, hRG, hE2⟩
  have z2 := hE2.size
  replace hRS := hRS.ext hE2
  replace hE := hE.trans hE2
  go_wp2_with fail
  refine (eqMarkS_same _ _ _ _ (msP s0 s1).1 _ _ _ _ _ (by omega) hRG hRS).mono ?_
  rintro e w3 ⟨rfl, hE3⟩
  have z3 := hE3.size
  replace hRS := hRS.ext hE3
  replace hRG := hRG.ext hE3
  replace hE := hE.trans hE3
  go_wp2_with fail
  refine (markMarkS_any _ _ _ ((msP s0 s1).1.flatMap Mrk.enc) 1 _ _ _ (lenM (msP s0 s1).1) (by omega) (by omega) (by omega) hRG).mono ?_
  rintro e w4 ⟨rfl, hMG, hO4⟩
  have z4 := hO4.size
  replace hRS := hRS.out hO4 (by omega)
  replace hE := hO4.ext hE (by omega)
  go_wp2_with fail
  refine (heldMarkS_any _ _ _ 1 _ _ _ (by omega) (by omega) (by omega) hMG).mono ?_
  rintro e w5 ⟨rfl, hE5⟩
  have z5 := hE5.size
  replace hRS := hRS.ext hE5
  replace hMG := hMG.ext hE5
  replace hE := hE.trans hE5
  go_wp2_with fail
  refine (impl_MarksBetween s0 s1 _ (by omega) (by omega)).mono ?_
  rintro e w6 ⟨AH, cH, rfl, hcH, hRH, hE6⟩
  have z6 := hE6.size
  replace hRS := hRS.ext hE6
  replace hMG := hMG.ext hE6
  replace hE := hE.trans hE6
  go_wp2_with fail
  refine (eqMarkS_same _ _ _ _ (msP s0 s1).1 _ _ _ _ _ (by omega) hRH hRS).mono ?_
  rintro e w7 ⟨rfl, hE7⟩
  have z7 := hE7.size
  replace hRS := hRS.ext hE7
  replace hMG := hMG.ext hE7
  replace hRH := hRH.ext hE7
  replace hE := hE.trans hE7
  go_wp2_with fail
  refine (heldMarkS_any _ _ _ 1 _ _ _ (by omega) (by omega) (by omega) hMG).mono ?_
  rintro e w8 ⟨rfl, hE8⟩
  have z8 := hE8.size
  replace hRS := hRS.ext hE8
  replace hMG := hMG.ext hE8
  replace hRH := hRH.ext hE8
  replace hE := hE.trans hE8
  go_wp2_with fail
  go_ret
  exact ⟨rfl, hE⟩
theorem own : ownKnob Try.prog.godebug = none := by kernel_rfl
theorem laidOut : laidOutB Try.prog = true := by kernel_rfl
set_option maxRecDepth 100000 in
theorem lifted (os : Os) (started : os.Started) (H : Type) (enc : TypeId × Value → H) :
    ReturnsInHanded {} Try.checked os 7 .any (Rows.fnExactMarksBetweenSpec.pre6 enc Try.prog Try.f7 Rows.fnExactMarksBetweenRow.domain false) (Rows.fnExactMarksBetweenSpec.post enc Try.prog Try.f7 false true false false) := by
  refine returnsInHanded_of_change (C := Try.checked) own started (by kernel_rfl) Try.func7
    (ChangeSpec.witness6 (enc := enc) (C := Try.checked) false ⟨#[], #[.string ByteArray.empty, .string ByteArray.empty], []⟩ 8 (by kernel_rfl) (by kernel_rfl) (by kernel_rfl) (by kernel_rfl)) ?_
  intro W base args ds gs before hval0 hW hcnd _
  have hval : ∀ (j : Nat) t v, Try.f7.params[j]? = some t → args[j]? = some v → Value.okWide Try.prog W .any base t v := hval0
  have hW' := hW
  obtain ⟨p, q, hA0, hV, rfl, hfz, hnd⟩ := hW
  have hA : DataW.TrodAll enc Try.prog W 0 (fun _ => true) true Try.f7.params.toList args.toList ds p := hA0
  rw [Try.params7] at hA hval
  obtain ⟨v0, vs0, d0, ds0, p0, q0, hargs, rfl, rfl, h0, r0⟩ := trodAll_cons hA
  obtain ⟨v1, vs1, d1, ds1, p1, q1, rfl, rfl, rfl, h1, r1⟩ := trodAll_cons r0
  obtain ⟨rfl, rfl, rfl⟩ := trodAll_nil r1
  obtain rfl : args = #[v0, v1] := by cases args; simp_all
  obtain ⟨rfl, rfl⟩ := trodVars_none hV
  have k0 := h0
  have lt0 : ∀ x ∈ p0, x.block < W.heap.size := by obtain ⟨m, hm⟩ := k0; exact DataW.trod_lt m _ _ _ hm
  obtain ⟨s0, rfl, rfl, rfl, hs0⟩ := Go.ChangeMaps.open_string Try.underlying9 (hval 0 9 v0 rfl rfl) h0
  have k1 := h1
  have lt1 : ∀ x ∈ p1, x.block < W.heap.size := by obtain ⟨m, hm⟩ := k1; exact DataW.trod_lt m _ _ _ hm
  obtain ⟨s1, rfl, rfl, rfl, hs1⟩ := Go.ChangeMaps.open_string Try.underlying9 (hval 1 9 v1 rfl rfl) h1
  clear hA0 hval0
  refine (walk s0 s1 W hs0 hs1).mono fun e W' ⟨he, bel⟩ => ?_
  subst he
  exact ⟨_, rfl, _, _, _, [], _, [], hW', trodAll_mk1 (shut_bool Try.underlying4 _), (trodAll_cons_mk (Below.trod laidOut (by kernel_rfl) (of_decide_eq_true (by kernel_rfl)) k0 bel lt0) (trodAll_cons_mk (Below.trod laidOut (by kernel_rfl) (of_decide_eq_true (by kernel_rfl)) k1 bel lt1) trodAll_mk0)), rfl, Below.frame bel _, fun h => by cases h⟩

theorem over : Rows.fnExactMarksBetweenRow.holds Try.pinned (OpenSpec.ofChange Rows.fnExactMarksBetweenSpec) :=
  OpenClaim.holds_of_wide 7 Try.f7 rfl rfl rfl rfl rfl rfl rfl ⟨rfl, rfl, rfl, rfl, rfl⟩ rfl rfl rfl rfl rfl (by kernel_rfl) Try.func7 (by kernel_rfl)
    (of_decide_eq_true (by kernel_rfl)) (by unfold Func.isWrapper; first | (rw [if_pos (by decide +kernel)]; kernel_rfl) | (rw [if_neg (by decide +kernel)]; exact ⟨rfl, rfl⟩))
    (fun os started H enc _ => lifted os started H enc)

theorem proved : Rows.FnExactMarksBetweenSaid := over
#print axioms proved

end Go.Proofs.Ytclcclhdmciggaa.fnExactMarksBetween
