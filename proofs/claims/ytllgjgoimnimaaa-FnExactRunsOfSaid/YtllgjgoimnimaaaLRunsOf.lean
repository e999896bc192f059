/- Proved here: for every input the law FnExactRunsOf returns true and leaves its arguments as they were. No condition. -/
import Derived.Test.YtllgjgoimnimaaaRows
import Derived.Test.YtllgjgoimnimaaaOpen
import Derived.Test.YtllgjgoimnimaaaCutL
import Derived.Test.YtllgjgoimnimaaaNestM
import Derived.Test.YtllgjgoimnimaaaCutS
namespace Go.Proofs.Ytllgjgoimnimaaa.fnExactRunsOf
open Go.ChangeShapes Go.WideShapes Go.ChangeAt Go.RowKit Go.Deep
set_option linter.unusedVariables false

theorem walk (a0 : Int) (A1 : Option Addr) (c1 : Nat) (l1 : List Cut) (a2 : Int) (w : World) (w0 : (Lit.int .i64 a0).wf = true) (hl1 : l1.length ≤ c1) (hm1 : c1 ≤ maxLen) (hr1 : RdA w 0 w.heap.size A1 (l1.flatMap Cut.enc)) (w2 : (Lit.int .i64 a2).wf = true) :
    Calls Try.prog 13 #[.int .i64 a0, .slice A1 l1.length c1, .int .i64 a2] w fun e w' => e = .returned (.bool true) ∧ Ext w w' := by
  unfold maxLen at hm1
  by_cases hsz1 : l1.length ≤ 1048576
  case neg =>
    go_enter Try.func13, Try.ntmps13
    go_wp2_with (first | (go_at_call 16; refine (szCutInS_big _ _ _ _ _ (by omega) (by omega) (by omega) (by omega)).mono ?_; rintro e w' ⟨rfl, rfl⟩))
    go_ret
    exact ⟨rfl, (by repeat (first | exact Ext.refl _ | assumption | refine Ext.trans ?_ (Ext.alloc _ _) | refine Ext.trans ?_ (Ext.drew _) | refine Ext.trans ?_ (Ext.drewN _ _) | refine Ext.trans ?_ (by assumption)))⟩
  have hlim : bulk (ruP a0 l1 a2).1 ≤ 1048577000 := ruP_lim _ _ _
  have hlim2 : (ruP a0 l1 a2).1.length ≤ 1048577000 := by unfold bulk at hlim; omega
  have hlimR : ∀ l ∈ (ruP a0 l1 a2).1, l.length ≤ 4611686018427387904 := fun l hl => by have := row_le hl; unfold bulk at hlim; omega
  go_enter Try.func13, Try.ntmps13
  have hE : Ext w w := Ext.refl _
  go_wp2_with (first | (go_at_call 16; refine (szCutInS_small _ _ _ _ _ (by omega) (by omega) (by omega)).mono ?_; rintro e w' ⟨rfl, rfl⟩))
  refine (toCutInS_any A1 c1 l1 _ _ _ (by omega) hr1).mono ?_
  rintro e w1 ⟨gs1, rfl, hXs1, hE1⟩
  have z1 := hE1.size
  replace hr1 := hr1.ext hE1
  replace hE := hE.trans hE1
  go_wp2_with fail
  refine (spec_RunsOf a0 _ _ l1 a2 _ _ _ (by omega) (Nat.le_refl _) hXs1).mono ?_
  rintro e w2 ⟨AS, cS, rfl, hcS, hRS, hE2⟩
  have z2 := hE2.size
  replace hr1 := hr1.ext hE2
  replace hXs1 := hXs1.ext hE2
  replace hE := hE.trans hE2
  go_wp2_with fail
  refine (toCutInS_any A1 c1 l1 _ _ _ (by omega) hr1).mono ?_
  rintro e w3 ⟨gx1, rfl, hXx1, hE3⟩
  have z3 := hE3.size
  replace hr1 := hr1.ext hE3
  replace hRS := hRS.ext hE3
  replace hE := hE.trans hE3
  go_wp2_with fail
  refine (impl_RunsOf a0 _ _ l1 a2 _ _ _ (by omega) (Nat.le_refl _) hXx1).mono ?_
  rintro e w4 ⟨AG, cG, rfl, hcG, hRG, hE4⟩
  have z4 := hE4.size
  replace hr1 := hr1.ext hE4
  replace hRS := hRS.ext hE4
  replace hXx1 := hXx1.ext hE4
  replace hE := hE.trans hE4
  go_wp2_with fail
  refine (eqIntSS_same _ _ _ _ (ruP a0 l1 a2).1 _ _ _ _ _ (by omega) hlimR hRG hRS).mono ?_
  rintro e w5 ⟨rfl, hE5⟩
  have z5 := hE5.size
  replace hr1 := hr1.ext hE5
  replace hRS := hRS.ext hE5
  replace hXx1 := hXx1.ext hE5
  replace hRG := hRG.ext hE5
  replace hE := hE.trans hE5
  go_wp2_with fail
  refine (toCutInS_any A1 c1 l1 _ _ _ (by omega) hr1).mono ?_
  rintro e w6 ⟨gy1, rfl, hXy1, hE6⟩
  have z6 := hE6.size
  replace hr1 := hr1.ext hE6
  replace hRS := hRS.ext hE6
  replace hXx1 := hXx1.ext hE6
  replace hRG := hRG.ext hE6
  replace hE := hE.trans hE6
  go_wp2_with fail
  refine (eqCutInS_same _ _ _ _ l1 _ _ _ _ _ (by omega) hXx1 hXy1).mono ?_
  rintro e w7 ⟨rfl, hE7⟩
  have z7 := hE7.size
  replace hr1 := hr1.ext hE7
  replace hRS := hRS.ext hE7
  replace hXx1 := hXx1.ext hE7
  replace hRG := hRG.ext hE7
  replace hE := hE.trans hE7
  go_wp2_with fail
  obtain ⟨xs1, hxs1, hXI1⟩ := hXx1.ints
  refine (markCutInS_any _ _ _ xs1 _ _ _ _ hxs1 (by omega) (by omega) (by omega) hXI1).mono ?_
  rintro e w8 ⟨rfl, hMx1, hO8⟩
  have z8 := hO8.size
  replace hr1 := hr1.out hO8 (by omega)
  replace hRS := hRS.out hO8 (by omega)
  replace hRG := hRG.out hO8 (by omega)
  replace hE := hO8.ext hE (by omega)
  go_wp2_with fail
  refine (eqIntSS_same _ _ _ _ (ruP a0 l1 a2).1 _ _ _ _ _ (by omega) hlimR hRG hRS).mono ?_
  rintro e w9 ⟨rfl, hE9⟩
  have z9 := hE9.size
  replace hr1 := hr1.ext hE9
  replace hRS := hRS.ext hE9
  replace hRG := hRG.ext hE9
  replace hE := hE.trans hE9
  go_wp2_with fail
  refine (markIntSS_any _ _ (ruP a0 l1 a2).1 1 _ _ _ hlim (by omega) (by omega) hRG).mono ?_
  rintro e w10 ⟨rfl, hMG, hO10⟩
  have z10 := hO10.size
  replace hr1 := hr1.out hO10 (by omega)
  replace hRS := hRS.out hO10 (by omega)
  replace hE := hO10.ext hE (by omega)
  go_wp2_with fail
  refine (heldIntSS_any _ _ (ruP a0 l1 a2).1 1 _ _ _ hlim (by omega) (by omega) hMG).mono ?_
  rintro e w' ⟨rfl, rfl⟩
  go_wp2_with fail
  refine (toCutInS_any A1 c1 l1 _ _ _ (by omega) hr1).mono ?_
  rintro e w11 ⟨gt1, rfl, hXt1, hE11⟩
  have z11 := hE11.size
  replace hr1 := hr1.ext hE11
  replace hRS := hRS.ext hE11
  replace hMG := hMG.ext hE11
  replace hE := hE.trans hE11
  go_wp2_with fail
  refine (impl_RunsOf a0 _ _ l1 a2 _ _ _ (by omega) (Nat.le_refl _) hXt1).mono ?_
  rintro e w12 ⟨AH, cH, rfl, hcH, hRH, hE12⟩
  have z12 := hE12.size
  replace hr1 := hr1.ext hE12
  replace hRS := hRS.ext hE12
  replace hMG := hMG.ext hE12
  replace hXt1 := hXt1.ext hE12
  replace hE := hE.trans hE12
  go_wp2_with fail
  refine (eqIntSS_same _ _ _ _ (ruP a0 l1 a2).1 _ _ _ _ _ (by omega) hlimR hRH hRS).mono ?_
  rintro e w13 ⟨rfl, hE13⟩
  have z13 := hE13.size
  replace hr1 := hr1.ext hE13
  replace hRS := hRS.ext hE13
  replace hMG := hMG.ext hE13
  replace hRH := hRH.ext hE13
  replace hE := hE.trans hE13
  go_wp2_with fail
  refine (heldIntSS_any _ _ (ruP a0 l1 a2).1 1 _ _ _ hlim (by omega) (by omega) hMG).mono ?_
  rintro e w' ⟨rfl, rfl⟩
  go_wp2_with fail
  go_ret
  exact ⟨rfl, hE⟩
theorem own : ownKnob Try.prog.godebug = none := by kernel_rfl
theorem laidOut : laidOutB Try.prog = true := by kernel_rfl
set_option maxRecDepth 100000 in
theorem lifted (os : Os) (started : os.Started) (H : Type) (enc : TypeId × Value → H) :
    ReturnsInHanded {} Try.checked os 13 .any (Rows.fnExactRunsOfSpec.pre6 enc Try.prog Try.f13 Rows.fnExactRunsOfRow.domain false) (Rows.fnExactRunsOfSpec.post enc Try.prog Try.f13 false true false false) := by
  refine returnsInHanded_of_change (C := Try.checked) own started (by kernel_rfl) Try.func13
    (ChangeSpec.witness6 (enc := enc) (C := Try.checked) false ⟨#[], #[.int .i64 0, .slice none 0 0, .int .i64 0], []⟩ 8 (by kernel_rfl) (by kernel_rfl) (by kernel_rfl) (by kernel_rfl)) ?_
  intro W base args ds gs before hval0 hW hcnd _
  have hval : ∀ (j : Nat) t v, Try.f13.params[j]? = some t → args[j]? = some v → Value.okWide Try.prog W .any base t v := hval0
  have hW' := hW
  obtain ⟨p, q, hA0, hV, rfl, hfz, hnd⟩ := hW
  have hA : DataW.TrodAll enc Try.prog W 0 (fun _ => true) true Try.f13.params.toList args.toList ds p := hA0
  rw [Try.params13] at hA hval
  obtain ⟨v0, vs0, d0, ds0, p0, q0, hargs, rfl, rfl, h0, r0⟩ := trodAll_cons hA
  obtain ⟨v1, vs1, d1, ds1, p1, q1, rfl, rfl, rfl, h1, r1⟩ := trodAll_cons r0
  obtain ⟨v2, vs2, d2, ds2, p2, q2, rfl, rfl, rfl, h2, r2⟩ := trodAll_cons r1
  obtain ⟨rfl, rfl, rfl⟩ := trodAll_nil r2
  obtain rfl : args = #[v0, v1, v2] := by cases args; simp_all
  obtain ⟨rfl, rfl⟩ := trodVars_none hV
  have k0 := h0
  have lt0 : ∀ x ∈ p0, x.block < W.heap.size := by obtain ⟨m, hm⟩ := k0; exact DataW.trod_lt m _ _ _ hm
  obtain ⟨a0, rfl, rfl, rfl, w0⟩ := open_int Try.underlying3 (hval 0 3 v0 rfl rfl) h0
  have k1 := h1
  have lt1 : ∀ x ∈ p1, x.block < W.heap.size := by obtain ⟨m, hm⟩ := k1; exact DataW.trod_lt m _ _ _ hm
  obtain ⟨A1, len1, c1, rfl⟩ := okWide_slice Try.underlying25 (hval 1 25 v1 rfl rfl)
  obtain ⟨l1, rfl, hl1, hm1, hr1, _⟩ := open_flat Cut.enc 4 (fun _ => rfl) Try.underlying25 (by kernel_rfl) (fun _ => True) (fun n cs y h => by obtain ⟨a, b, c, d, rfl, _⟩ := dec_int4 Try.underlying36 (by kernel_rfl) (by kernel_rfl) Try.underlying3 Try.underlying3 Try.underlying3 Try.underlying3 n cs y h; exact ⟨⟨a, b, c, d⟩, rfl, trivial⟩) h1
  have k2 := h2
  have lt2 : ∀ x ∈ p2, x.block < W.heap.size := by obtain ⟨m, hm⟩ := k2; exact DataW.trod_lt m _ _ _ hm
  obtain ⟨a2, rfl, rfl, rfl, w2⟩ := open_int Try.underlying3 (hval 2 3 v2 rfl rfl) h2
  clear hA0 hval0
  refine (walk a0 A1 c1 l1 a2 W w0 hl1 hm1 hr1 w2).mono fun e W' ⟨he, bel⟩ => ?_
  subst he
  exact ⟨_, rfl, _, _, _, [], _, [], hW', trodAll_mk1 (shut_bool Try.underlying4 _), (trodAll_cons_mk (Below.trod laidOut (by kernel_rfl) (of_decide_eq_true (by kernel_rfl)) k0 bel lt0) (trodAll_cons_mk (Below.trod laidOut (by kernel_rfl) (of_decide_eq_true (by kernel_rfl)) k1 bel lt1) (trodAll_cons_mk (Below.trod laidOut (by kernel_rfl) (of_decide_eq_true (by kernel_rfl)) k2 bel lt2) trodAll_mk0))), rfl, Below.frame bel _, fun h => by cases h⟩

theorem over : Rows.fnExactRunsOfRow.holds Try.pinned (OpenSpec.ofChange Rows.fnExactRunsOfSpec) :=
  OpenClaim.holds_of_wide 13 Try.f13 rfl rfl rfl rfl rfl rfl rfl ⟨rfl, rfl, rfl, rfl, rfl⟩ rfl rfl rfl rfl rfl (by kernel_rfl) Try.func13 (by kernel_rfl)
    (of_decide_eq_true (by kernel_rfl)) (by unfold Func.isWrapper; first | (rw [if_pos (by decide +kernel)]; kernel_rfl) | (rw [if_neg (by decide +kernel)]; exact ⟨rfl, rfl⟩))
    (fun os started H enc _ => lifted os started H enc)

theorem proved : Rows.FnExactRunsOfSaid := over
#print axioms proved

end Go.Proofs.Ytllgjgoimnimaaa.fnExactRunsOf
