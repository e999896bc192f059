/- Proved here: for every input the law FnExactAddCutIn returns true and leaves its arguments as they were. No condition. -/
import Derived.Test.YtllgjgoimnimaaaRows
import Derived.Test.YtllgjgoimnimaaaOpen
import Derived.Deep.RegionHeld3
import Derived.Test.YtllgjgoimnimaaaCutE
import Derived.Test.YtllgjgoimnimaaaCutL
namespace Go.Proofs.Ytllgjgoimnimaaa.fnExactAddCutIn
open Go.ChangeShapes Go.WideShapes Go.ChangeAt Go.RowKit Go.Deep
set_option linter.unusedVariables false

theorem walk (a0 : Int) (A1 : Option Addr) (c1 : Nat) (l1 : List Cut) (x2 : Cut) (w : World) (w0 : (Lit.int .i64 a0).wf = true) (hl1 : l1.length ≤ c1) (hm1 : c1 ≤ maxLen) (hr1 : RdA w 0 w.heap.size A1 (l1.flatMap Cut.enc)) :
    Calls Try.prog 9 #[.int .i64 a0, .slice A1 l1.length c1, .agg #[.int .i64 x2.line, .int .i64 x2.lines, .int .i64 x2.wide, .int .i64 x2.side]] w fun e w' => e = .returned (.bool true) ∧ Ext w w' := by
  unfold maxLen at hm1
  by_cases hsz1 : l1.length ≤ 1048576
  case neg =>
    go_enter Try.func9, Try.ntmps9
    go_wp2_with (first | (go_at_call 16; refine (szCutInS_big _ _ _ _ _ (by omega) (by omega) (by omega) (by omega)).mono ?_; rintro e w' ⟨rfl, rfl⟩))
    go_ret
    exact ⟨rfl, (by repeat (first | exact Ext.refl _ | assumption | refine Ext.trans ?_ (Ext.alloc _ _) | refine Ext.trans ?_ (Ext.drew _) | refine Ext.trans ?_ (Ext.drewN _ _) | refine Ext.trans ?_ (by assumption)))⟩
  have hlim : (acP a0 l1 x2).1.length ≤ 4000000 := acP_len (by omega)
  go_enter Try.func9, Try.ntmps9
  have hE : Ext w w := Ext.refl _
  go_wp2_with (first | (go_at_call 16; refine (szCutInS_small _ _ _ _ _ (by omega) (by omega) (by omega)).mono ?_; rintro e w' ⟨rfl, rfl⟩))
  have hEb2 := Ext.alloc w (.cells #[.int .i64 x2.line, .int .i64 x2.lines, .int .i64 x2.wide, .int .i64 x2.side] 36)
  replace hr1 := hr1.ext hEb2
  have hb2_0 := box_new (Ext.refl (World.alloc w (.cells #[.int .i64 x2.line, .int .i64 x2.lines, .int .i64 x2.wide, .int .i64 x2.side] 36))) (j := 0) rfl
  have hb2_1 := box_new (Ext.refl (World.alloc w (.cells #[.int .i64 x2.line, .int .i64 x2.lines, .int .i64 x2.wide, .int .i64 x2.side] 36))) (j := 1) rfl
  have hb2_2 := box_new (Ext.refl (World.alloc w (.cells #[.int .i64 x2.line, .int .i64 x2.lines, .int .i64 x2.wide, .int .i64 x2.side] 36))) (j := 2) rfl
  have hb2_3 := box_new (Ext.refl (World.alloc w (.cells #[.int .i64 x2.line, .int .i64 x2.lines, .int .i64 x2.wide, .int .i64 x2.side] 36))) (j := 3) rfl
  replace hE := hE.trans hEb2
  clear hEb2
  have zb2 : w.heap.size < (World.alloc w (.cells #[.int .i64 x2.line, .int .i64 x2.lines, .int .i64 x2.wide, .int .i64 x2.side] 36)).heap.size := by simp
  generalize World.alloc w (.cells #[.int .i64 x2.line, .int .i64 x2.lines, .int .i64 x2.wide, .int .i64 x2.side] 36) = wb at *
  have ehb2_0 : ∀ w', Ext wb w' → w'.cell? _ = _ := fun _ h => h.cell hb2_0
  have ehb2_1 : ∀ w', Ext wb w' → w'.cell? _ = _ := fun _ h => h.cell hb2_1
  have ehb2_2 : ∀ w', Ext wb w' → w'.cell? _ = _ := fun _ h => h.cell hb2_2
  have ehb2_3 : ∀ w', Ext wb w' → w'.cell? _ = _ := fun _ h => h.cell hb2_3
  go_region_held3 (fun w' => Ext wb w') (exact (by repeat (first | exact Ext.refl _ | assumption | refine Ext.trans ?_ (Ext.alloc _ _) | refine Ext.trans ?_ (Ext.drew _) | refine Ext.trans ?_ (Ext.drewN _ _) | refine Ext.trans ?_ (by assumption)))) (first | (go_at_call 18; refine (toCutInS_any A1 c1 l1 _ _ _ (by omega) (hr1.ext (by repeat (first | exact Ext.refl _ | assumption | refine Ext.trans ?_ (Ext.alloc _ _) | refine Ext.trans ?_ (Ext.drew _) | refine Ext.trans ?_ (Ext.drewN _ _) | refine Ext.trans ?_ (by assumption))))).mono ?_; rintro e w1 ⟨gs1, rfl, hXs1, hE1⟩) | (go_at_call 24; refine (toCutIn_any x2 _).mono ?_; rintro e w2 ⟨rfl, hE2⟩) | (go_at_call 30; refine (spec_AddCutIn a0 _ _ l1 x2 _ _ _ (by omega) (Nat.le_refl _) (by simp) (hXs1.ext (by repeat (first | exact Ext.refl _ | assumption | refine Ext.trans ?_ (Ext.alloc _ _) | refine Ext.trans ?_ (Ext.drew _) | refine Ext.trans ?_ (Ext.drewN _ _) | refine Ext.trans ?_ (by assumption))))).mono ?_; rintro e w3 ⟨AS, cS, rfl, hcS, hRS, hE3⟩))
  have y1 : Ext wb w1 := (by repeat (first | exact Ext.refl _ | assumption | refine Ext.trans ?_ (Ext.alloc _ _) | refine Ext.trans ?_ (Ext.drew _) | refine Ext.trans ?_ (Ext.drewN _ _) | refine Ext.trans ?_ (by assumption)))
  have z1 := y1.size
  have y2 : Ext w1 w2 := (by repeat (first | exact Ext.refl _ | assumption | refine Ext.trans ?_ (Ext.alloc _ _) | refine Ext.trans ?_ (Ext.drew _) | refine Ext.trans ?_ (Ext.drewN _ _) | refine Ext.trans ?_ (by assumption)))
  have z2 := y2.size
  have y3 : Ext w2 w3 := (by repeat (first | exact Ext.refl _ | assumption | refine Ext.trans ?_ (Ext.alloc _ _) | refine Ext.trans ?_ (Ext.drew _) | refine Ext.trans ?_ (Ext.drewN _ _) | refine Ext.trans ?_ (by assumption)))
  have z3 := y3.size
  have y : Ext wb w3 := (by repeat (first | exact Ext.refl _ | assumption | refine Ext.trans ?_ (Ext.alloc _ _) | refine Ext.trans ?_ (Ext.drew _) | refine Ext.trans ?_ (Ext.drewN _ _) | refine Ext.trans ?_ (by assumption)))
  clear ehb2_0
  clear ehb2_1
  clear ehb2_2
  clear ehb2_3
  replace hr1 := hr1.ext y
  replace hb2_0 := y.cell hb2_0
  replace hb2_1 := y.cell hb2_1
  replace hb2_2 := y.cell hb2_2
  replace hb2_3 := y.cell hb2_3
  replace hE := hE.trans y
  clear y
  go_wp2_with fail
  refine (toCutInS_any A1 c1 l1 _ _ _ (by omega) hr1).mono ?_
  rintro e w4 ⟨gx1, rfl, hXx1, hE4⟩
  have z4 := hE4.size
  replace hr1 := hr1.ext hE4
  replace hb2_0 := hE4.cell hb2_0
  replace hb2_1 := hE4.cell hb2_1
  replace hb2_2 := hE4.cell hb2_2
  replace hb2_3 := hE4.cell hb2_3
  replace hRS := hRS.ext hE4
  replace hE := hE.trans hE4
  go_wp2_with fail
  refine (toCutIn_any x2 _).mono ?_
  rintro e w5 ⟨rfl, hE5⟩
  have z5 := hE5.size
  replace hr1 := hr1.ext hE5
  replace hb2_0 := hE5.cell hb2_0
  replace hb2_1 := hE5.cell hb2_1
  replace hb2_2 := hE5.cell hb2_2
  replace hb2_3 := hE5.cell hb2_3
  replace hRS := hRS.ext hE5
  replace hXx1 := hXx1.ext hE5
  replace hE := hE.trans hE5
  go_wp2_with fail
  refine (impl_AddCutIn a0 _ _ l1 x2 _ _ _ (by omega) (Nat.le_refl _) (by simp) hXx1).mono ?_
  rintro e w6 ⟨AG, cG, rfl, hcG, hRG, hE6⟩
  have z6 := hE6.size
  replace hr1 := hr1.ext hE6
  replace hb2_0 := hE6.cell hb2_0
  replace hb2_1 := hE6.cell hb2_1
  replace hb2_2 := hE6.cell hb2_2
  replace hb2_3 := hE6.cell hb2_3
  replace hRS := hRS.ext hE6
  replace hXx1 := hXx1.ext hE6
  replace hE := hE.trans hE6
  go_wp2_with fail
  refine (eqCutInS_same _ _ _ _ (acP a0 l1 x2).1 _ _ _ _ _ (by omega) hRG hRS).mono ?_
  rintro e w7 ⟨rfl, hE7⟩
  have z7 := hE7.size
  replace hr1 := hr1.ext hE7
  replace hb2_0 := hE7.cell hb2_0
  replace hb2_1 := hE7.cell hb2_1
  replace hb2_2 := hE7.cell hb2_2
  replace hb2_3 := hE7.cell hb2_3
  replace hRS := hRS.ext hE7
  replace hXx1 := hXx1.ext hE7
  replace hRG := hRG.ext hE7
  replace hE := hE.trans hE7
  go_wp2_with fail
  refine (toCutInS_any A1 c1 l1 _ _ _ (by omega) hr1).mono ?_
  rintro e w8 ⟨gy1, rfl, hXy1, hE8⟩
  have z8 := hE8.size
  replace hr1 := hr1.ext hE8
  replace hb2_0 := hE8.cell hb2_0
  replace hb2_1 := hE8.cell hb2_1
  replace hb2_2 := hE8.cell hb2_2
  replace hb2_3 := hE8.cell hb2_3
  replace hRS := hRS.ext hE8
  replace hXx1 := hXx1.ext hE8
  replace hRG := hRG.ext hE8
  replace hE := hE.trans hE8
  go_wp2_with fail
  refine (eqCutInS_same _ _ _ _ l1 _ _ _ _ _ (by omega) hXx1 hXy1).mono ?_
  rintro e w9 ⟨rfl, hE9⟩
  have z9 := hE9.size
  replace hr1 := hr1.ext hE9
  replace hb2_0 := hE9.cell hb2_0
  replace hb2_1 := hE9.cell hb2_1
  replace hb2_2 := hE9.cell hb2_2
  replace hb2_3 := hE9.cell hb2_3
  replace hRS := hRS.ext hE9
  replace hXx1 := hXx1.ext hE9
  replace hRG := hRG.ext hE9
  replace hE := hE.trans hE9
  go_wp2_with fail
  obtain ⟨xs1, hxs1, hXI1⟩ := hXx1.ints
  refine (markCutInS_any _ _ _ xs1 _ _ _ _ hxs1 (by omega) (by omega) (by omega) hXI1).mono ?_
  rintro e w10 ⟨rfl, hMx1, hO10⟩
  have z10 := hO10.size
  replace hr1 := hr1.out hO10 (by omega)
  replace hb2_0 := hO10.cell hb2_0 (by simp; omega)
  replace hb2_1 := hO10.cell hb2_1 (by simp; omega)
  replace hb2_2 := hO10.cell hb2_2 (by simp; omega)
  replace hb2_3 := hO10.cell hb2_3 (by simp; omega)
  replace hRS := hRS.out hO10 (by omega)
  replace hRG := hRG.out hO10 (by omega)
  replace hE := hO10.ext hE (by omega)
  go_wp2_with fail
  refine (eqCutInS_same _ _ _ _ (acP a0 l1 x2).1 _ _ _ _ _ (by omega) hRG hRS).mono ?_
  rintro e w11 ⟨rfl, hE11⟩
  have z11 := hE11.size
  replace hr1 := hr1.ext hE11
  replace hb2_0 := hE11.cell hb2_0
  replace hb2_1 := hE11.cell hb2_1
  replace hb2_2 := hE11.cell hb2_2
  replace hb2_3 := hE11.cell hb2_3
  replace hRS := hRS.ext hE11
  replace hRG := hRG.ext hE11
  replace hE := hE.trans hE11
  go_wp2_with fail
  obtain ⟨xsG, hxsG, hRGI⟩ := hRG.ints
  refine (markCutInS_any _ _ _ xsG 1 _ _ _ hxsG (by omega) (by omega) (by omega) hRGI).mono ?_
  rintro e w12 ⟨rfl, hMG, hO12⟩
  have z12 := hO12.size
  replace hr1 := hr1.out hO12 (by omega)
  replace hb2_0 := hO12.cell hb2_0 (by simp; omega)
  replace hb2_1 := hO12.cell hb2_1 (by simp; omega)
  replace hb2_2 := hO12.cell hb2_2 (by simp; omega)
  replace hb2_3 := hO12.cell hb2_3 (by simp; omega)
  replace hRS := hRS.out hO12 (by omega)
  replace hE := hO12.ext hE (by omega)
  go_wp2_with fail
  refine (heldCutInS_any _ _ _ 1 _ _ _ (by omega) (by omega) (by omega) hMG).mono ?_
  rintro e w' ⟨rfl, rfl⟩
  go_wp2_with fail
  have ehb2_0 : ∀ w', Ext w12 w' → w'.cell? _ = _ := fun _ h => h.cell hb2_0
  have ehb2_1 : ∀ w', Ext w12 w' → w'.cell? _ = _ := fun _ h => h.cell hb2_1
  have ehb2_2 : ∀ w', Ext w12 w' → w'.cell? _ = _ := fun _ h => h.cell hb2_2
  have ehb2_3 : ∀ w', Ext w12 w' → w'.cell? _ = _ := fun _ h => h.cell hb2_3
  go_region_held3 (fun w' => Ext w12 w') (exact (by repeat (first | exact Ext.refl _ | assumption | refine Ext.trans ?_ (Ext.alloc _ _) | refine Ext.trans ?_ (Ext.drew _) | refine Ext.trans ?_ (Ext.drewN _ _) | refine Ext.trans ?_ (by assumption)))) (first | (go_at_call 18; refine (toCutInS_any A1 c1 l1 _ _ _ (by omega) (hr1.ext (by repeat (first | exact Ext.refl _ | assumption | refine Ext.trans ?_ (Ext.alloc _ _) | refine Ext.trans ?_ (Ext.drew _) | refine Ext.trans ?_ (Ext.drewN _ _) | refine Ext.trans ?_ (by assumption))))).mono ?_; rintro e w13 ⟨gt1, rfl, hXt1, hE13⟩) | (go_at_call 24; refine (toCutIn_any x2 _).mono ?_; rintro e w14 ⟨rfl, hE14⟩) | (go_at_call 31; refine (impl_AddCutIn a0 _ _ l1 x2 _ _ _ (by omega) (Nat.le_refl _) (by simp) (hXt1.ext (by repeat (first | exact Ext.refl _ | assumption | refine Ext.trans ?_ (Ext.alloc _ _) | refine Ext.trans ?_ (Ext.drew _) | refine Ext.trans ?_ (Ext.drewN _ _) | refine Ext.trans ?_ (by assumption))))).mono ?_; rintro e w15 ⟨AH, cH, rfl, hcH, hRH, hE15⟩))
  have y13 : Ext w12 w13 := (by repeat (first | exact Ext.refl _ | assumption | refine Ext.trans ?_ (Ext.alloc _ _) | refine Ext.trans ?_ (Ext.drew _) | refine Ext.trans ?_ (Ext.drewN _ _) | refine Ext.trans ?_ (by assumption)))
  have z13 := y13.size
  have y14 : Ext w13 w14 := (by repeat (first | exact Ext.refl _ | assumption | refine Ext.trans ?_ (Ext.alloc _ _) | refine Ext.trans ?_ (Ext.drew _) | refine Ext.trans ?_ (Ext.drewN _ _) | refine Ext.trans ?_ (by assumption)))
  have z14 := y14.size
  have y15 : Ext w14 w15 := (by repeat (first | exact Ext.refl _ | assumption | refine Ext.trans ?_ (Ext.alloc _ _) | refine Ext.trans ?_ (Ext.drew _) | refine Ext.trans ?_ (Ext.drewN _ _) | refine Ext.trans ?_ (by assumption)))
  have z15 := y15.size
  have y : Ext w12 w15 := (by repeat (first | exact Ext.refl _ | assumption | refine Ext.trans ?_ (Ext.alloc _ _) | refine Ext.trans ?_ (Ext.drew _) | refine Ext.trans ?_ (Ext.drewN _ _) | refine Ext.trans ?_ (by assumption)))
  clear ehb2_0
  clear ehb2_1
  clear ehb2_2
  clear ehb2_3
  replace hr1 := hr1.ext y
  replace hb2_0 := y.cell hb2_0
  replace hb2_1 := y.cell hb2_1
  replace hb2_2 := y.cell hb2_2
  replace hb2_3 := y.cell hb2_3
  replace hRS := hRS.ext y
  replace hMG := hMG.ext y
  replace hE := hE.trans y
  clear y
  go_wp2_with fail
  refine (eqCutInS_same _ _ _ _ (acP a0 l1 x2).1 _ _ _ _ _ (by omega) hRH hRS).mono ?_
  rintro e w16 ⟨rfl, hE16⟩
  have z16 := hE16.size
  replace hr1 := hr1.ext hE16
  replace hb2_0 := hE16.cell hb2_0
  replace hb2_1 := hE16.cell hb2_1
  replace hb2_2 := hE16.cell hb2_2
  replace hb2_3 := hE16.cell hb2_3
  replace hRS := hRS.ext hE16
  replace hMG := hMG.ext hE16
  replace hRH := hRH.ext hE16
  replace hE := hE.trans hE16
  go_wp2_with fail
  refine (heldCutInS_any _ _ _ 1 _ _ _ (by omega) (by omega) (by omega) hMG).mono ?_
  rintro e w' ⟨rfl, rfl⟩
  go_wp2_with fail
  go_ret
  exact ⟨rfl, hE⟩
theorem own : ownKnob Try.prog.godebug = none := by kernel_rfl
theorem laidOut : laidOutB Try.prog = true := by kernel_rfl
set_option maxRecDepth 100000 in
theorem lifted (os : Os) (started : os.Started) (H : Type) (enc : TypeId × Value → H) :
    ReturnsInHanded {} Try.checked os 9 .any (Rows.fnExactAddCutInSpec.pre6 enc Try.prog Try.f9 Rows.fnExactAddCutInRow.domain false) (Rows.fnExactAddCutInSpec.post enc Try.prog Try.f9 false true false false) := by
  refine returnsInHanded_of_change (C := Try.checked) own started (by kernel_rfl) Try.func9
    (ChangeSpec.witness6 (enc := enc) (C := Try.checked) false ⟨#[], #[.int .i64 0, .slice none 0 0, .agg #[.int .i64 0, .int .i64 0, .int .i64 0, .int .i64 0]], []⟩ 8 (by kernel_rfl) (by kernel_rfl) (by kernel_rfl) (by kernel_rfl)) ?_
  intro W base args ds gs before hval0 hW hcnd _
  have hval : ∀ (j : Nat) t v, Try.f9.params[j]? = some t → args[j]? = some v → Value.okWide Try.prog W .any base t v := hval0
  have hW' := hW
  obtain ⟨p, q, hA0, hV, rfl, hfz, hnd⟩ := hW
  have hA : DataW.TrodAll enc Try.prog W 0 (fun _ => true) true Try.f9.params.toList args.toList ds p := hA0
  rw [Try.params9] at hA hval
  obtain ⟨v0, vs0, d0, ds0, p0, q0, hargs, rfl, rfl, h0, r0⟩ := trodAll_cons hA
  obtain ⟨v1, vs1, d1, ds1, p1, q1, rfl, rfl, rfl, h1, r1⟩ := trodAll_cons r0
  obtain ⟨v2, vs2, d2, ds2, p2, q2, rfl, rfl, rfl, h2, r2⟩ := trodAll_cons r1
  obtain ⟨rfl, rfl, rfl⟩ := trodAll_nil r2
  obtain rfl : args = #[v0, v1, v2] := by cases args; simp_all
  obtain ⟨rfl, rfl⟩ := trodVars_none hV
  have k0 := h0
  have lt0 : ∀ x ∈ p0, x.block < W.heap.size := by obtain ⟨m, hm⟩ := k0; exact DataW.trod_lt m _ _ _ hm
  obtain ⟨a0, rfl, rfl, rfl, w0⟩ := open_int Try.underlying3 (hval 0 3 v0 rfl rfl) h0
  have k1 := h1
  have lt1 : ∀ x ∈ p1, x.block < W.heap.size := by obtain ⟨m, hm⟩ := k1; exact DataW.trod_lt m _ _ _ hm
  obtain ⟨A1, len1, c1, rfl⟩ := okWide_slice Try.underlying25 (hval 1 25 v1 rfl rfl)
  obtain ⟨l1, rfl, hl1, hm1, hr1, _⟩ := open_flat Cut.enc 4 (fun _ => rfl) Try.underlying25 (by kernel_rfl) (fun _ => True) (fun n cs y h => by obtain ⟨a, b, c, d, rfl, _⟩ := dec_int4 Try.underlying36 (by kernel_rfl) (by kernel_rfl) Try.underlying3 Try.underlying3 Try.underlying3 Try.underlying3 n cs y h; exact ⟨⟨a, b, c, d⟩, rfl, trivial⟩) h1
  have k2 := h2
  have lt2 : ∀ x ∈ p2, x.block < W.heap.size := by obtain ⟨m, hm⟩ := k2; exact DataW.trod_lt m _ _ _ hm
  obtain ⟨u2, u2b, u2c, u2d, y2, y2b, y2c, y2d, n2, rfl, rfl, rfl, g2, g2b, g2c, g2d⟩ := Joins.open_agg4 Try.underlying36 (by kernel_rfl) (by kernel_rfl) (hval 2 36 v2 rfl rfl) h2
  obtain ⟨x2, rfl, rfl, rfl, rfl⟩ : ∃ x : Cut, u2 = .int .i64 x.line ∧ u2b = .int .i64 x.lines ∧ u2c = .int .i64 x.wide ∧ u2d = .int .i64 x.side := by
    obtain ⟨a, ea, _⟩ := dec_int Try.underlying3 g2
    obtain ⟨b, eb, _⟩ := dec_int Try.underlying3 g2b
    obtain ⟨c, ec, _⟩ := dec_int Try.underlying3 g2c
    obtain ⟨d, ed, _⟩ := dec_int Try.underlying3 g2d
    exact ⟨⟨a, b, c, d⟩, ea, eb, ec, ed⟩
  clear hA0 hval0
  refine (walk a0 A1 c1 l1 x2 W w0 hl1 hm1 hr1 ).mono fun e W' ⟨he, bel⟩ => ?_
  subst he
  exact ⟨_, rfl, _, _, _, [], _, [], hW', trodAll_mk1 (shut_bool Try.underlying4 _), (trodAll_cons_mk (Below.trod laidOut (by kernel_rfl) (of_decide_eq_true (by kernel_rfl)) k0 bel lt0) (trodAll_cons_mk (Below.trod laidOut (by kernel_rfl) (of_decide_eq_true (by kernel_rfl)) k1 bel lt1) (trodAll_cons_mk (Below.trod laidOut (by kernel_rfl) (of_decide_eq_true (by kernel_rfl)) k2 bel lt2) trodAll_mk0))), rfl, Below.frame bel _, fun h => by cases h⟩

theorem over : Rows.fnExactAddCutInRow.holds Try.pinned (OpenSpec.ofChange Rows.fnExactAddCutInSpec) :=
  OpenClaim.holds_of_wide 9 Try.f9 rfl rfl rfl rfl rfl rfl rfl ⟨rfl, rfl, rfl, rfl, rfl⟩ rfl rfl rfl rfl rfl (by kernel_rfl) Try.func9 (by kernel_rfl)
    (of_decide_eq_true (by kernel_rfl)) (by unfold Func.isWrapper; first | (rw [if_pos (by decide +kernel)]; kernel_rfl) | (rw [if_neg (by decide +kernel)]; exact ⟨rfl, rfl⟩))
    (fun os started H enc _ => lifted os started H enc)

theorem proved : Rows.FnExactAddCutInSaid := over
#print axioms proved

end Go.Proofs.Ytllgjgoimnimaaa.fnExactAddCutIn
