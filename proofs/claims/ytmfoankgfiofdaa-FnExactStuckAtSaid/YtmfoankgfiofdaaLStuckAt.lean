/- Proved here: for every input the law FnExactStuckAt returns true and leaves its arguments as they were. No condition. -/
import Derived.Test.YtmfoankgfiofdaaRows
import Derived.Test.YtmfoankgfiofdaaOpen
import Derived.Deep.RegionHeld3
import Derived.Test.YtmfoankgfiofdaaPbR
import Derived.Test.YtmfoankgfiofdaaPbU
namespace Go.Proofs.Ytmfoankgfiofdaa.fnExactStuckAt
open Go.ChangeShapes Go.WideShapes Go.ChangeAt Go.RowKit Go.Deep
set_option linter.unusedVariables false

theorem walk (A0 : Option Addr) (c0 : Nat) (l0 : List Int) (x1 : Rul) (a2 : Int) (w : World) (hl0 : l0.length ≤ c0) (hm0 : c0 ≤ maxLen) (hr0 : RdA w 0 w.heap.size A0 (l0.map (Value.int .i64))) (hq0 : ∀ x ∈ l0, InR x) (w2 : (Lit.int .i64 a2).wf = true) :
    Calls Try.prog 10 #[.slice A0 l0.length c0, .agg #[.int .i64 x1.least, .int .i64 x1.normal, .int .i64 x1.most], .int .i64 a2] w fun e w' => e = .returned (.bool true) ∧ Ext w w' := by
  unfold maxLen at hm0
  obtain ⟨vx, vz, hv⟩ := stV_form l0 x1 a2; have HV := Lib.hid hv; clear hv
  by_cases hsz0 : l0.length ≤ 1048576
  case neg =>
    go_enter Try.func10, Try.ntmps10
    go_wp2_with fail
    go_ret
    exact ⟨rfl, (by repeat (first | exact Ext.refl _ | assumption | refine Ext.trans ?_ (Ext.alloc _ _) | refine Ext.trans ?_ (Ext.drew _) | refine Ext.trans ?_ (Ext.drewN _ _) | refine Ext.trans ?_ (by assumption)))⟩
  go_enter Try.func10, Try.ntmps10
  have hE : Ext w w := Ext.refl _
  go_wp2_with fail
  have hEb1 := Ext.alloc w (.cells #[.int .i64 x1.least, .int .i64 x1.normal, .int .i64 x1.most] 24)
  replace hr0 := hr0.ext hEb1
  have hb1_0 := box_new (Ext.refl (World.alloc w (.cells #[.int .i64 x1.least, .int .i64 x1.normal, .int .i64 x1.most] 24))) (j := 0) rfl
  have hb1_1 := box_new (Ext.refl (World.alloc w (.cells #[.int .i64 x1.least, .int .i64 x1.normal, .int .i64 x1.most] 24))) (j := 1) rfl
  have hb1_2 := box_new (Ext.refl (World.alloc w (.cells #[.int .i64 x1.least, .int .i64 x1.normal, .int .i64 x1.most] 24))) (j := 2) rfl
  replace hE := hE.trans hEb1
  clear hEb1
  have zb1 : w.heap.size < (World.alloc w (.cells #[.int .i64 x1.least, .int .i64 x1.normal, .int .i64 x1.most] 24)).heap.size := by simp
  generalize World.alloc w (.cells #[.int .i64 x1.least, .int .i64 x1.normal, .int .i64 x1.most] 24) = wb at *
  have ehb1_0 : ∀ w', Ext wb w' → w'.cell? _ = _ := fun _ h => h.cell hb1_0
  have ehb1_1 : ∀ w', Ext wb w' → w'.cell? _ = _ := fun _ h => h.cell hb1_1
  have ehb1_2 : ∀ w', Ext wb w' → w'.cell? _ = _ := fun _ h => h.cell hb1_2
  go_region_held3 (fun w' => Ext wb w') (exact (by repeat (first | exact Ext.refl _ | assumption | refine Ext.trans ?_ (Ext.alloc _ _) | refine Ext.trans ?_ (Ext.drew _) | refine Ext.trans ?_ (Ext.drewN _ _) | refine Ext.trans ?_ (by assumption)))) (first | (go_at_call 12; with_reducible refine (toIntS_any A0 c0 l0 _ _ _ (by omega) (hr0.ext (by repeat (first | exact Ext.refl _ | assumption | refine Ext.trans ?_ (Ext.alloc _ _) | refine Ext.trans ?_ (Ext.drew _) | refine Ext.trans ?_ (Ext.drewN _ _) | refine Ext.trans ?_ (by assumption))))).mono ?_; rintro e w1 ⟨gs0, rfl, hXs0, hE1⟩) | (go_at_call 13; refine (toRule_any x1 _).mono ?_; rintro e w2 ⟨rfl, hE2⟩) | (go_at_call 33; refine (spec_StuckAt _ _ l0 x1 a2 _ _ _ (by omega) (Nat.le_refl _) (hXs0.ext (by first | exact hE2 | exact (by repeat (first | exact Ext.refl _ | assumption | refine Ext.trans ?_ (Ext.alloc _ _) | refine Ext.trans ?_ (Ext.drew _) | refine Ext.trans ?_ (Ext.drewN _ _) | refine Ext.trans ?_ (by assumption)))))).mono ?_; rintro e w3 ⟨rfl, hE3⟩; rw [HV.out]))
  have y1 : Ext wb w1 := (by repeat (first | exact Ext.refl _ | assumption | refine Ext.trans ?_ (Ext.alloc _ _) | refine Ext.trans ?_ (Ext.drew _) | refine Ext.trans ?_ (Ext.drewN _ _) | refine Ext.trans ?_ (by assumption)))
  have z1 := y1.size
  have y2 : Ext w1 w2 := (by repeat (first | exact Ext.refl _ | assumption | refine Ext.trans ?_ (Ext.alloc _ _) | refine Ext.trans ?_ (Ext.drew _) | refine Ext.trans ?_ (Ext.drewN _ _) | refine Ext.trans ?_ (by assumption)))
  have z2 := y2.size
  have y3 : Ext w2 w3 := (by repeat (first | exact Ext.refl _ | assumption | refine Ext.trans ?_ (Ext.alloc _ _) | refine Ext.trans ?_ (Ext.drew _) | refine Ext.trans ?_ (Ext.drewN _ _) | refine Ext.trans ?_ (by assumption)))
  have z3 := y3.size
  have y : Ext wb w3 := (by repeat (first | exact Ext.refl _ | assumption | refine Ext.trans ?_ (Ext.alloc _ _) | refine Ext.trans ?_ (Ext.drew _) | refine Ext.trans ?_ (Ext.drewN _ _) | refine Ext.trans ?_ (by assumption)))
  clear ehb1_0
  clear ehb1_1
  clear ehb1_2
  replace hr0 := hr0.ext y
  replace hb1_0 := y.cell hb1_0
  replace hb1_1 := y.cell hb1_1
  replace hb1_2 := y.cell hb1_2
  replace hE := hE.trans y
  clear y
  go_wp2_with fail
  refine (toIntS_any A0 c0 l0 _ _ _ (by omega) hr0).mono ?_
  rintro e w4 ⟨gx0, rfl, hXx0, hE4⟩
  have z4 := hE4.size
  replace hr0 := hr0.ext hE4
  replace hb1_0 := hE4.cell hb1_0
  replace hb1_1 := hE4.cell hb1_1
  replace hb1_2 := hE4.cell hb1_2
  replace hE := hE.trans hE4
  go_wp2_with fail
  refine (toRule_any x1 _).mono ?_
  rintro e w5 ⟨rfl, hE5⟩
  have z5 := hE5.size
  replace hr0 := hr0.ext hE5
  replace hb1_0 := hE5.cell hb1_0
  replace hb1_1 := hE5.cell hb1_1
  replace hb1_2 := hE5.cell hb1_2
  replace hXx0 := hXx0.ext hE5
  replace hE := hE.trans hE5
  go_wp2_with fail
  refine (impl_StuckAt _ _ l0 x1 a2 _ _ _ (by omega) (Nat.le_refl _) hXx0).mono ?_
  rintro e w6 ⟨rfl, hE6⟩
  have z6 := hE6.size
  replace hr0 := hr0.ext hE6
  replace hb1_0 := hE6.cell hb1_0
  replace hb1_1 := hE6.cell hb1_1
  replace hb1_2 := hE6.cell hb1_2
  replace hXx0 := hXx0.ext hE6
  replace hE := hE.trans hE6
  rw [HV.out]
  go_wp2_with fail
  refine (toIntS_any A0 c0 l0 _ _ _ (by omega) hr0).mono ?_
  rintro e w7 ⟨gy0, rfl, hXy0, hE7⟩
  have z7 := hE7.size
  replace hr0 := hr0.ext hE7
  replace hb1_0 := hE7.cell hb1_0
  replace hb1_1 := hE7.cell hb1_1
  replace hb1_2 := hE7.cell hb1_2
  replace hXx0 := hXx0.ext hE7
  replace hE := hE.trans hE7
  go_wp2_with fail
  refine (eqIntS_same _ _ _ _ l0 _ _ _ _ _ (by omega) hXx0 hXy0).mono ?_
  rintro e w8 ⟨rfl, hE8⟩
  have z8 := hE8.size
  replace hr0 := hr0.ext hE8
  replace hb1_0 := hE8.cell hb1_0
  replace hb1_1 := hE8.cell hb1_1
  replace hb1_2 := hE8.cell hb1_2
  replace hXx0 := hXx0.ext hE8
  replace hE := hE.trans hE8
  go_wp2_with fail
  go_ret
  exact ⟨rfl, hE⟩
theorem own : ownKnob Try.prog.godebug = none := by kernel_rfl
theorem laidOut : laidOutB Try.prog = true := by kernel_rfl
set_option maxRecDepth 100000 in
theorem lifted (os : Os) (started : os.Started) (H : Type) (enc : TypeId × Value → H) :
    ReturnsInHanded {} Try.checked os 10 .any (Rows.fnExactStuckAtSpec.pre6 enc Try.prog Try.f10 Rows.fnExactStuckAtRow.domain false) (Rows.fnExactStuckAtSpec.post enc Try.prog Try.f10 false true false false) := by
  refine returnsInHanded_of_change (C := Try.checked) own started (by kernel_rfl) Try.func10
    (ChangeSpec.witness6 (enc := enc) (C := Try.checked) false ⟨#[], #[.slice none 0 0, .agg #[.int .i64 0, .int .i64 0, .int .i64 0], .int .i64 0], []⟩ 8 (by kernel_rfl) (by kernel_rfl) (by kernel_rfl) (by kernel_rfl)) ?_
  intro W base args ds gs before hval0 hW hcnd _
  have hval : ∀ (j : Nat) t v, Try.f10.params[j]? = some t → args[j]? = some v → Value.okWide Try.prog W .any base t v := hval0
  have hW' := hW
  obtain ⟨p, q, hA0, hV, rfl, hfz, hnd⟩ := hW
  have hA : DataW.TrodAll enc Try.prog W 0 (fun _ => true) true Try.f10.params.toList args.toList ds p := hA0
  rw [Try.params10] at hA hval
  obtain ⟨v0, vs0, d0, ds0, p0, q0, hargs, rfl, rfl, h0, r0⟩ := trodAll_cons hA
  obtain ⟨v1, vs1, d1, ds1, p1, q1, rfl, rfl, rfl, h1, r1⟩ := trodAll_cons r0
  obtain ⟨v2, vs2, d2, ds2, p2, q2, rfl, rfl, rfl, h2, r2⟩ := trodAll_cons r1
  obtain ⟨rfl, rfl, rfl⟩ := trodAll_nil r2
  obtain rfl : args = #[v0, v1, v2] := by cases args; simp_all
  obtain ⟨rfl, rfl⟩ := trodVars_none hV
  have k0 := h0
  have lt0 : ∀ x ∈ p0, x.block < W.heap.size := by obtain ⟨m, hm⟩ := k0; exact DataW.trod_lt m _ _ _ hm
  obtain ⟨A0, len0, c0, rfl⟩ := okWide_slice Try.underlying22 (hval 0 22 v0 rfl rfl)
  obtain ⟨l0, rfl, hl0, hm0, hr0, hq0⟩ := open_intsQ Try.underlying22 Try.underlying3 (by kernel_rfl) h0
  have k1 := h1
  have lt1 : ∀ x ∈ p1, x.block < W.heap.size := by obtain ⟨m, hm⟩ := k1; exact DataW.trod_lt m _ _ _ hm
  obtain ⟨u1, u1b, u1c, y1, y1b, y1c, n1, rfl, rfl, rfl, g1, g1b, g1c⟩ := Joins.open_agg3 Try.underlying24 (by kernel_rfl) (by kernel_rfl) (hval 1 24 v1 rfl rfl) h1
  obtain ⟨x1, rfl, rfl, rfl⟩ : ∃ x : Rul, u1 = .int .i64 x.least ∧ u1b = .int .i64 x.normal ∧ u1c = .int .i64 x.most := by
    obtain ⟨a, ea, _⟩ := dec_int Try.underlying3 g1
    obtain ⟨b, eb, _⟩ := dec_int Try.underlying3 g1b
    obtain ⟨c, ec, _⟩ := dec_int Try.underlying3 g1c
    exact ⟨⟨a, b, c⟩, ea, eb, ec⟩
  have k2 := h2
  have lt2 : ∀ x ∈ p2, x.block < W.heap.size := by obtain ⟨m, hm⟩ := k2; exact DataW.trod_lt m _ _ _ hm
  obtain ⟨a2, rfl, rfl, rfl, w2⟩ := open_int Try.underlying3 (hval 2 3 v2 rfl rfl) h2
  clear hA0 hval0
  refine (walk A0 c0 l0 x1 a2 W hl0 hm0 hr0 hq0  w2).mono fun e W' ⟨he, bel⟩ => ?_
  subst he
  exact ⟨_, rfl, _, _, _, [], _, [], hW', trodAll_mk1 (shut_bool Try.underlying4 _), (trodAll_cons_mk (Below.trod laidOut (by kernel_rfl) (of_decide_eq_true (by kernel_rfl)) k0 bel lt0) (trodAll_cons_mk (Below.trod laidOut (by kernel_rfl) (of_decide_eq_true (by kernel_rfl)) k1 bel lt1) (trodAll_cons_mk (Below.trod laidOut (by kernel_rfl) (of_decide_eq_true (by kernel_rfl)) k2 bel lt2) trodAll_mk0))), rfl, Below.frame bel _, fun h => by cases h⟩

theorem over : Rows.fnExactStuckAtRow.holds Try.pinned (OpenSpec.ofChange Rows.fnExactStuckAtSpec) :=
  OpenClaim.holds_of_wide 10 Try.f10 rfl rfl rfl rfl rfl rfl rfl ⟨rfl, rfl, rfl, rfl, rfl⟩ rfl rfl rfl rfl rfl (by kernel_rfl) Try.func10 (by kernel_rfl)
    (of_decide_eq_true (by kernel_rfl)) (by unfold Func.isWrapper; first | (rw [if_pos (by decide +kernel)]; kernel_rfl) | (rw [if_neg (by decide +kernel)]; exact ⟨rfl, rfl⟩))
    (fun os started H enc _ => lifted os started H enc)

theorem proved : Rows.FnExactStuckAtSaid := over
#print axioms proved

end Go.Proofs.Ytmfoankgfiofdaa.fnExactStuckAt
