/- Proved here: for every input the law FnExactIsProof returns true and leaves its arguments as they were. No condition. -/
import Derived.Test.YtclcclhdmciggaaRows
import Derived.Test.YtclcclhdmciggaaOpen
import Derived.Deep.RegionHeld3
import Derived.Test.YtclcclhdmciggaaStrO
import Derived.Test.YtclcclhdmciggaaMkA
namespace Go.Proofs.Ytclcclhdmciggaa.fnExactIsProof
open Go.ChangeShapes Go.WideShapes Go.ChangeAt Go.RowKit Go.Deep
set_option linter.unusedVariables false

theorem walk (A0 : Option Addr) (c0 : Nat) (l0 : List ByteArray) (w : World) (hl0 : l0.length ≤ c0) (hm0 : c0 ≤ maxLen) (hr0 : RdA w 0 w.heap.size A0 (l0.map Value.string)) (hq0 : ∀ s ∈ l0, s.size ≤ maxLen) :
    Calls Try.prog 5 #[.slice A0 l0.length c0] w fun e w' => e = .returned (.bool true) ∧ Ext w w' := by
  unfold maxLen at hm0
  by_cases hsz0 : bulkT l0 ≤ 1048576
  case neg =>
    go_enter Try.func5, Try.ntmps5
    go_wp2_with (first | (go_at_call 8; refine (szStringS_any A0 c0 l0 _ _ _ _ (by omega) hq0 (by omega) (by omega) hr0).mono ?_; rintro e w_ ⟨rfl, rfl⟩; rw [szT_no (by omega)]))
    go_ret
    exact ⟨rfl, (by repeat (first | exact Ext.refl _ | assumption | refine Ext.trans ?_ (Ext.alloc _ _) | refine Ext.trans ?_ (Ext.drew _) | refine Ext.trans ?_ (Ext.drewN _ _) | refine Ext.trans ?_ (by assumption)))⟩
  have hn0 : l0.length ≤ 1048576 := by unfold bulkT at hsz0; omega
  have hb0 : ∀ s ∈ l0, s.size ≤ 1048577 := fun s hs => by have := str_le hs; unfold bulkT at hsz0; omega
  go_enter Try.func5, Try.ntmps5
  have hE : Ext w w := Ext.refl _
  go_wp2_with (first | (go_at_call 8; refine (szStringS_any A0 c0 l0 _ _ _ _ (by omega) hq0 (by omega) (by omega) hr0).mono ?_; rintro e w_ ⟨rfl, rfl⟩; rw [szT_yes (by omega)]))
  refine (toStringS_any A0 c0 l0 _ _ _ (by omega) hr0).mono ?_
  rintro e w1 ⟨gs0, rfl, hXs0, hE1⟩
  have z1 := hE1.size
  replace hr0 := hr0.ext hE1
  replace hE := hE.trans hE1
  go_wp2_with fail
  refine (spec_IsProof _ _ l0 _ _ _ (by omega) hb0 hXs0).mono ?_
  rintro e w2 ⟨rfl, hE2⟩
  have z2 := hE2.size
  replace hr0 := hr0.ext hE2
  replace hXs0 := hXs0.ext hE2
  replace hE := hE.trans hE2
  go_wp2_with fail
  refine (toStringS_any A0 c0 l0 _ _ _ (by omega) hr0).mono ?_
  rintro e w3 ⟨gx0, rfl, hXx0, hE3⟩
  have z3 := hE3.size
  replace hr0 := hr0.ext hE3
  replace hE := hE.trans hE3
  go_wp2_with fail
  refine (impl_IsProof _ _ l0 _ _ _ (by omega) hb0 hXx0).mono ?_
  rintro e w4 ⟨rfl, hE4⟩
  have z4 := hE4.size
  replace hr0 := hr0.ext hE4
  replace hXx0 := hXx0.ext hE4
  replace hE := hE.trans hE4
  go_wp2_with fail
  refine (toStringS_any A0 c0 l0 _ _ _ (by omega) hr0).mono ?_
  rintro e w5 ⟨gy0, rfl, hXy0, hE5⟩
  have z5 := hE5.size
  replace hr0 := hr0.ext hE5
  replace hXx0 := hXx0.ext hE5
  replace hE := hE.trans hE5
  go_wp2_with fail
  refine (eqStringS_same _ _ _ _ l0 _ _ _ _ _ (by omega) hXx0 hXy0).mono ?_
  rintro e w6 ⟨rfl, hE6⟩
  have z6 := hE6.size
  replace hr0 := hr0.ext hE6
  replace hXx0 := hXx0.ext hE6
  replace hE := hE.trans hE6
  go_wp2_with fail
  go_ret
  exact ⟨rfl, hE⟩
theorem own : ownKnob Try.prog.godebug = none := by kernel_rfl
theorem laidOut : laidOutB Try.prog = true := by kernel_rfl
set_option maxRecDepth 100000 in
theorem lifted (os : Os) (started : os.Started) (H : Type) (enc : TypeId × Value → H) :
    ReturnsInHanded {} Try.checked os 5 .any (Rows.fnExactIsProofSpec.pre6 enc Try.prog Try.f5 Rows.fnExactIsProofRow.domain false) (Rows.fnExactIsProofSpec.post enc Try.prog Try.f5 false true false false) := by
  refine returnsInHanded_of_change (C := Try.checked) own started (by kernel_rfl) Try.func5
    (ChangeSpec.witness6 (enc := enc) (C := Try.checked) false ⟨#[], #[.slice none 0 0], []⟩ 8 (by kernel_rfl) (by kernel_rfl) (by kernel_rfl) (by kernel_rfl)) ?_
  intro W base args ds gs before hval0 hW hcnd _
  have hval : ∀ (j : Nat) t v, Try.f5.params[j]? = some t → args[j]? = some v → Value.okWide Try.prog W .any base t v := hval0
  have hW' := hW
  obtain ⟨p, q, hA0, hV, rfl, hfz, hnd⟩ := hW
  have hA : DataW.TrodAll enc Try.prog W 0 (fun _ => true) true Try.f5.params.toList args.toList ds p := hA0
  rw [Try.params5] at hA hval
  obtain ⟨v0, vs0, d0, ds0, p0, q0, hargs, rfl, rfl, h0, r0⟩ := trodAll_cons hA
  obtain ⟨rfl, rfl, rfl⟩ := trodAll_nil r0
  obtain rfl : args = #[v0] := by cases args; simp_all
  obtain ⟨rfl, rfl⟩ := trodVars_none hV
  have k0 := h0
  have lt0 : ∀ x ∈ p0, x.block < W.heap.size := by obtain ⟨m, hm⟩ := k0; exact DataW.trod_lt m _ _ _ hm
  obtain ⟨A0, len0, c0, rfl⟩ := okWide_slice Try.underlying22 (hval 0 22 v0 rfl rfl)
  obtain ⟨l0, rfl, hl0, hm0, hr0, hq0⟩ := open_strsQ Try.underlying22 Try.underlying9 (by kernel_rfl) h0
  clear hA0 hval0
  refine (walk A0 c0 l0 W hl0 hm0 hr0 hq0).mono fun e W' ⟨he, bel⟩ => ?_
  subst he
  exact ⟨_, rfl, _, _, _, [], _, [], hW', trodAll_mk1 (shut_bool Try.underlying4 _), (trodAll_cons_mk (Below.trod laidOut (by kernel_rfl) (of_decide_eq_true (by kernel_rfl)) k0 bel lt0) trodAll_mk0), rfl, Below.frame bel _, fun h => by cases h⟩

theorem over : Rows.fnExactIsProofRow.holds Try.pinned (OpenSpec.ofChange Rows.fnExactIsProofSpec) :=
  OpenClaim.holds_of_wide 5 Try.f5 rfl rfl rfl rfl rfl rfl rfl ⟨rfl, rfl, rfl, rfl, rfl⟩ rfl rfl rfl rfl rfl (by kernel_rfl) Try.func5 (by kernel_rfl)
    (of_decide_eq_true (by kernel_rfl)) (by unfold Func.isWrapper; first | (rw [if_pos (by decide +kernel)]; kernel_rfl) | (rw [if_neg (by decide +kernel)]; exact ⟨rfl, rfl⟩))
    (fun os started H enc _ => lifted os started H enc)

theorem proved : Rows.FnExactIsProofSaid := over
#print axioms proved

end Go.Proofs.Ytclcclhdmciggaa.fnExactIsProof
