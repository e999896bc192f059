/- Proved here: for every input the law FnExactGalleyText returns true and leaves its arguments as they were (the statement in full, as a card).
Conditions: the row bears the marks laid and recurses. The package-level variables that the row lists are tied to the pruned copy of the project that lies beside the seat; nothing is said of the project's other packages, commands or tests, which could still write them. That nothing else writes them is the translator's report, and the kernel does not check it. -/
import Derived.Test.YtblecbdkpjmfeaaDoorRows
import Derived.Test.YtblecbdkpjmfeaaDoorCards
import Derived.Test.YtblecbdkpjmfeaaDoorTie
import Derived.Test.YtblecbdkpjmfeaaDoorOpen
import Derived.Deep.RegionHeld3
import Derived.ProofKit
import Derived.LaidMore
import Derived.OpenShut
import Derived.Stop.Joined
import Derived.SevenTiedAt
import Derived.Test.YtblecbdkpjmfeaaDoorGtC
namespace Go.Proofs.YtblecbdkpjmfeaaDoor.fnExactGalleyText
open Go.ChangeShapes Go.WideShapes Go.ChangeAt Go.RowKit Go.Deep
set_option linter.unusedVariables false

theorem walk (A0 : Option Addr) (c0 : Nat) (l0 : List SetL) (w : World) (hl0 : l0.length ≤ c0) (hm0 : c0 ≤ maxLen) (hr0 : RdA w 0 w.heap.size A0 (l0.flatMap SetL.enc)) (hq0 : InRS l0) :
    Calls Tryd.prog 3 #[.slice A0 l0.length c0] w fun e w' => e = .returned (.bool true) ∧ Ext w w' := by
  unfold maxLen at hm0
  obtain ⟨vx, vz, hv⟩ := gtV_form l0; have HV := Lib.hid hv; clear hv
  by_cases hsz0 : l0.length ≤ 1048576
  case neg =>
    go_enter Tryd.func3, Tryd.ntmps3
    go_wp2_with (first | (go_at_call 4; refine (szSetLineS_big _ _ _ _ _ (by omega) (by omega) (by omega) (by omega)).mono ?_; rintro e w' ⟨rfl, rfl⟩))
    go_ret
    exact ⟨rfl, (by repeat (first | exact Ext.refl _ | assumption | refine Ext.trans ?_ (Ext.alloc _ _) | refine Ext.trans ?_ (Ext.drew _) | refine Ext.trans ?_ (Ext.drewN _ _) | refine Ext.trans ?_ (by assumption)))⟩
  go_enter Tryd.func3, Tryd.ntmps3
  have hE : Ext w w := Ext.refl _
  go_wp2_with (first | (go_at_call 4; refine (szSetLineS_small _ _ _ _ _ (by omega) (by omega) (by omega)).mono ?_; rintro e w' ⟨rfl, rfl⟩))
  refine (toSetLineS_any A0 c0 l0 _ _ _ (by omega) hr0).mono ?_
  rintro e w1 ⟨gs0, rfl, hXs0, hE1⟩
  have z1 := hE1.size
  replace hr0 := hr0.ext hE1
  replace hE := hE.trans hE1
  go_wp2_with fail
  refine (spec_GalleyText _ _ l0 _ _ _ (by omega) hXs0).mono ?_
  rintro e w2 ⟨rfl, hE2⟩
  have z2 := hE2.size
  replace hr0 := hr0.ext hE2
  replace hXs0 := hXs0.ext hE2
  replace hE := hE.trans hE2
  rw [HV.out]
  go_wp2_with fail
  refine (toSetLineS_any A0 c0 l0 _ _ _ (by omega) hr0).mono ?_
  rintro e w3 ⟨gx0, rfl, hXx0, hE3⟩
  have z3 := hE3.size
  replace hr0 := hr0.ext hE3
  replace hE := hE.trans hE3
  go_wp2_with fail
  refine (impl_GalleyText _ _ l0 _ _ _ (by omega) hq0 hXx0).mono ?_
  rintro e w4 ⟨rfl, hE4⟩
  have z4 := hE4.size
  replace hr0 := hr0.ext hE4
  replace hXx0 := hXx0.ext hE4
  replace hE := hE.trans hE4
  rw [HV.out]
  go_wp2_with fail
  refine (toSetLineS_any A0 c0 l0 _ _ _ (by omega) hr0).mono ?_
  rintro e w5 ⟨gy0, rfl, hXy0, hE5⟩
  have z5 := hE5.size
  replace hr0 := hr0.ext hE5
  replace hXx0 := hXx0.ext hE5
  replace hE := hE.trans hE5
  go_wp2_with fail
  refine (eqSetLineS_same _ _ _ _ l0 _ _ _ _ _ (by omega) hXx0 hXy0).mono ?_
  rintro e w6 ⟨rfl, hE6⟩
  have z6 := hE6.size
  replace hr0 := hr0.ext hE6
  replace hXx0 := hXx0.ext hE6
  replace hE := hE.trans hE6
  go_wp2_with fail
  go_ret
  exact ⟨rfl, hE⟩
theorem own : ownKnob Tryd.prog.godebug = none := by kernel_rfl
theorem laidOut : laidOutB Tryd.prog = true := by kernel_rfl
theorem door_met (os : Os) (args : Array Value) : laidMetH Tryd.prog Rows.fnExactGalleyTextRow.laid ((World.doorLaid Tryd.prog 24 os).forCall (fun _ _ => 0) ⟨#[], args, []⟩).memory :=
  laidMetH_of_parts3 (fuel := 8) (laidMet_of_run' 8 (by kernel_rfl) (by kernel_rfl)) (by kernel_rfl) (by kernel_rfl)
set_option maxRecDepth 100000 in
theorem lifted (os : Os) (started : os.Started) (H : Type) (enc : TypeId × Value → H) :
    ReturnsInHanded {} Tryd.checked os 3 .any (fun w args => (Rows.fnExactGalleyTextSpec.pre enc Tryd.prog Tryd.f3 [] false w args ∧ laidMetH Tryd.prog Rows.fnExactGalleyTextRow.laid w) ∧ sizedMet enc Tryd.prog Tryd.f3 (OpenSpec.ofChange Rows.fnExactGalleyTextSpec) false w args) (Rows.fnExactGalleyTextSpec.post enc Tryd.prog Tryd.f3 false true false false) := by
  refine returnsInHanded_of_change_and (C := Tryd.checked) (X := fun w _ => laidMetH Tryd.prog Rows.fnExactGalleyTextRow.laid w) (fun _ _ _ hh h => h.of_heap hh) own started (by kernel_rfl) Tryd.func3
    (ChangeSpec.witness_shaped (enc := enc) (C := Tryd.checked) (os := os) (X := fun w _ => laidMetH Tryd.prog Rows.fnExactGalleyTextRow.laid w) false (World.doorLaid Tryd.prog 24 os) #[.slice none 0 0] 8 rfl (World.shaped_of_RefB (by kernel_rfl) (by kernel_rfl)) (by kernel_rfl) (by kernel_rfl) (by kernel_rfl) (door_met os _)) ?_
  intro W base args ds gs before hval0 hW _ _ _ _
  have hval : ∀ (j : Nat) t v, Tryd.f3.params[j]? = some t → args[j]? = some v → Value.okWide Tryd.prog W .any base t v := hval0
  have hW' := hW
  obtain ⟨p, q, hA0, hV, rfl, hfz, hnd⟩ := hW
  have hA : DataW.TrodAll enc Tryd.prog W 0 (fun _ => true) true Tryd.f3.params.toList args.toList ds p := hA0
  rw [Tryd.params3] at hA hval
  obtain ⟨v0, vs0, d0, ds0, p0, q0, hargs, rfl, rfl, h0, r0⟩ := trodAll_cons hA
  obtain ⟨rfl, rfl, rfl⟩ := trodAll_nil r0
  obtain rfl : args = #[v0] := by cases args; simp_all
  obtain ⟨rfl, rfl⟩ := trodVars_none hV
  have k0 := h0
  have lt0 : ∀ x ∈ p0, x.block < W.heap.size := by obtain ⟨m, hm⟩ := k0; exact DataW.trod_lt m _ _ _ hm
  obtain ⟨A0, len0, c0, rfl⟩ := okWide_slice Tryd.underlying22 (hval 0 22 v0 rfl rfl)
  obtain ⟨l0, rfl, hl0, hm0, hr0, hq0⟩ := open_flat SetL.enc 3 (fun _ => rfl) Tryd.underlying22 (by kernel_rfl) (fun x => InR x.para) (fun n cs y h => by obtain ⟨a, b, c, rfl, _, _, q⟩ := dec_int3 Tryd.underlying35 (by kernel_rfl) (by kernel_rfl) Tryd.underlying3 Tryd.underlying3 Tryd.underlying3 n cs y h; exact ⟨⟨a, b, c⟩, rfl, q⟩) h0
  clear hA0 hval0
  refine (walk A0 c0 l0 W hl0 hm0 hr0 hq0).mono fun e W' ⟨he, bel⟩ => ?_
  subst he
  exact ⟨_, rfl, _, _, _, [], _, [], hW', trodAll_mk1 (shut_bool Tryd.underlying4 _), (trodAll_cons_mk (Below.trod laidOut (by kernel_rfl) (of_decide_eq_true (by kernel_rfl)) k0 bel lt0) trodAll_mk0), rfl, Below.frame bel _, fun h => by cases h⟩

theorem over : Rows.fnExactGalleyTextRow.holds Tryd.pinned (OpenSpec.ofChange Rows.fnExactGalleyTextSpec) :=
  OpenClaim.holds_of_wide 3 Tryd.f3 rfl rfl rfl rfl rfl rfl rfl ⟨rfl, rfl, rfl, rfl, rfl⟩ rfl rfl rfl rfl rfl (by kernel_rfl) Tryd.func3 (by kernel_rfl)
    (of_decide_eq_true (by kernel_rfl)) (by unfold Func.isWrapper; first | (rw [if_pos (by decide +kernel)]; kernel_rfl) | (rw [if_neg (by decide +kernel)]; exact ⟨rfl, rfl⟩))
    (fun os started H enc _ => lifted os started H enc)

theorem proved : Rows.FnExactGalleyTextCardSaid :=
  Claim7.holds_tied_plain_at .later [] [.data, .data, .data] true (true, "f6d5480b170f227db73d0bd260e6ccb317b6397a8135e8f62277ea5b82b8a3e6") false
    over (fun _ h => by cases h) (by kernel_rfl) (fun _ h => by cases h) fnExactGalleyText_row_tie rfl ⟨rfl, rfl⟩ (by kernel_rfl) rfl
    (fun f fn hf hfn => by
      obtain rfl : f = 3 := Option.some.inj ((show Tryd.prog.funcNamed Rows.fnExactGalleyTextRow.func = some 3 by kernel_rfl).symm.trans hf) |>.symm
      obtain rfl : fn = Tryd.f3 := (Option.some.inj (Tryd.func3.symm.trans hfn)).symm
      exact ⟨by kernel_rfl, fun j t ht => by
        rw [Tryd.params3] at ht
        have h3 : t = 22 := by
          rcases j with _ | j
          · simpa using ht.symm
          · simp at ht
        subst h3
        exact (show Tryd.prog.wantsStandIn 22 = false by kernel_rfl)⟩)
    (by kernel_rfl)
#print axioms proved

end Go.Proofs.YtblecbdkpjmfeaaDoor.fnExactGalleyText
