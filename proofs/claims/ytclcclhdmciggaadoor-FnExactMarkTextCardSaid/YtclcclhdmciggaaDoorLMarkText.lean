/- Proved here: for every input the law FnExactMarkText returns true and leaves its arguments as they were (the statement in full, as a card).
Conditions: the row bears the marks laid and recurses. The package-level variables that the row lists are tied to the pruned copy of the project that lies beside the seat; nothing is said of the project's other packages, commands or tests, which could still write them. That nothing else writes them is the translator's report, and the kernel does not check it. -/
import Derived.Test.YtclcclhdmciggaaDoorRows
import Derived.Test.YtclcclhdmciggaaDoorCards
import Derived.Test.YtclcclhdmciggaaDoorTie
import Derived.Test.YtclcclhdmciggaaDoorOpen
import Derived.Deep.RegionHeld3
import Derived.ProofKit
import Derived.LaidMore
import Derived.OpenShut
import Derived.Stop.Joined
import Derived.SevenTiedAt
import Derived.Test.YtclcclhdmciggaaDoorStrO
import Derived.Test.YtclcclhdmciggaaDoorMtC
namespace Go.Proofs.YtclcclhdmciggaaDoor.fnExactMarkText
open Go.ChangeShapes Go.WideShapes Go.ChangeAt Go.RowKit Go.Deep
set_option linter.unusedVariables false

theorem walk (x0 : Mrk) (w : World) (hx0 : x0.text.size ≤ maxLen) :
    Calls Tryd.prog 3 #[.agg #[.int .i64 x0.line, .int .i64 x0.place, .int .i64 x0.kind, .string x0.text]] w fun e w' => e = .returned (.bool true) ∧ Ext w w' := by
  obtain ⟨vx, vz, hv⟩ := mtV_form x0; have HV := Lib.hid hv; clear hv
  by_cases hsz0 : x0.text.size ≤ 1048576
  case neg =>
    go_enter Tryd.func3, Tryd.ntmps3
    have hE : Ext w w := Ext.refl _
    go_wp2_with fail
    have hEb0 := Ext.alloc w (.cells #[.int .i64 x0.line, .int .i64 x0.place, .int .i64 x0.kind, .string x0.text] 23)
    have hb0_0 := box_new (Ext.refl (World.alloc w (.cells #[.int .i64 x0.line, .int .i64 x0.place, .int .i64 x0.kind, .string x0.text] 23))) (j := 0) rfl
    have hb0_1 := box_new (Ext.refl (World.alloc w (.cells #[.int .i64 x0.line, .int .i64 x0.place, .int .i64 x0.kind, .string x0.text] 23))) (j := 1) rfl
    have hb0_2 := box_new (Ext.refl (World.alloc w (.cells #[.int .i64 x0.line, .int .i64 x0.place, .int .i64 x0.kind, .string x0.text] 23))) (j := 2) rfl
    have hb0_3 := box_new (Ext.refl (World.alloc w (.cells #[.int .i64 x0.line, .int .i64 x0.place, .int .i64 x0.kind, .string x0.text] 23))) (j := 3) rfl
    replace hE := hE.trans hEb0
    clear hEb0
    have zb0 : w.heap.size < (World.alloc w (.cells #[.int .i64 x0.line, .int .i64 x0.place, .int .i64 x0.kind, .string x0.text] 23)).heap.size := by simp
    generalize World.alloc w (.cells #[.int .i64 x0.line, .int .i64 x0.place, .int .i64 x0.kind, .string x0.text] 23) = wb at *
    refine (szMark_no x0 _ _ (by omega) (by omega) hx0 (by omega)).mono ?_
    rintro e wS0 ⟨rfl, hES0⟩
    have zS0 := hES0.size
    replace hb0_0 := hES0.cell hb0_0
    replace hb0_1 := hES0.cell hb0_1
    replace hb0_2 := hES0.cell hb0_2
    replace hb0_3 := hES0.cell hb0_3
    replace hE := hE.trans hES0
    go_wp2_with fail
    go_ret
    exact ⟨rfl, hE⟩
  go_enter Tryd.func3, Tryd.ntmps3
  have hE : Ext w w := Ext.refl _
  go_wp2_with fail
  have hEb0 := Ext.alloc w (.cells #[.int .i64 x0.line, .int .i64 x0.place, .int .i64 x0.kind, .string x0.text] 23)
  have hb0_0 := box_new (Ext.refl (World.alloc w (.cells #[.int .i64 x0.line, .int .i64 x0.place, .int .i64 x0.kind, .string x0.text] 23))) (j := 0) rfl
  have hb0_1 := box_new (Ext.refl (World.alloc w (.cells #[.int .i64 x0.line, .int .i64 x0.place, .int .i64 x0.kind, .string x0.text] 23))) (j := 1) rfl
  have hb0_2 := box_new (Ext.refl (World.alloc w (.cells #[.int .i64 x0.line, .int .i64 x0.place, .int .i64 x0.kind, .string x0.text] 23))) (j := 2) rfl
  have hb0_3 := box_new (Ext.refl (World.alloc w (.cells #[.int .i64 x0.line, .int .i64 x0.place, .int .i64 x0.kind, .string x0.text] 23))) (j := 3) rfl
  replace hE := hE.trans hEb0
  clear hEb0
  have zb0 : w.heap.size < (World.alloc w (.cells #[.int .i64 x0.line, .int .i64 x0.place, .int .i64 x0.kind, .string x0.text] 23)).heap.size := by simp
  generalize World.alloc w (.cells #[.int .i64 x0.line, .int .i64 x0.place, .int .i64 x0.kind, .string x0.text] 23) = wb at *
  refine (szMark_yes x0 _ _ (by omega) (by omega) (by omega)).mono ?_
  rintro e wS0 ⟨rfl, hES0⟩
  have zS0 := hES0.size
  replace hb0_0 := hES0.cell hb0_0
  replace hb0_1 := hES0.cell hb0_1
  replace hb0_2 := hES0.cell hb0_2
  replace hb0_3 := hES0.cell hb0_3
  replace hE := hE.trans hES0
  go_wp2_with fail
  refine (toMark_any x0 _).mono ?_
  rintro e w1 ⟨rfl, hE1⟩
  have z1 := hE1.size
  replace hb0_0 := hE1.cell hb0_0
  replace hb0_1 := hE1.cell hb0_1
  replace hb0_2 := hE1.cell hb0_2
  replace hb0_3 := hE1.cell hb0_3
  replace hE := hE.trans hE1
  go_wp2_with fail
  refine (spec_MarkText x0 _ (by omega)).mono ?_
  rintro e w2 ⟨rfl, hE2⟩
  have z2 := hE2.size
  replace hb0_0 := hE2.cell hb0_0
  replace hb0_1 := hE2.cell hb0_1
  replace hb0_2 := hE2.cell hb0_2
  replace hb0_3 := hE2.cell hb0_3
  replace hE := hE.trans hE2
  rw [HV.out]
  go_wp2_with fail
  refine (toMark_any x0 _).mono ?_
  rintro e w3 ⟨rfl, hE3⟩
  have z3 := hE3.size
  replace hb0_0 := hE3.cell hb0_0
  replace hb0_1 := hE3.cell hb0_1
  replace hb0_2 := hE3.cell hb0_2
  replace hb0_3 := hE3.cell hb0_3
  replace hE := hE.trans hE3
  go_wp2_with fail
  refine (impl_MarkText x0 _ (by omega)).mono ?_
  rintro e w4 ⟨rfl, hE4⟩
  have z4 := hE4.size
  replace hb0_0 := hE4.cell hb0_0
  replace hb0_1 := hE4.cell hb0_1
  replace hb0_2 := hE4.cell hb0_2
  replace hb0_3 := hE4.cell hb0_3
  replace hE := hE.trans hE4
  rw [HV.out]
  go_wp2_with fail
  go_ret
  exact ⟨rfl, hE⟩
theorem own : ownKnob Tryd.prog.godebug = none := by kernel_rfl
theorem laidOut : laidOutB Tryd.prog = true := by kernel_rfl
theorem door_met (os : Os) (args : Array Value) : laidMetH Tryd.prog Rows.fnExactMarkTextRow.laid ((World.doorLaid Tryd.prog 24 os).forCall (fun _ _ => 0) ⟨#[], args, []⟩).memory :=
  laidMetH_of_parts3 (fuel := 8) (laidMet_of_run' 8 (by kernel_rfl) (by kernel_rfl)) (by kernel_rfl) (by kernel_rfl)
set_option maxRecDepth 100000 in
theorem lifted (os : Os) (started : os.Started) (H : Type) (enc : TypeId × Value → H) :
    ReturnsInHanded {} Tryd.checked os 3 .any (fun w args => (Rows.fnExactMarkTextSpec.pre enc Tryd.prog Tryd.f3 [] false w args ∧ laidMetH Tryd.prog Rows.fnExactMarkTextRow.laid w) ∧ sizedMet enc Tryd.prog Tryd.f3 (OpenSpec.ofChange Rows.fnExactMarkTextSpec) false w args) (Rows.fnExactMarkTextSpec.post enc Tryd.prog Tryd.f3 false true false false) := by
  refine returnsInHanded_of_change_and (C := Tryd.checked) (X := fun w _ => laidMetH Tryd.prog Rows.fnExactMarkTextRow.laid w) (fun _ _ _ hh h => h.of_heap hh) own started (by kernel_rfl) Tryd.func3
    (ChangeSpec.witness_shaped (enc := enc) (C := Tryd.checked) (os := os) (X := fun w _ => laidMetH Tryd.prog Rows.fnExactMarkTextRow.laid w) false (World.doorLaid Tryd.prog 24 os) #[.agg #[.int .i64 0, .int .i64 0, .int .i64 0, .string ByteArray.empty]] 8 rfl (World.shaped_of_RefB (by kernel_rfl) (by kernel_rfl)) (by kernel_rfl) (by kernel_rfl) (by kernel_rfl) (door_met os _)) ?_
  intro W base args ds gs before hval0 hW _ _ _ _
  have hval : ∀ (j : Nat) t v, Tryd.f3.params[j]? = some t → args[j]? = some v → Value.okWide Tryd.prog W .any base t v := hval0
  have hW' := hW
  obtain ⟨p, q, hA0, hV, rfl, hfz, hnd⟩ := hW
  have hA : DataW.TrodAll enc Tryd.prog W 0 (fun _ => true) true Tryd.f3.params.toList args.toList ds p := hA0
  rw [Tryd.params3] at hA hval
  obtain ⟨v0, vs0, d0, ds0, p0, q0, hargs, rfl, rfl, h0, r0⟩ := trodAll_cons hA
  obtain ⟨rfl, rfl, rfl⟩ := trodAll_nil r0
  obtain rfl : args = #[v0] := by cases args; simp_all
  obtain ⟨rfl, rfl⟩ := trodVars_none hV
  have k0 := h0
  have lt0 : ∀ x ∈ p0, x.block < W.heap.size := by obtain ⟨m, hm⟩ := k0; exact DataW.trod_lt m _ _ _ hm
  obtain ⟨u0, u0b, u0c, u0d, y0, y0b, y0c, y0d, n0, rfl, rfl, rfl, g0, g0b, g0c, g0d⟩ := Joins.open_agg4 Tryd.underlying23 (by kernel_rfl) (by kernel_rfl) (hval 0 23 v0 rfl rfl) h0
  obtain ⟨x0, rfl, rfl, rfl, rfl, hx0⟩ : ∃ x : Mrk, u0 = .int .i64 x.line ∧ u0b = .int .i64 x.place ∧ u0c = .int .i64 x.kind ∧ u0d = .string x.text ∧ x.text.size ≤ maxLen := by
    obtain ⟨a, ea, _⟩ := dec_int Tryd.underlying3 g0
    obtain ⟨b, eb, _⟩ := dec_int Tryd.underlying3 g0b
    obtain ⟨c, ec, _⟩ := dec_int Tryd.underlying3 g0c
    obtain ⟨d, ed, hd⟩ := dec_string Tryd.underlying9 g0d
    exact ⟨⟨a, b, c, d⟩, ea, eb, ec, ed, hd⟩
  clear hA0 hval0
  refine (walk x0 W hx0).mono fun e W' ⟨he, bel⟩ => ?_
  subst he
  exact ⟨_, rfl, _, _, _, [], _, [], hW', trodAll_mk1 (shut_bool Tryd.underlying4 _), (trodAll_cons_mk (Below.trod laidOut (by kernel_rfl) (of_decide_eq_true (by kernel_rfl)) k0 bel lt0) trodAll_mk0), rfl, Below.frame bel _, fun h => by cases h⟩

theorem over : Rows.fnExactMarkTextRow.holds Tryd.pinned (OpenSpec.ofChange Rows.fnExactMarkTextSpec) :=
  OpenClaim.holds_of_wide 3 Tryd.f3 rfl rfl rfl rfl rfl rfl rfl ⟨rfl, rfl, rfl, rfl, rfl⟩ rfl rfl rfl rfl rfl (by kernel_rfl) Tryd.func3 (by kernel_rfl)
    (of_decide_eq_true (by kernel_rfl)) (by unfold Func.isWrapper; first | (rw [if_pos (by decide +kernel)]; kernel_rfl) | (rw [if_neg (by decide +kernel)]; exact ⟨rfl, rfl⟩))
    (fun os started H enc _ => lifted os started H enc)

theorem proved : Rows.FnExactMarkTextCardSaid :=
  Claim7.holds_tied_plain_at .later [] [.data, .data, .data] true (true, "e0bf412d779e54db1c4e64419fa18b739bfc9c68f90a15ccb079fda299625823") false
    over (fun _ h => by cases h) (by kernel_rfl) (fun _ h => by cases h) fnExactMarkText_row_tie rfl ⟨rfl, rfl⟩ (by kernel_rfl) rfl
    (fun f fn hf hfn => by
      obtain rfl : f = 3 := Option.some.inj ((show Tryd.prog.funcNamed Rows.fnExactMarkTextRow.func = some 3 by kernel_rfl).symm.trans hf) |>.symm
      obtain rfl : fn = Tryd.f3 := (Option.some.inj (Tryd.func3.symm.trans hfn)).symm
      exact ⟨by kernel_rfl, fun j t ht => by
        rw [Tryd.params3] at ht
        have h3 : t = 23 := by
          rcases j with _ | j
          · simpa using ht.symm
          · simp at ht
        subst h3
        exact (show Tryd.prog.wantsStandIn 23 = false by kernel_rfl)⟩)
    (by kernel_rfl)
#print axioms proved

end Go.Proofs.YtclcclhdmciggaaDoor.fnExactMarkText
