/- The closure of EvenBreaks: is this end better? -/
import Derived.Test.YtnhddepmhelgiaaEvC
import Derived.Test.YtnhddepmhelgiaaPaD
import Derived.Test.YtnhddepmhelgiaaXw
import Derived.Test.YtnhddepmhelgiaaFill
import Derived.BigRegion
namespace Go.Proofs.Ytnhddepmhelgiaa
open Go.RowKit
set_option linter.unusedVariables false
/-- What the closure sees: two tables, and the depth. -/
structure EvMem (w : World) (ca cb cc gp gs N : Nat) (d : Int) (cp cs : Array Value) (fp fs : Nat → Int) : Prop where
  a : w.cell? ⟨ca, 0, none⟩ = some (.slice (some ⟨gp, 0, none⟩) N N)
  b : w.cell? ⟨cb, 0, none⟩ = some (.slice (some ⟨gs, 0, none⟩) N N)
  c : w.cell? ⟨cc, 0, none⟩ = some (.int .i64 d)
  bp : Blk w gp 3 cp
  bs : Blk w gs 3 cs
  fp : FillI cp N fp
  fs : FillI cs N fs
theorem EvMem.ext {w w' : World} {ca cb cc gp gs N : Nat} {d : Int} {cp cs : Array Value} {fp fs : Nat → Int} (h : EvMem w ca cb cc gp gs N d cp cs fp fs) (hE : Ext w w') : EvMem w' ca cb cc gp gs N d cp cs fp fs :=
  ⟨hE.cell h.a, hE.cell h.b, hE.cell h.c, h.bp.ext hE, h.bs.ext hE, h.fp, h.fs⟩
set_option maxHeartbeats 4000000 in
theorem better_no (ca cb cc gp gs N : Nat) (d : Int) (cp cs : Array Value) (fp fs : Nat → Int) (i j : Nat) (pg : Int) (w : World) (hm : EvMem w ca cb cc gp gs N d cp cs fp fs) (hN : N ≤ 25) (hi : i < N) (hj : j < N) (hij : ¬ i = j)
    (hd : 1 ≤ d) (hd2 : d ≤ 1000) (hp : 0 ≤ pg) (hp2 : pg ≤ d) (h1 : -1 ≤ fp j) (h2 : fp j ≤ 100) (h3 : 0 ≤ fs j) (h4 : fs j ≤ 100000000) (h5 : 0 ≤ fp i) (h6 : fp i < fp j + 1 ∨ (fp j + 1 = fp i ∧ fs i ≤ fs j + (d - pg) * (d - pg))) :
    Calls Try.prog 62 #[.int .i64 (i : Int), .int .i64 (j : Int), .int .i64 pg, .pointer (some ⟨ca, 0, none⟩), .pointer (some ⟨cb, 0, none⟩), .pointer (some ⟨cc, 0, none⟩)] w fun e w' => e = .returned (.bool false) ∧ Ext w w' := by
  obtain ⟨q1, _⟩ := hm.fp.cell hm.bp (k := j) hj
  obtain ⟨q2, _⟩ := hm.fp.cell hm.bp (k := i) hi
  obtain ⟨q3, _⟩ := hm.fs.cell hm.bs (k := j) hj
  obtain ⟨q4, _⟩ := hm.fs.cell hm.bs (k := i) hi
  obtain ⟨sq0, sq1⟩ := sq_small (t := d - pg) (by omega) (by omega)
  have qa := hm.a; have qb := hm.b; have qc := hm.c
  have i1 : (i : Int) < (N : Int) := by omega
  have i2 : (j : Int) < (N : Int) := by omega
  obtain ⟨p, hpp⟩ : ∃ p, p = fp j := ⟨_, rfl⟩
  obtain ⟨s, hss⟩ : ∃ s, s = fs j := ⟨_, rfl⟩
  obtain ⟨p0, hp0⟩ : ∃ p, p = fp i := ⟨_, rfl⟩
  obtain ⟨s0, hs0⟩ : ∃ s, s = fs i := ⟨_, rfl⟩
  obtain ⟨sq, hsq⟩ : ∃ x, x = (d - pg) * (d - pg) := ⟨_, rfl⟩
  rw [← hpp] at q1 h1 h2 h6
  rw [← hss] at q3 h3 h4 h6
  rw [← hp0] at q2 h5 h6
  rw [← hs0] at q4 h6
  rw [← hsq] at sq0 sq1 h6
  have k1 : IntKind.i64.wrap (p + 1) = p + 1 := IntWalk.i64_in _ (by omega)
  have k2 : IntKind.i64.wrap (d - pg) = d - pg := IntWalk.i64_in _ (by omega)
  have k3 : IntKind.i64.wrap ((d - pg) * (d - pg)) = sq := by rw [hsq]; exact IntWalk.i64_in _ (by rw [← hsq]; omega)
  have k4 : IntKind.i64.wrap (s + sq) = s + sq := IntWalk.i64_in _ (by omega)
  have e1 : ∀ y : XW w, y.v.cell? ⟨gp, j, none⟩ = _ := fun y => y.h.cell q1
  have e3 : ∀ y : XW w, y.v.cell? ⟨gs, j, none⟩ = _ := fun y => y.h.cell q3
  have ea : ∀ y : XW w, y.v.cell? ⟨ca, 0, none⟩ = _ := fun y => y.h.cell qa
  have eb : ∀ y : XW w, y.v.cell? ⟨cb, 0, none⟩ = _ := fun y => y.h.cell qb
  have ec : ∀ y : XW w, y.v.cell? ⟨cc, 0, none⟩ = _ := fun y => y.h.cell qc
  have g5 : decide (0 ≤ p0) = true := decide_eq_true h5
  clear hpp hss hp0 hs0 hsq hm
  go_enter Try.func62, Try.ntmps62
  go_wp2_with fail
  refine wp_region_xw (w0 := w) (by kernel_rfl) (by kernel_rfl) (by repeat (first | exact Ext.refl _ | assumption | refine Ext.trans ?_ (Ext.alloc _ _) | refine Ext.trans ?_ (Ext.drew _) | refine Ext.trans ?_ (Ext.drewN _ _) | refine Ext.trans ?_ (by assumption))) ?_; (repeat (go_big_quiet_step (fail))); refine wpQuiet_nil ?_; intro w1 hw'; obtain ⟨⟨_, hEw1⟩, hw''⟩ := hw'; subst hw''
  clear e1 e3 ea eb ec k1 k2 k3 k4
  replace q2 := hEw1.cell q2
  replace q4 := hEw1.cell q4
  replace qa := hEw1.cell qa
  replace qb := hEw1.cell qb
  by_cases hlt : p0 < p + 1
  · have g6 : decide (p0 < p + 1) = true := decide_eq_true hlt
    go_wp2_with fail
    go_ret
    exact ⟨rfl, hEw1⟩
  · have g6 : decide (p0 < p + 1) = false := decide_eq_false hlt
    have h7 : p + 1 = p0 ∧ s0 ≤ s + sq := h6.resolve_left hlt
    have g7 : (p + 1 == p0) = true := by simpa using h7.1
    have h8 := h7.2
    have g8 : decide (s0 ≤ s + sq) = true := decide_eq_true h8
    clear h6 h7
    go_wp2_with fail
    go_ret
    exact ⟨rfl, hEw1⟩
end Go.Proofs.Ytnhddepmhelgiaa
