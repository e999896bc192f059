/- The closure of EvenBreaks, where the end is better. -/
import Derived.Test.YtnhddepmhelgiaaEvD
import Derived.Test.YtnhddepmhelgiaaOnly
namespace Go.Proofs.Ytnhddepmhelgiaa
open Go.RowKit
set_option linter.unusedVariables false
theorem Blk.setFar {w : World} {g : Nat} {t : TypeId} {cs : Array Value} (h : Blk w g t cs) {b o : Nat} (hne : ¬ g = b) (u : Value) : Blk (w.setCell ⟨b, o, none⟩ u) g t cs :=
  (Below.heap_setCell _ _ _ _ (fun e => hne e)).trans h
set_option maxHeartbeats 4000000 in
theorem better_yes (ca cb cc gp gs N : Nat) (d : Int) (cp cs : Array Value) (fp fs : Nat → Int) (i j : Nat) (pg : Int) (w : World) (hm : EvMem w ca cb cc gp gs N d cp cs fp fs) (hN : N ≤ 25) (hi : i < N) (hj : j < N) (hij : ¬ i = j) (hne : ¬ gp = gs) (n1 : ¬ ca = gp) (n2 : ¬ ca = gs) (n3 : ¬ cb = gp) (n4 : ¬ cb = gs)
    (hd : 1 ≤ d) (hd2 : d ≤ 1000) (hp : 0 ≤ pg) (hp2 : pg ≤ d) (h1 : -1 ≤ fp j) (h2 : fp j ≤ 100) (h3 : 0 ≤ fs j) (h4 : fs j ≤ 100000000) (h6 : fp i < 0 ∨ fp j + 1 < fp i ∨ (fp j + 1 = fp i ∧ fs j + (d - pg) * (d - pg) < fs i)) :
    Calls Try.prog 62 #[.int .i64 (i : Int), .int .i64 (j : Int), .int .i64 pg, .pointer (some ⟨ca, 0, none⟩), .pointer (some ⟨cb, 0, none⟩), .pointer (some ⟨cc, 0, none⟩)] w fun e w' => e = .returned (.bool true) ∧
      Blk w' gp 3 (cp.setIfInBounds i (.int .i64 (fp j + 1))) ∧ Blk w' gs 3 (cs.setIfInBounds i (.int .i64 (fs j + (d - pg) * (d - pg)))) ∧ Only (fun k => k = gp ∨ k = gs) w w' := by
  obtain ⟨q1, _⟩ := hm.fp.cell hm.bp (k := j) hj
  obtain ⟨q2, r2⟩ := hm.fp.cell hm.bp (k := i) hi
  obtain ⟨q3, _⟩ := hm.fs.cell hm.bs (k := j) hj
  obtain ⟨q4, r4⟩ := hm.fs.cell hm.bs (k := i) hi
  obtain ⟨sq0, sq1⟩ := sq_small (t := d - pg) (by omega) (by omega)
  have qa := hm.a; have qb := hm.b; have qc := hm.c
  have i1 : (i : Int) < (N : Int) := by omega
  have i2 : (j : Int) < (N : Int) := by omega
  obtain ⟨p, hpp⟩ : ∃ p, p = fp j := ⟨_, rfl⟩
  obtain ⟨s, hss⟩ : ∃ s, s = fs j := ⟨_, rfl⟩
  obtain ⟨p0, hp0⟩ : ∃ p, p = fp i := ⟨_, rfl⟩
  obtain ⟨s0, hs0⟩ : ∃ s, s = fs i := ⟨_, rfl⟩
  obtain ⟨sq, hsq⟩ : ∃ x, x = (d - pg) * (d - pg) := ⟨_, rfl⟩
  rw [← hpp] at q1 h1 h2 h6
  rw [← hss] at q3 h3 h4 h6
  rw [← hp0] at q2 h6
  rw [← hs0] at q4 h6
  rw [← hsq] at sq0 sq1 h6
  have k1 : IntKind.i64.wrap (p + 1) = p + 1 := IntWalk.i64_in _ (by omega)
  have k2 : IntKind.i64.wrap (d - pg) = d - pg := IntWalk.i64_in _ (by omega)
  have k3 : IntKind.i64.wrap ((d - pg) * (d - pg)) = sq := by rw [hsq]; exact IntWalk.i64_in _ (by rw [← hsq]; omega)
  have k4 : IntKind.i64.wrap (s + sq) = s + sq := IntWalk.i64_in _ (by omega)
  have e1 : ∀ y : XW w, y.v.cell? ⟨gp, j, none⟩ = _ := fun y => y.h.cell q1
  have e3 : ∀ y : XW w, y.v.cell? ⟨gs, j, none⟩ = _ := fun y => y.h.cell q3
  have ea : ∀ y : XW w, y.v.cell? ⟨ca, 0, none⟩ = _ := fun y => y.h.cell qa
  have eb : ∀ y : XW w, y.v.cell? ⟨cb, 0, none⟩ = _ := fun y => y.h.cell qb
  have ec : ∀ y : XW w, y.v.cell? ⟨cc, 0, none⟩ = _ := fun y => y.h.cell qc
  have HM := Lib.hid hm; have HPP := Lib.hid hpp; have HSS := Lib.hid hss; have HSQ := Lib.hid hsq
  clear hpp hss hp0 hs0 hsq hm
  go_enter Try.func62, Try.ntmps62
  go_wp2_with fail
  refine wp_region_xw (w0 := w) (by kernel_rfl) (by kernel_rfl) (by repeat (first | exact Ext.refl _ | assumption | refine Ext.trans ?_ (Ext.alloc _ _) | refine Ext.trans ?_ (Ext.drew _) | refine Ext.trans ?_ (Ext.drewN _ _) | refine Ext.trans ?_ (by assumption))) ?_; (repeat (go_big_quiet_step (fail))); refine wpQuiet_nil ?_; intro w1 hw'; obtain ⟨⟨_, hEw1⟩, hw''⟩ := hw'; subst hw''
  clear e1 e3 ea eb ec k1 k2 k3 k4
  replace q2 := hEw1.cell q2
  replace q4 := hEw1.cell q4
  replace qa := hEw1.cell qa
  replace qb := hEw1.cell qb
  have hm1 := HM.out.ext hEw1
  have hgp := hm1.bp.lt
  have hgs := hm1.bs.lt
  replace r2 := (hm1.fp.cell hm1.bp (k := i) hi).2
  replace r4 := (hm1.fs.cell hm1.bs (k := i) hi).2
  have hne2 : ¬ gs = gp := fun e => hne e.symm
  have n5 : ¬ gp = ca := fun e => n1 e.symm
  have n6 : ¬ gs = ca := fun e => n2 e.symm
  have n7 : ¬ gp = cb := fun e => n3 e.symm
  have n8 : ¬ gs = cb := fun e => n4 e.symm
  by_cases hneg : p0 < 0
  · have g5 : decide (0 ≤ p0) = false := decide_eq_false (by omega)
    clear h6
    go_wp2_with fail
    go_region
    obtain ⟨w2, hw2⟩ : ∃ x, x = ((w1.setCell ⟨gp, i, none⟩ (.int .i64 (p + 1))).setCell ⟨gs, i, none⟩ (.int .i64 (s + sq))).drew := ⟨_, rfl⟩
    rw [← hw2]
    have hb1 : Blk w2 gp 3 (cp.setIfInBounds i (.int .i64 (p + 1))) := by rw [hw2]; exact ((hm1.bp.set_ i _).setFar hne _).ext (Ext.drew _)
    have hb2 : Blk w2 gs 3 (cs.setIfInBounds i (.int .i64 (s + sq))) := by rw [hw2]; exact ((hm1.bs.setFar (fun e => hne e.symm) _).set_ i _).ext (Ext.drew _)
    have hO : Only (fun k => k = gp ∨ k = gs) w w2 := by
      rw [hw2]
      exact (((Only.of_ext hEw1).setCell (p := ⟨gp, i, none⟩) (.inl rfl) _).setCell (p := ⟨gs, i, none⟩) (.inr rfl) _).trans (Only.of_ext (Ext.drew _))
    clear hw2
    go_wp2_with fail
    go_ret
    exact ⟨rfl, by rw [← HPP.out]; exact hb1, by rw [← HSS.out, ← HSQ.out]; exact hb2, hO⟩
  · have g5 : decide (0 ≤ p0) = true := decide_eq_true (by omega)
    have g6 : decide (p0 < p + 1) = false := decide_eq_false (by rcases h6 with h | h | h <;> omega)
    by_cases heq : p + 1 = p0
    · have g7 : (p + 1 == p0) = true := by simpa using heq
      have g8 : decide (s0 ≤ s + sq) = false := decide_eq_false (by rcases h6 with h | h | h <;> omega)
      clear h6 heq
      go_wp2_with fail
      go_region
      obtain ⟨w2, hw2⟩ : ∃ x, x = ((w1.setCell ⟨gp, i, none⟩ (.int .i64 (p + 1))).setCell ⟨gs, i, none⟩ (.int .i64 (s + sq))).drew := ⟨_, rfl⟩
      rw [← hw2]
      have hb1 : Blk w2 gp 3 (cp.setIfInBounds i (.int .i64 (p + 1))) := by rw [hw2]; exact ((hm1.bp.set_ i _).setFar hne _).ext (Ext.drew _)
      have hb2 : Blk w2 gs 3 (cs.setIfInBounds i (.int .i64 (s + sq))) := by rw [hw2]; exact ((hm1.bs.setFar (fun e => hne e.symm) _).set_ i _).ext (Ext.drew _)
      have hO : Only (fun k => k = gp ∨ k = gs) w w2 := by
        rw [hw2]
        exact (((Only.of_ext hEw1).setCell (p := ⟨gp, i, none⟩) (.inl rfl) _).setCell (p := ⟨gs, i, none⟩) (.inr rfl) _).trans (Only.of_ext (Ext.drew _))
      clear hw2
      go_wp2_with fail
      go_ret
      exact ⟨rfl, by rw [← HPP.out]; exact hb1, by rw [← HSS.out, ← HSQ.out]; exact hb2, hO⟩
    · have g7 : (p + 1 == p0) = false := by simpa using heq
      clear h6 heq
      go_wp2_with fail
      go_region
      obtain ⟨w2, hw2⟩ : ∃ x, x = ((w1.setCell ⟨gp, i, none⟩ (.int .i64 (p + 1))).setCell ⟨gs, i, none⟩ (.int .i64 (s + sq))).drew := ⟨_, rfl⟩
      rw [← hw2]
      have hb1 : Blk w2 gp 3 (cp.setIfInBounds i (.int .i64 (p + 1))) := by rw [hw2]; exact ((hm1.bp.set_ i _).setFar hne _).ext (Ext.drew _)
      have hb2 : Blk w2 gs 3 (cs.setIfInBounds i (.int .i64 (s + sq))) := by rw [hw2]; exact ((hm1.bs.setFar (fun e => hne e.symm) _).set_ i _).ext (Ext.drew _)
      have hO : Only (fun k => k = gp ∨ k = gs) w w2 := by
        rw [hw2]
        exact (((Only.of_ext hEw1).setCell (p := ⟨gp, i, none⟩) (.inl rfl) _).setCell (p := ⟨gs, i, none⟩) (.inr rfl) _).trans (Only.of_ext (Ext.drew _))
      clear hw2
      go_wp2_with fail
      go_ret
      exact ⟨rfl, by rw [← HPP.out]; exact hb1, by rw [← HSS.out, ← HSQ.out]; exact hb2, hO⟩
end Go.Proofs.Ytnhddepmhelgiaa
