/- The reference's best breaks with a number of lines. -/
import Derived.Test.YtmfoankgfiofdaaPbD
import Derived.Test.YtmfoankgfiofdaaPbV
import Derived.Test.YtmfoankgfiofdaaPbW
import Derived.BigRegion
namespace Go.Proofs.Ytmfoankgfiofdaa
open Go.RowKit
set_option linter.unusedVariables false
theorem spec_paFromK (A : Option Addr) (c : Nat) (l : List Int) (r : Rul) (m K : Int) (k lo hi : Nat) (w : World) (h1 : asked l r m = true) (hcap : l.length ≤ c) (hK : K = (k : Int) + 1) (hk : k ≤ 23) (hr : RdI w lo hi A l) :
    Calls Try.prog 47 #[.slice A l.length c, .agg #[.int .i64 r.least, .int .i64 r.normal, .int .i64 r.most], .int .i64 m, .int .i64 K] w (RetW w (bw (paOf l r m) false (k + 1) 0)) := by
  have h := paFrom_some A c l r m (k + 1) lo hi w h1 hcap (by omega) (by omega) hr
  have e : tb (paOf l r m) (k + 1) (k + 1) 0 = bw (paOf l r m) false (k + 1) 0 := by simp [tb]
  rw [e] at h
  obtain rfl : K = ((k + 1 : Nat) : Int) := by omega
  exact h
set_option maxHeartbeats 4000000 in
theorem paBest_of (A : Option Addr) (c n : Nat) (r : Rul) (m K : Int) (X : OW × Int) (w : World)
    (hc : ∀ (w1 : World), Ext w w1 → Calls Try.prog 47 #[.slice A n c, .agg #[.int .i64 r.least, .int .i64 r.normal, .int .i64 r.most], .int .i64 m, .int .i64 K] w1 (RetW w1 X)) :
    Calls Try.prog 36 #[.slice A n c, .agg #[.int .i64 r.least, .int .i64 r.normal, .int .i64 r.most], .int .i64 m, .int .i64 K] w (RetI3 w (bbP X.1)) := by
  obtain ⟨w0, hw0⟩ : ∃ w0, w0 = w.alloc (.cells #[.int .i64 r.least, .int .i64 r.normal, .int .i64 r.most] 28) := ⟨_, rfl⟩
  have hE0 : Ext w w0 := by rw [hw0]; exact Ext.alloc _ _
  have HW0 := Lib.hid hw0
  have HC := Lib.hid hc
  clear hw0 hc
  go_enter Try.func36, Try.ntmps36
  go_wp2_with fail
  have hw0' := HW0.out
  rw [← hw0']
  clear hw0'
  refine (HC.out w0 hE0).mono ?_
  rintro e w2 ⟨A2, c2, rfl, hc2, hR2, hE2⟩
  cases hX : X.1 with
  | none =>
    rw [hX] at hc2 hR2
    have HX := Lib.hid hX
    have hE02 := hE0.trans hE2
    clear hX hc2 hR2
    simp only [Option.isSome_none]
    go_wp2_with fail
    go_ret3
    rw [HX.out]
    show RetI3 w ([], 0, false) _ _
    exact retI3_lit (hE02.trans (Ext.alloc _ _))
  | some y =>
    rw [hX] at hc2 hR2
    rw [owList_some] at hc2 hR2
    simp only [Option.isSome_some]
    rw [owCost_some, owList_some]
    have HX := Lib.hid hX
    clear hX
    have hz2 := hE2.size
    have hz0 := hE0.size
    go_wp2_with fail
    obtain ⟨w3, hw3⟩ : ∃ x, x = w2.alloc (.cells #[.bool true, .int .i64 y.1, .slice A2 y.2.length c2, .int .i64 X.2] 51) := ⟨_, rfl⟩
    have hE3 : Ext w2 w3 := by rw [hw3]; exact Ext.alloc _ _
    have hb3 : Blk w3 w2.heap.size 51 #[.bool true, .int .i64 y.1, .slice A2 y.2.length c2, .int .i64 X.2] := by rw [hw3]; exact Blk.new _ _ _
    rw [← hw3]
    clear hw3
    have hz3 := hb3.lt
    have e1 : ∀ x : XW w3, x.v.cell? ⟨w2.heap.size, 1, none⟩ = _ := fun x => x.h.cell (hb3.cell (i := 1) rfl)
    have e2 : ∀ x : XW w3, x.v.cell? ⟨w2.heap.size, 2, none⟩ = _ := fun x => x.h.cell (hb3.cell (i := 2) rfl)
    refine wp_region_xw (w0 := w3) (by kernel_rfl) (by kernel_rfl) (by repeat (first | exact Ext.refl _ | assumption | refine Ext.trans ?_ (Ext.alloc _ _) | refine Ext.trans ?_ (Ext.drew _) | refine Ext.trans ?_ (Ext.drewN _ _) | refine Ext.trans ?_ (by assumption))) ?_; (repeat (go_big_quiet_step (fail))); refine wpQuiet_nil ?_; intro w4 hw'; obtain ⟨⟨_, hEw4⟩, hw''⟩ := hw'; subst hw''
    clear e1 e2
    go_wp2_with fail
    go_ret3
    have hE34 := hE3.trans hEw4
    rw [HX.out]
    show RetI3 w (y.2, y.1, true) _ _
    exact ⟨A2, c2, rfl, hc2, Rd.wide (RdI.ext hR2 hE34) (by omega) hE34.size (Nat.le_refl _), (hE0.trans hE2).trans hE34⟩
theorem spec_paBestK (A : Option Addr) (c : Nat) (l : List Int) (r : Rul) (m K : Int) (k lo hi : Nat) (w : World) (h1 : asked l r m = true) (hcap : l.length ≤ c) (hK : K = (k : Int) + 1) (hk : k ≤ 23) (hr : RdI w lo hi A l) :
    Calls Try.prog 36 #[.slice A l.length c, .agg #[.int .i64 r.least, .int .i64 r.normal, .int .i64 r.most], .int .i64 m, .int .i64 K] w (RetI3 w (bbP (bw (paOf l r m) false (k + 1) 0).1)) :=
  paBest_of A c l.length r m K _ w fun w1 hE => spec_paFromK A c l r m K k lo hi w1 h1 hcap hK hk (hr.ext hE)
end Go.Proofs.Ytmfoankgfiofdaa
