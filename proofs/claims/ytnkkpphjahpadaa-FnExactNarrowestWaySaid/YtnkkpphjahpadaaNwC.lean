/- A table of rows of ints, and the order of ways. -/
import Derived.Test.YtnkkpphjahpadaaNwB
import Derived.Test.YtnkkpphjahpadaaHyC
namespace Go.Proofs.Ytnkkpphjahpadaa
open Go.RowKit
set_option linter.unusedVariables false
/-- 'make([]T, n)' for a T of one cell. -/
theorem make_ones {P : Program} (t e : TypeId) (z : Value) (b : Nat) (ht : P.underlying t = some (.slice e)) (hinfo : (P.info? e).map (fun i => (i.zero, i.size, i.bytes)) = some (some z, 1, b)) (hz1 : z.cells = #[z]) (n : Nat) (hn : n ≤ 4000000) (hb : b ≤ 64) :
    ∃ cs : Array Value, (∀ w, (Instr.makeSlice t (.int .i64 (n : Int)) (.int .i64 (n : Int))).run P w = .ok (.slice (some ⟨w.heap.size, 0, none⟩) n n) (w.alloc (.cells cs e))) ∧ FillV cs n (fun _ => z) := by
  obtain ⟨i, hi, hz, hs, hby⟩ := info_of hinfo
  refine ⟨madeCells z.cells (n * i.size), fun w => run_make_rowN t e i _ ht hi hz n n (Nat.le_refl _) (by rw [hby]; have := Nat.mul_le_mul hb hn; omega) (by omega) w, ?_⟩
  rw [hs, Nat.mul_one, hz1]
  refine ⟨size_madeCells _ _, fun j hj => ?_⟩
  have : (madeCells #[z] n).toList = List.replicate n z := toList_madeCells_one _ _
  rw [← Array.getElem?_toList, this, List.getElem?_replicate, if_pos hj]
/-- A table of rows of ints: the rows lie in blocks from lo on. -/
structure TabS (w : World) (G : Nat) (t : TypeId) (cur : Array Value) (N lo : Nat) (R : Nat → List Int) : Prop where
  blk : Blk w G t cur
  size : cur.size = N
  row : ∀ i, i < N → ∃ A c, cur[i]? = some (.slice A (R i).length c) ∧ (R i).length ≤ c ∧ RdI w lo w.heap.size A (R i)
theorem TabS.ext {w w' : World} {G : Nat} {t : TypeId} {cur : Array Value} {N lo : Nat} {R : Nat → List Int} (h : TabS w G t cur N lo R) (hE : Ext w w') : TabS w' G t cur N lo R :=
  ⟨h.blk.ext hE, h.size, fun i hi => by
    obtain ⟨A, c, h1, h2, h3⟩ := h.row i hi
    exact ⟨A, c, h1, h2, Rd.wide (Rd.ext h3 hE) (Nat.le_refl _) hE.size (Nat.le_refl _)⟩⟩
theorem TabS.congr {w : World} {G : Nat} {t : TypeId} {cur : Array Value} {N lo : Nat} {R S : Nat → List Int} (h : TabS w G t cur N lo R) (he : ∀ i, i < N → S i = R i) : TabS w G t cur N lo S :=
  ⟨h.blk, h.size, fun i hi => by rw [he i hi]; exact h.row i hi⟩
theorem TabS.set_ {w : World} {G : Nat} {t : TypeId} {cur : Array Value} {N lo : Nat} {R : Nat → List Int} (h : TabS w G t cur N lo R) (hG : G < lo) (k : Nat) {A : Option Addr} {c : Nat} {xs : List Int} (hc : xs.length ≤ c) (hr : RdI w lo w.heap.size A xs) :
    TabS (w.setCell ⟨G, k, none⟩ (.slice A xs.length c)) G t (cur.setIfInBounds k (.slice A xs.length c)) N lo (fun i => if i = k then xs else R i) := by
  have hs : (w.setCell ⟨G, k, none⟩ (.slice A xs.length c)).heap.size = w.heap.size := by simp [World.setCell]
  refine ⟨h.blk.set_ k _, by simpa using h.size, fun i hi => ?_⟩
  rw [Array.getElem?_setIfInBounds]
  by_cases e : k = i
  · subst e
    rw [if_pos rfl, if_pos (by rw [h.size]; exact hi), if_pos rfl]
    exact ⟨A, c, rfl, hc, by rw [hs]; exact hr.out (out_set _ _ _ _) (.inr hG)⟩
  · have e' : ¬ i = k := fun h => e h.symm
    rw [if_neg e, if_neg e']
    obtain ⟨A', c', h1, h2, h3⟩ := h.row i hi
    exact ⟨A', c', h1, h2, by rw [hs]; exact h3.out (out_set _ _ _ _) (.inr hG)⟩
theorem TabS.set_other {w : World} {G H : Nat} {t : TypeId} {cur : Array Value} {N lo : Nat} {R : Nat → List Int} (h : TabS w G t cur N lo R) (hG : H < lo) (hne : G ≠ H) (k : Nat) (u : Value) : TabS (w.setCell ⟨H, k, none⟩ u) G t cur N lo R := by
  have hs : (w.setCell ⟨H, k, none⟩ u).heap.size = w.heap.size := by simp [World.setCell]
  refine ⟨(heap_setCell_other w ⟨H, k, none⟩ G u (fun e => hne e)).trans h.blk, h.size, fun i hi => ?_⟩
  obtain ⟨A', c', h1, h2, h3⟩ := h.row i hi
  exact ⟨A', c', h1, h2, by rw [hs]; exact h3.out (out_set _ _ _ _) (.inr hG)⟩
theorem nwT_not (f : List Srt) (r : List UInt8) : ∀ d e, d < e → nwT f r d e = none := by
  intro d
  induction d with
  | zero => intro e h; unfold nwT; rw [if_neg (by omega)]
  | succ d ih => intro e h; rw [nwT_same (by omega), ih e (by omega)]
/-- The later way never comes before. -/
theorem spec_tyLess_no (A B : Option Addr) (c d m n : Nat) (a b : Int) (xs ys : List Int) (lo hi lo' hi' : Nat) (w : World) (hm : m = xs.length + 1) (hn : n = ys.length + 1) (hx : m ≤ 40) (hy : n ≤ 40) (hab : b < a) (hr : RdI w lo hi A (a :: xs)) (hr' : RdI w lo' hi' B (b :: ys)) :
    Calls Try.prog 66 #[.slice A m c, .slice B n d] w fun e w' => e = .returned (.bool false) ∧ Ext w w' := by
  subst hm hn
  obtain ⟨x, b0, off, HX, rfl, h1, h2, h3, c0, _⟩ := RdI.get hr (k := 0) (by simp)
  obtain ⟨y, b1, off1, HY, rfl, g1, g2, g3, d0, _⟩ := RdI.get hr' (k := 0) (by simp)
  obtain rfl : a = x := by have := HX.out; simpa using this
  obtain rfl : b = y := by have := HY.out; simpa using this
  simp only [Nat.add_zero] at c0 d0
  go_enter Try.func66, Try.ntmps66
  go_wp2
  go_loopw [5] (fun i wr => i = .int .i64 0 ∧ Ext w wr) (fun _ _ => 0)
  case atStart => exact ⟨rfl, Ext.refl _⟩
  case round =>
    obtain ⟨rfl, hE⟩ := hrel
    have hne : ¬ a = b := by omega
    have q1 := hE.cell c0
    have q2 := hE.cell d0
    have e1 : ∀ y : XW wr, y.v.cell? ⟨b0, off, none⟩ = _ := fun y => y.h.cell q1
    have e2 : ∀ y : XW wr, y.v.cell? ⟨b1, off1, none⟩ = _ := fun y => y.h.cell q2
    go_wp2_with fail
    refine wp_region_xw (w0 := wr) (by kernel_rfl) (by kernel_rfl) (by repeat (first | exact Ext.refl _ | assumption | refine Ext.trans ?_ (Ext.alloc _ _) | refine Ext.trans ?_ (Ext.drew _) | refine Ext.trans ?_ (Ext.drewN _ _) | refine Ext.trans ?_ (by assumption))) ?_; (repeat (go_big_quiet_step (fail))); refine wpQuiet_nil ?_; intro w1 hw'; obtain ⟨⟨_, hEw1⟩, hw''⟩ := hw'; subst hw''
    clear e1 e2
    have e1 : ∀ y : XW w1, y.v.cell? ⟨b0, off, none⟩ = _ := fun y => y.h.cell (hEw1.cell q1)
    have e2 : ∀ y : XW w1, y.v.cell? ⟨b1, off1, none⟩ = _ := fun y => y.h.cell (hEw1.cell q2)
    go_wp2_with fail
    refine wp_region_xw (w0 := w1) (by kernel_rfl) (by kernel_rfl) (by repeat (first | exact Ext.refl _ | assumption | refine Ext.trans ?_ (Ext.alloc _ _) | refine Ext.trans ?_ (Ext.drew _) | refine Ext.trans ?_ (Ext.drewN _ _) | refine Ext.trans ?_ (by assumption))) ?_; (repeat (go_big_quiet_step (fail))); refine wpQuiet_nil ?_; intro w2 hw'; obtain ⟨⟨_, hEw2⟩, hw''⟩ := hw'; subst hw''
    clear e1 e2
    go_wp2
    go_ret
    exact ⟨ret_bool (by simp; omega), (by repeat (first | exact Ext.refl _ | assumption | refine Ext.trans ?_ (Ext.alloc _ _) | refine Ext.trans ?_ (Ext.drew _) | refine Ext.trans ?_ (Ext.drewN _ _) | refine Ext.trans ?_ (by assumption)))⟩
end Go.Proofs.Ytnkkpphjahpadaa
