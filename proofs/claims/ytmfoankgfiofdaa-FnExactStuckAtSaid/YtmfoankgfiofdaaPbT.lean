/- The order of breaks; tables of slices; one way in a block of its own. -/
import Derived.Test.YtmfoankgfiofdaaPbA
namespace Go.Proofs.Ytmfoankgfiofdaa
open Go.RowKit
set_option linter.unusedVariables false
/-- The block's cells are the values f 0 .. f (N - 1). -/
def FillV (cur : Array Value) (N : Nat) (f : Nat → Value) : Prop := cur.size = N ∧ ∀ i, i < N → cur[i]? = some (f i)
theorem FillV.congr {cur : Array Value} {N : Nat} {f g : Nat → Value} (h : FillV cur N f) (he : ∀ i, i < N → g i = f i) : FillV cur N g := ⟨h.1, fun i hi => by rw [he i hi]; exact h.2 i hi⟩
theorem FillV.set_ {cur : Array Value} {N : Nat} {f : Nat → Value} (h : FillV cur N f) (k : Nat) (v : Value) : FillV (cur.setIfInBounds k v) N (fun i => if i = k then v else f i) := by
  refine ⟨by simpa using h.1, fun i hi => ?_⟩
  rw [Array.getElem?_setIfInBounds]
  by_cases e : k = i
  · subst e; rw [if_pos rfl, if_pos (by rw [h.1]; exact hi)]; simp
  · have e' : ¬ i = k := fun h => e h.symm
    rw [if_neg e, h.2 i hi]; simp [e']
theorem FillV.cell {w : World} {g : Nat} {t : TypeId} {cur : Array Value} {N : Nat} {f : Nat → Value} (h : FillV cur N f) (hB : Blk w g t cur) {k : Nat} (hk : k < N) : w.cell? ⟨g, k, none⟩ = some (f k) ∧ w.frozen? ⟨g, k, none⟩ = false := ⟨hB.cell (h.2 k hk), hB.frozen k⟩
/-- 'make([]T, n)' for a T of one cell. -/
theorem make_ones {P : Program} (t e : TypeId) (z : Value) (b : Nat) (ht : P.underlying t = some (.slice e)) (hinfo : (P.info? e).map (fun i => (i.zero, i.size, i.bytes)) = some (some z, 1, b)) (hz1 : z.cells = #[z]) (n : Nat) (hn : n ≤ 4000000) (hb : b ≤ 64) :
    ∃ cs : Array Value, (∀ w, (Instr.makeSlice t (.int .i64 (n : Int)) (.int .i64 (n : Int))).run P w = .ok (.slice (some ⟨w.heap.size, 0, none⟩) n n) (w.alloc (.cells cs e))) ∧ FillV cs n (fun _ => z) := by
  obtain ⟨i, hi, hz, hs, hby⟩ := info_of hinfo
  refine ⟨madeCells z.cells (n * i.size), fun w => run_make_rowN t e i _ ht hi hz n n (Nat.le_refl _) (by rw [hby]; have := Nat.mul_le_mul hb hn; omega) (by omega) w, ?_⟩
  rw [hs, Nat.mul_one, hz1]
  refine ⟨size_madeCells _ _, fun j hj => ?_⟩
  have : (madeCells #[z] n).toList = List.replicate n z := toList_madeCells_one _ _
  rw [← Array.getElem?_toList, this, List.getElem?_replicate, if_pos hj]
theorem rowSliceInfo : (Try.prog.info? 64).map (fun i => (i.zero, i.size, i.bytes)) = some (some (.slice none 0 0), 1, 24) := by kernel_rfl
theorem wayInfo : (Try.prog.info? 51).map (fun i => (i.zero, i.size, i.bytes)) = some (some (.agg #[.bool false, .int .i64 0, .slice none 0 0, .int .i64 0]), 4, 48) := by kernel_rfl
theorem own_lit1 {w w' : World} (u : Value) (e : TypeId) {base : Nat} (hb : base ≤ w.heap.size) (hE : Ext (w.alloc (.cells #[u] e)) w') : w'.ownsRow base e 1 (.slice (some ⟨w.heap.size, 0, none⟩) 1 1) 1 [u] :=
  ownsRow_ext ⟨by simp, .inr ⟨w.heap.size, 1, #[u], rfl, hb, heap_alloc_new w _, Nat.le_refl _, by simp [maxLen], by simp, by simp⟩⟩ hE
theorem blk_far {w : World} {g : Nat} {t : TypeId} {cs : Array Value} (h : Blk w g t cs) {b o : Nat} (hne : ¬ g = b) (u : Value) : Blk (w.setCell ⟨b, o, none⟩ u) g t cs :=
  (Below.heap_setCell _ _ _ _ (fun e => hne e)).trans h
theorem RdI.ext6 {w w' : World} {lo : Nat} {A : Option Addr} {l : List Int} (h : RdI w lo w.heap.size A l) (hE : Ext w w') : RdI w' lo w'.heap.size A l := Rd.wide (Rd.ext h hE) (Nat.le_refl _) hE.size (Nat.le_refl _)
theorem next_of {w5 w6 : World} {e : TypeId} {v6 : Value} {j : Int} {ys : List Int} {lo : Nat} (h : w6.ownsRow w5.heap.size e 1 v6 (1 + ys.length) ([.int .i64 j] ++ ys.map (Value.int .i64))) (hz : lo ≤ w5.heap.size) :
    ∃ A c, v6 = .slice A (ys.length + 1) c ∧ ys.length + 1 ≤ c ∧ RdI w6 lo w6.heap.size A (j :: ys) := by
  rw [Nat.add_comm] at h
  obtain ⟨A, c, rfl, hc, _⟩ := own_form h
  exact ⟨A, c, rfl, hc, Rd.wide (Rd.of_own h) hz (Nat.le_refl _) (Nat.le_refl _)⟩
/-- One way in a block of its own. -/
def OutC (w : World) (bo lo : Nat) (X : OW × Int) : Prop := ∃ A c, Blk w bo 51 #[.bool X.1.isSome, .int .i64 (owCost X.1), .slice A (owList X.1).length c, .int .i64 X.2] ∧ (owList X.1).length ≤ c ∧ RdI w lo w.heap.size A (owList X.1)
theorem OutC.ext {w w' : World} {bo lo : Nat} {X : OW × Int} (h : OutC w bo lo X) (hE : Ext w w') : OutC w' bo lo X := by
  obtain ⟨A, c, h1, h2, h3⟩ := h
  exact ⟨A, c, h1.ext hE, h2, RdI.ext6 h3 hE⟩
theorem tyLess_nil (A B : Option Addr) (c d m : Nat) (w : World) (hm : m ≤ 1000) :
    Calls Try.prog 68 #[.slice A m c, .slice B 0 d] w fun e w' => e = .returned (.bool false) ∧ Ext w w' := by
  go_enter Try.func68, Try.ntmps68
  go_wp2
  go_loopw [5] (fun i wr => i = .int .i64 0 ∧ Ext w wr) (fun _ _ => 0)
  case atStart => exact ⟨rfl, Ext.refl _⟩
  case round =>
    obtain ⟨rfl, hE⟩ := hrel
    have h0 : (0 : Int) ≤ (m : Int) := by omega
    by_cases hm0 : 0 < m
    all_goals
      go_wp2
      go_ret
      exact ⟨ret_bool (by simp), (by repeat (first | exact Ext.refl _ | assumption | refine Ext.trans ?_ (Ext.alloc _ _) | refine Ext.trans ?_ (Ext.drew _) | refine Ext.trans ?_ (Ext.drewN _ _) | refine Ext.trans ?_ (by assumption)))⟩
theorem tyLess_less (A B : Option Addr) (c d m n : Nat) (a b : Int) (xs ys : List Int) (lo hi lo' hi' : Nat) (w : World) (hm : m = xs.length + 1) (hn : n = ys.length + 1) (hx : m ≤ 40) (hy : n ≤ 40) (hab : a < b) (hr : RdI w lo hi A (a :: xs)) (hr' : RdI w lo' hi' B (b :: ys)) :
    Calls Try.prog 68 #[.slice A m c, .slice B n d] w fun e w' => e = .returned (.bool true) ∧ Ext w w' := by
  subst hm hn
  obtain ⟨x, b0, off, HX, rfl, h1, h2, h3, c0, _⟩ := RdI.get hr (k := 0) (by simp)
  obtain ⟨y, b1, off1, HY, rfl, g1, g2, g3, d0, _⟩ := RdI.get hr' (k := 0) (by simp)
  obtain rfl : a = x := by have := HX.out; simpa using this
  obtain rfl : b = y := by have := HY.out; simpa using this
  simp only [Nat.add_zero] at c0 d0
  go_enter Try.func68, Try.ntmps68
  go_wp2
  go_loopw [5] (fun i wr => i = .int .i64 0 ∧ Ext w wr) (fun _ _ => 0)
  case atStart => exact ⟨rfl, Ext.refl _⟩
  case round =>
    obtain ⟨rfl, hE⟩ := hrel
    have hne : ¬ a = b := by omega
    have q1 := hE.cell c0
    have q2 := hE.cell d0
    have e1 : ∀ y : XW wr, y.v.cell? ⟨b0, off, none⟩ = _ := fun y => y.h.cell q1
    have e2 : ∀ y : XW wr, y.v.cell? ⟨b1, off1, none⟩ = _ := fun y => y.h.cell q2
    go_wp2_with fail
    refine wp_region_xw (w0 := wr) (by kernel_rfl) (by kernel_rfl) (by repeat (first | exact Ext.refl _ | assumption | refine Ext.trans ?_ (Ext.alloc _ _) | refine Ext.trans ?_ (Ext.drew _) | refine Ext.trans ?_ (Ext.drewN _ _) | refine Ext.trans ?_ (by assumption))) ?_; (repeat (go_big_quiet_step (fail))); refine wpQuiet_nil ?_; intro w1 hw'; obtain ⟨⟨_, hEw1⟩, hw''⟩ := hw'; subst hw''
    clear e1 e2
    have e1 : ∀ y : XW w1, y.v.cell? ⟨b0, off, none⟩ = _ := fun y => y.h.cell (hEw1.cell q1)
    have e2 : ∀ y : XW w1, y.v.cell? ⟨b1, off1, none⟩ = _ := fun y => y.h.cell (hEw1.cell q2)
    go_wp2_with fail
    refine wp_region_xw (w0 := w1) (by kernel_rfl) (by kernel_rfl) (by repeat (first | exact Ext.refl _ | assumption | refine Ext.trans ?_ (Ext.alloc _ _) | refine Ext.trans ?_ (Ext.drew _) | refine Ext.trans ?_ (Ext.drewN _ _) | refine Ext.trans ?_ (by assumption))) ?_; (repeat (go_big_quiet_step (fail))); refine wpQuiet_nil ?_; intro w2 hw'; obtain ⟨⟨_, hEw2⟩, hw''⟩ := hw'; subst hw''
    clear e1 e2
    go_wp2
    go_ret
    exact ⟨ret_bool (by simp), (by repeat (first | exact Ext.refl _ | assumption | refine Ext.trans ?_ (Ext.alloc _ _) | refine Ext.trans ?_ (Ext.drew _) | refine Ext.trans ?_ (Ext.drewN _ _) | refine Ext.trans ?_ (by assumption)))⟩
theorem most_val {a b y : Int} (h : (if a < b then b else a) = y) (w : World) : Calls Try.prog 67 #[.int .i64 a, .int .i64 b] w fun e w' => e = .returned (.int .i64 y) ∧ w = w' := by
  have h' : y = if b < a then a else b := by rw [← h]; split <;> split <;> omega
  rw [h']
  clear h h'
  by_cases hab : b < a
  · rw [if_pos hab]
    go_enter Try.func67, Try.ntmps67
    go_wp2
    go_ret
    exact ⟨rfl, rfl⟩
  · rw [if_neg hab]
    go_enter Try.func67, Try.ntmps67
    go_wp2
    go_ret
    exact ⟨rfl, rfl⟩
end Go.Proofs.Ytmfoankgfiofdaa
