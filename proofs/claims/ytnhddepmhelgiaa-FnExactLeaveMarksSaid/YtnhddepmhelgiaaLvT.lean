/- LeaveMarks: the program's walk. -/
import Derived.Test.YtnhddepmhelgiaaLvS
import Derived.Test.YtnhddepmhelgiaaPaB
import Derived.Test.YtnhddepmhelgiaaXw
import Derived.BigRegion
import Derived.Laws.EntriesVeiled
namespace Go.Proofs.Ytnhddepmhelgiaa
open Go.RowKit
set_option linter.unusedVariables false
def RetI3 (w : World) (p : List Int × Int × Bool) (e : Ending) (w' : World) : Prop := ∃ A c, e = .returned (.tuple #[.slice A p.1.length c, .int .i64 p.2.1, .bool p.2.2]) ∧ p.1.length ≤ c ∧ RdI w' w.heap.size w'.heap.size A p.1 ∧ Ext w w'
theorem retI3_lit {w w' : World} {a : Option Addr} {c : Nat} (hE : Ext w w') : RetI3 w ([], 0, false) (.returned (.tuple #[.slice a 0 c, .int .i64 0, .bool false])) w' := ⟨a, c, rfl, Nat.zero_le _, Rd.nil (Nat.le_refl _), hE⟩
def mx0 (n : Int) : Int := if 0 < n then n else 0
theorem lvOk_eq (ls : List (List Int)) (k : Int) : lvOk ls k = (par ls && (inB k 0 4 && decide (k ≤ mx0 ((ls.length : Int) - 1)))) := rfl
theorem lvT_none {f : Nat → List Nat × Int} {a : Nat} : ∀ t, (lvT f a ([], -1) t).2 < 0 → lvT f a ([], -1) t = ([], -1)
  | 0, _ => rfl
  | t + 1, h => by
    have h : (lvU (lvT f a ([], -1) t) (f (a + t))).2 < 0 := h
    show lvU (lvT f a ([], -1) t) (f (a + t)) = ([], -1)
    by_cases hc : 0 ≤ (f (a + t)).2 ∧ ((lvT f a ([], -1) t).2 < 0 ∨ (f (a + t)).2 < (lvT f a ([], -1) t).2)
    · rw [show lvU (lvT f a ([], -1) t) (f (a + t)) = f (a + t) from if_pos hc] at h; omega
    · rw [show lvU (lvT f a ([], -1) t) (f (a + t)) = lvT f a ([], -1) t from if_neg hc] at h ⊢
      exact lvT_none t h
theorem lvC_first {ls : List (List Int)} : ∀ k ms, lvU ([], -1) (lvC ls k ms) = lvC ls k ms
  | 0, ms => if_pos ⟨lvF_nonneg ms ls 0, .inl (by decide)⟩
  | k + 1, ms => by
    by_cases h : 0 ≤ (lvC ls (k + 1) ms).2
    · exact if_pos ⟨h, .inl (by decide)⟩
    · have h2 : (lvT (fun i => lvC ls k (ms ++ [i])) (lvN ms) ([], -1) (ls.length - 1 - lvN ms)).2 < 0 := by
        have h3 : ¬ 0 ≤ (lvT (fun i => lvC ls k (ms ++ [i])) (lvN ms) ([], -1) (ls.length - 1 - lvN ms)).2 := h
        omega
      have h4 := lvT_none _ h2
      show lvU ([], -1) (lvT (fun i => lvC ls k (ms ++ [i])) (lvN ms) ([], -1) (ls.length - 1 - lvN ms)) = lvT (fun i => lvC ls k (ms ++ [i])) (lvN ms) ([], -1) (ls.length - 1 - lvN ms)
      rw [h4]; rfl
/-- The world in which the closure is first called. -/
theorem lv_start {w w1 : World} {A : Option Addr} {c k lo hi : Nat} {ls : List (List Int)} (hE : Ext w w1) (hs : w.heap.size + 2 ≤ w1.heap.size) (hr : RdII w lo hi A ls) (x1 : w1.cell? ⟨w.heap.size, 0, none⟩ = some (.slice A ls.length c)) (x2 : w1.cell? ⟨w.heap.size + 1, 0, none⟩ = some (.int .i64 k))
    {W : World} (hW : W = ((((w1.alloc (.cells #[] 3)).alloc (.cells #[.slice (some ⟨w1.heap.size, 0, none⟩) 0 0] 29)).alloc (.cells #[.int .i64 (-1)] 3)).alloc (.cells #[lvFn (w.heap.size + 1) w.heap.size (w1.heap.size + 1 + 1) (w1.heap.size + 1) (w1.heap.size + 1 + 1 + 1)] 56)).alloc (.cells #[] 3)) :
    LvMem W (w1.heap.size + 4) lo hi (w.heap.size + 1) w.heap.size (w1.heap.size + 1 + 1) (w1.heap.size + 1) (w1.heap.size + 1 + 1 + 1) A c k ls ([], -1) ∧ LvAt (w1.heap.size + 4) hi (w.heap.size + 1) w.heap.size (w1.heap.size + 1 + 1) (w1.heap.size + 1) (w1.heap.size + 1 + 1 + 1) ∧ Ext w W ∧ W.heap.size = w1.heap.size + 5 := by
  have hE1 : Ext w1 W := by rw [hW]; exact (by repeat (first | exact Ext.refl _ | assumption | refine Ext.trans ?_ (Ext.alloc _ _) | refine Ext.trans ?_ (Ext.drew _) | refine Ext.trans ?_ (Ext.drewN _ _) | refine Ext.trans ?_ (by assumption)))
  have hhi : hi ≤ w.heap.size := by obtain ⟨_, _, _, _, _, _, h, _⟩ := hr; exact h
  have hsz : W.heap.size = w1.heap.size + 5 := by rw [hW]; simp [World.size_alloc]
  have hn : Blk W (w1.heap.size + 1 + 1 + 1) 56 #[lvFn (w.heap.size + 1) w.heap.size (w1.heap.size + 1 + 1) (w1.heap.size + 1) (w1.heap.size + 1 + 1 + 1)] := by
    show W.heap[_]? = _
    rw [hW]; simp only [hp_alloc, Array.getElem?_push, Array.size_push, if_true]; repeat rw [if_neg (by omega)]
  refine ⟨⟨hE1.cell x2, hE1.cell x1, hn.cell rfl, ?_, ⟨some ⟨w1.heap.size, 0, none⟩, 0, ?_, Nat.le_refl _, ⟨Nat.le_refl _, fun h => absurd rfl h⟩⟩, hr.ext (hE.trans hE1)⟩, ⟨by omega, by omega, by omega, by omega, by omega, by omega, by omega, by omega, by omega, by omega, by omega⟩, hE.trans hE1, hsz⟩
  · show W.heap[_]? = _
    rw [hW]; simp only [hp_alloc, Array.getElem?_push, Array.size_push, if_true]; repeat rw [if_neg (by omega)]
  · show W.heap[_]? = _
    rw [hW]; simp only [hp_alloc, Array.getElem?_push, Array.size_push, if_true]; repeat rw [if_neg (by omega)]
    rfl
theorem impl_LeaveMarks (A : Option Addr) (c : Nat) (ls : List (List Int)) (k : Int) (lo hi : Nat) (w : World) (hl : ls.length ≤ 1048577) (hb : ∀ l ∈ ls, l.length ≤ 1048577) (hr : RdII w lo hi A ls) :
    Calls Try.prog 34 #[.slice A ls.length c, .int .i64 k] w (RetI3 w (lvP ls k)) := by
  obtain ⟨w0, hw0⟩ : ∃ w0, w0 = (w.alloc (.cells #[.slice A ls.length c] 22)).alloc (.cells #[.int .i64 k] 3) := ⟨_, rfl⟩
  have hE0 : Ext w w0 := by rw [hw0]; exact (by repeat (first | exact Ext.refl _ | assumption | refine Ext.trans ?_ (Ext.alloc _ _) | refine Ext.trans ?_ (Ext.drew _) | refine Ext.trans ?_ (Ext.drewN _ _) | refine Ext.trans ?_ (by assumption)))
  have x1 : w0.cell? ⟨w.heap.size, 0, none⟩ = some (.slice A ls.length c) := by rw [hw0]; exact box_new (Ext.alloc _ _) rfl
  have x2 : w0.cell? ⟨w.heap.size + 1, 0, none⟩ = some (.int .i64 k) := by rw [hw0]; have := box_new (w := w.alloc (.cells #[.slice A ls.length c] 22)) (j := 0) (cs := #[.int .i64 k]) (t := 3) (Ext.refl _) rfl; rw [World.size_alloc] at this; exact this
  have hs0 : w0.heap.size = w.heap.size + 2 := by rw [hw0]; simp
  have hr0 := hr.ext hE0
  have HW0 := Lib.hid hw0
  clear hw0
  cases h : par ls
  · rw [lvP_bad (by rw [lvOk_eq, h]; rfl)]
    go_enter Try.func34, Try.ntmps34
    go_wp2_with fail
    have hw0' := HW0.out
    rw [← hw0']
    clear hw0'
    refine (impl_AreParallel A c ls lo hi _ hl hb hr0).mono ?_
    rintro e w1 ⟨rfl, hE1⟩
    rw [h]
    go_wp2_with fail
    go_ret3
    exact retI3_lit (by repeat (first | exact Ext.refl _ | assumption | refine Ext.trans ?_ (Ext.alloc _ _) | refine Ext.trans ?_ (Ext.drew _) | refine Ext.trans ?_ (Ext.drewN _ _) | refine Ext.trans ?_ (by assumption)))
  cases h2 : inB k 0 4
  · rw [lvP_bad (by rw [lvOk_eq, h, h2]; rfl)]
    go_enter Try.func34, Try.ntmps34
    go_wp2_with fail
    have hw0' := HW0.out
    rw [← hw0']
    clear hw0'
    refine (impl_AreParallel A c ls lo hi _ hl hb hr0).mono ?_
    rintro e w1 ⟨rfl, hE1⟩
    rw [h]
    replace x2 := hE1.cell x2
    go_wp2_with (go_at_call 50; refine (within_any _ _ _ _).mono ?_; rintro e w' ⟨rfl, rfl⟩)
    go_ret3
    exact retI3_lit (by repeat (first | exact Ext.refl _ | assumption | refine Ext.trans ?_ (Ext.alloc _ _) | refine Ext.trans ?_ (Ext.drew _) | refine Ext.trans ?_ (Ext.drewN _ _) | refine Ext.trans ?_ (by assumption)))
  have hkb := inB_iff.1 h2
  have h24 := par_len h
  have q1 : IntKind.i64.wrap ((ls.length : Int) - 1) = (ls.length : Int) - 1 := IntWalk.i64_in _ (by omega)
  by_cases h3 : k ≤ mx0 ((ls.length : Int) - 1)
  case neg =>
    rw [lvP_bad (by rw [lvOk_eq, h, h2, decide_eq_false h3]; rfl)]
    by_cases hgt : 0 < (ls.length : Int) - 1
    · have g1 : (ls.length : Int) - 1 < k := by unfold mx0 at h3; rw [if_pos hgt] at h3; omega
      have g2 : (1 : Int) < ls.length := by omega
      clear h3
      go_enter Try.func34, Try.ntmps34
      go_wp2_with fail
      have hw0' := HW0.out
      rw [← hw0']
      clear hw0'
      refine (impl_AreParallel A c ls lo hi _ hl hb hr0).mono ?_
      rintro e w1 ⟨rfl, hE1⟩
      rw [h]
      replace x2 := hE1.cell x2
      replace x1 := hE1.cell x1
      go_wp2_with (go_at_call 50; refine (within_any _ _ _ _).mono ?_; rintro e w' ⟨rfl, rfl⟩)
      go_ret3
      exact retI3_lit (by repeat (first | exact Ext.refl _ | assumption | refine Ext.trans ?_ (Ext.alloc _ _) | refine Ext.trans ?_ (Ext.drew _) | refine Ext.trans ?_ (Ext.drewN _ _) | refine Ext.trans ?_ (by assumption)))
    · have g1 : (0 : Int) < k := by unfold mx0 at h3; rw [if_neg hgt] at h3; omega
      have g2 : ¬ (1 : Int) < ls.length := by omega
      clear h3
      go_enter Try.func34, Try.ntmps34
      go_wp2_with fail
      have hw0' := HW0.out
      rw [← hw0']
      clear hw0'
      refine (impl_AreParallel A c ls lo hi _ hl hb hr0).mono ?_
      rintro e w1 ⟨rfl, hE1⟩
      rw [h]
      replace x2 := hE1.cell x2
      replace x1 := hE1.cell x1
      go_wp2_with (go_at_call 50; refine (within_any _ _ _ _).mono ?_; rintro e w' ⟨rfl, rfl⟩)
      go_ret3
      exact retI3_lit (by repeat (first | exact Ext.refl _ | assumption | refine Ext.trans ?_ (Ext.alloc _ _) | refine Ext.trans ?_ (Ext.drew _) | refine Ext.trans ?_ (Ext.drewN _ _) | refine Ext.trans ?_ (by assumption)))
  obtain ⟨kk, rfl⟩ : ∃ kk : Nat, k = kk := ⟨k.toNat, by omega⟩
  have hok : lvOk ls kk = true := by rw [lvOk_eq, h, h2, decide_eq_true h3]; rfl
  rw [lvP_good hok]
  have HP := Lib.hid h
  by_cases hgt : 0 < (ls.length : Int) - 1
  · have g1 : ¬ (ls.length : Int) - 1 < kk := by unfold mx0 at h3; rw [if_pos hgt] at h3; omega
    have g2 : (1 : Int) < ls.length := by omega
    clear h3 hok
    go_enter Try.func34, Try.ntmps34
    go_wp2_with fail
    have hw0' := HW0.out
    rw [← hw0']
    clear hw0'
    refine (impl_AreParallel A c ls lo hi _ hl hb hr0).mono ?_
    rintro e w1 ⟨rfl, hE1⟩
    rw [h]
    replace x2 := hE1.cell x2
    replace x1 := hE1.cell x1
    go_wp2_with (first | (go_at_call 50; refine (within_any _ _ _ _).mono ?_; rintro e w' ⟨rfl, rfl⟩) | fail)
    obtain ⟨W, hW⟩ : ∃ W, W = ((((w1.alloc (.cells #[] 3)).alloc (.cells #[.slice (some ⟨w1.heap.size, 0, none⟩) 0 0] 29)).alloc (.cells #[.int .i64 (-1)] 3)).alloc (.cells #[lvFn (w.heap.size + 1) w.heap.size (w1.heap.size + 1 + 1) (w1.heap.size + 1) (w1.heap.size + 1 + 1 + 1)] 56)).alloc (.cells #[] 3) := ⟨_, rfl⟩
    have hs1 := hE1.size
    obtain ⟨hm0, hat, hEW, hWs⟩ := lv_start (hE0.trans hE1) (by omega) hr x1 x2 hW
    have hW' := hW
    unfold lvFn at hW'
    rw [← hW']
    clear hW' hW
    refine (lv_next (w1.heap.size + 4) lo hi (w.heap.size + 1) w.heap.size (w1.heap.size + 1 + 1) (w1.heap.size + 1) (w1.heap.size + 1 + 1 + 1) A c kk ls hat HP.out (by omega) kk 0 [] _ 0 ([], -1) W rfl (Nat.le_refl _) rfl (LvM.nil _) (Int.le_refl _) (by omega) hm0 ⟨Nat.le_refl _, fun h => absurd rfl h⟩).mono ?_
    rintro e w6 ⟨rfl, hm6, hO6⟩
    rw [lvC_first] at hm6
    have hE6 : Ext w w6 := hO6.ext hEW (by rintro z (rfl | rfl) <;> omega)
    obtain ⟨Ab, cab, hB6, hcab, hR6⟩ := hm6.b
    have qb := hB6.cell (i := 0) rfl
    have qt := hm6.t.cell (i := 0) rfl
    have eb : ∀ y : XW w6, y.v.cell? ⟨w1.heap.size + 1, 0, none⟩ = _ := fun y => y.h.cell qb
    have et : ∀ y : XW w6, y.v.cell? ⟨w1.heap.size + 1 + 1, 0, none⟩ = _ := fun y => y.h.cell qt
    have HM6 := Lib.hid hm6; have HB6 := Lib.hid hB6
    clear hm0 hm6 hB6
    go_wp2_with fail
    refine wp_region_xw (w0 := w6) (by kernel_rfl) (by kernel_rfl) (by repeat (first | exact Ext.refl _ | assumption | refine Ext.trans ?_ (Ext.alloc _ _) | refine Ext.trans ?_ (Ext.drew _) | refine Ext.trans ?_ (Ext.drewN _ _) | refine Ext.trans ?_ (by assumption))) ?_; (repeat (go_big_quiet_step (fail))); refine wpQuiet_nil ?_; intro w7 hw'; obtain ⟨⟨_, hEw7⟩, hw''⟩ := hw'; subst hw''
    go_wp2_with fail
    go_ret3
    exact ⟨Ab, cab, by rw [iL_len]; rfl, by rw [iL_len]; exact hcab, RdI.wideTop hR6 (by omega) hEw7, hE6.trans hEw7⟩
  · have g1 : ¬ (0 : Int) < kk := by unfold mx0 at h3; rw [if_neg hgt] at h3; omega
    have g2 : ¬ (1 : Int) < ls.length := by omega
    clear h3 hok
    go_enter Try.func34, Try.ntmps34
    go_wp2_with fail
    have hw0' := HW0.out
    rw [← hw0']
    clear hw0'
    refine (impl_AreParallel A c ls lo hi _ hl hb hr0).mono ?_
    rintro e w1 ⟨rfl, hE1⟩
    rw [h]
    replace x2 := hE1.cell x2
    replace x1 := hE1.cell x1
    go_wp2_with (first | (go_at_call 50; refine (within_any _ _ _ _).mono ?_; rintro e w' ⟨rfl, rfl⟩) | fail)
    obtain ⟨W, hW⟩ : ∃ W, W = ((((w1.alloc (.cells #[] 3)).alloc (.cells #[.slice (some ⟨w1.heap.size, 0, none⟩) 0 0] 29)).alloc (.cells #[.int .i64 (-1)] 3)).alloc (.cells #[lvFn (w.heap.size + 1) w.heap.size (w1.heap.size + 1 + 1) (w1.heap.size + 1) (w1.heap.size + 1 + 1 + 1)] 56)).alloc (.cells #[] 3) := ⟨_, rfl⟩
    have hs1 := hE1.size
    obtain ⟨hm0, hat, hEW, hWs⟩ := lv_start (hE0.trans hE1) (by omega) hr x1 x2 hW
    have hW' := hW
    unfold lvFn at hW'
    rw [← hW']
    clear hW' hW
    refine (lv_next (w1.heap.size + 4) lo hi (w.heap.size + 1) w.heap.size (w1.heap.size + 1 + 1) (w1.heap.size + 1) (w1.heap.size + 1 + 1 + 1) A c kk ls hat HP.out (by omega) kk 0 [] _ 0 ([], -1) W rfl (Nat.le_refl _) rfl (LvM.nil _) (Int.le_refl _) (by omega) hm0 ⟨Nat.le_refl _, fun h => absurd rfl h⟩).mono ?_
    rintro e w6 ⟨rfl, hm6, hO6⟩
    rw [lvC_first] at hm6
    have hE6 : Ext w w6 := hO6.ext hEW (by rintro z (rfl | rfl) <;> omega)
    obtain ⟨Ab, cab, hB6, hcab, hR6⟩ := hm6.b
    have qb := hB6.cell (i := 0) rfl
    have qt := hm6.t.cell (i := 0) rfl
    have eb : ∀ y : XW w6, y.v.cell? ⟨w1.heap.size + 1, 0, none⟩ = _ := fun y => y.h.cell qb
    have et : ∀ y : XW w6, y.v.cell? ⟨w1.heap.size + 1 + 1, 0, none⟩ = _ := fun y => y.h.cell qt
    have HM6 := Lib.hid hm6; have HB6 := Lib.hid hB6
    clear hm0 hm6 hB6
    go_wp2_with fail
    refine wp_region_xw (w0 := w6) (by kernel_rfl) (by kernel_rfl) (by repeat (first | exact Ext.refl _ | assumption | refine Ext.trans ?_ (Ext.alloc _ _) | refine Ext.trans ?_ (Ext.drew _) | refine Ext.trans ?_ (Ext.drewN _ _) | refine Ext.trans ?_ (by assumption))) ?_; (repeat (go_big_quiet_step (fail))); refine wpQuiet_nil ?_; intro w7 hw'; obtain ⟨⟨_, hEw7⟩, hw''⟩ := hw'; subst hw''
    go_wp2_with fail
    go_ret3
    exact ⟨Ab, cab, by rw [iL_len]; rfl, by rw [iL_len]; exact hcab, RdI.wideTop hR6 (by omega) hEw7, hE6.trans hEw7⟩
end Go.Proofs.Ytnhddepmhelgiaa
