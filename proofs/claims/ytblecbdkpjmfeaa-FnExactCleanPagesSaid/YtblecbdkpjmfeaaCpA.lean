/- The walk of the program's CleanPages. -/
import Derived.Test.YtblecbdkpjmfeaaPgF
import Derived.Test.YtblecbdkpjmfeaaCpP
import Derived.Test.YtblecbdkpjmfeaaFill
import Derived.Test.YtblecbdkpjmfeaaApart
import Derived.Deep.RegionWith
namespace Go.Proofs.Ytblecbdkpjmfeaa
open Go.RowKit
set_option linter.unusedVariables false
open Clean
def cpD (l : List SetL) (d : Int) (i j : Nat) : Bool := decide (deep (cutL l i j) ≤ d)
def cpC (l : List SetL) (d : Int) (i j : Nat) : Bool := (cpD l d i j && !widow l i) && !orphan l j
theorem impl_isCleanPage (b off c : Nat) (l : List SetL) (d : Int) (i j : Nat) (lo hi : Nat) (w : World) (hl : l.length ≤ 1048577) (hcap : l.length ≤ c) (hij : i < j) (hjl : j ≤ l.length) (hr : RdS w lo hi (some ⟨b, off, none⟩) l) :
    Calls Try.prog 55 #[.slice (some ⟨b, off, none⟩) l.length c, .int .i64 d, .int .i64 i, .int .i64 j] w fun e w' => e = .returned (.bool (cpC l d i j)) ∧ Ext w w' := by
  have hci : ¬ c = i := by omega
  have hcut := cutL_len l (i := i) (k := j) hjl
  have hD := impl_depthOf (some ⟨b, off + i * 3, none⟩) (c - i) (j - i) (cutL l i j) lo hi w hcut (by omega) (hr.cut i j)
  have HD := Lib.hid hD
  clear hD hcut
  by_cases h1 : deep (cutL l i j) ≤ d
  case neg =>
    have hv : cpC l d i j = false := by simp [cpC, cpD, h1]
    rw [hv]; clear hv
    go_enter Try.func55, Try.ntmps55
    go_wp2_with (go_at_call 53; refine HD.out.mono ?_; rintro e w1 ⟨rfl, hE1⟩)
    go_ret
    exact ⟨rfl, (by repeat (first | exact Ext.refl _ | assumption | refine Ext.trans ?_ (Ext.alloc _ _) | refine Ext.trans ?_ (Ext.drew _) | refine Ext.trans ?_ (Ext.drewN _ _) | refine Ext.trans ?_ (by assumption)))⟩
  cases h2 : widow l i
  case true =>
    have hv : cpC l d i j = false := by simp [cpC, h2]
    rw [hv]; clear hv
    go_enter Try.func55, Try.ntmps55
    go_wp2_with (first | (go_at_call 53; refine HD.out.mono ?_; rintro e w1 ⟨rfl, hE1⟩) | (go_at_call 51; refine (impl_isWidow _ c l i lo hi _ hl (by omega) (hr.ext hE1)).mono ?_; rintro e w2 ⟨rfl, hE2⟩; obtain ⟨hc2, hf2⟩ := bcell hE2; have hs2 := hE2.size; (try simp only [World.size_alloc] at hs2)))
    go_ret
    exact ⟨rfl, (by repeat (first | exact Ext.refl _ | assumption | refine Ext.trans ?_ (Ext.alloc _ _) | refine Ext.trans ?_ (Ext.drew _) | refine Ext.trans ?_ (Ext.drewN _ _) | refine Ext.trans ?_ (by assumption)))⟩
  have hv : cpC l d i j = !orphan l j := by simp [cpC, cpD, h1, h2]
  rw [hv]; clear hv
  go_enter Try.func55, Try.ntmps55
  go_wp2_with (first | (go_at_call 53; refine HD.out.mono ?_; rintro e w1 ⟨rfl, hE1⟩) | (go_at_call 51; refine (impl_isWidow _ c l i lo hi _ hl (by omega) (hr.ext hE1)).mono ?_; rintro e w2 ⟨rfl, hE2⟩; obtain ⟨hc2, hf2⟩ := bcell hE2; have hs2 := hE2.size; (try simp only [World.size_alloc] at hs2)) | (go_at_call 49; refine (impl_isOrphan _ c l j lo hi _ hl (by omega) hjl (hr.ext (hE1.trans hE2))).mono ?_; rintro e w3 ⟨rfl, hE3⟩; obtain ⟨hc3, hf3⟩ := bcell hE3; have hs3 := hE3.size; (try simp only [World.size_alloc] at hs3)))
  go_ret
  exact ⟨rfl, (by repeat (first | exact Ext.refl _ | assumption | refine Ext.trans ?_ (Ext.alloc _ _) | refine Ext.trans ?_ (Ext.drew _) | refine Ext.trans ?_ (Ext.drewN _ _) | refine Ext.trans ?_ (by assumption)))⟩
def cpS (l : List SetL) (d : Int) : Nat → Int := sT l.length (cpD l d) (widow l) (orphan l)
def cpT (l : List SetL) (d : Int) (m : Nat) : Nat → Int := ttab l.length (cpD l d) (widow l) (orphan l) m
def cpAf (l : List SetL) (d : Int) (m i q : Nat) : Int := af (cpD l d) (widow l) (orphan l) (cpT l d m) i q
def cpNx (l : List SetL) (d : Int) : Nat → Nat := nx l.length (cpD l d) (widow l) (orphan l)
def cpIt (l : List SetL) (d : Int) : Nat → Nat := it l.length (cpD l d) (widow l) (orphan l)
def cpM (l : List SetL) (d : Int) : Nat := cM l.length (cpD l d) (widow l) (orphan l)
def cpL (l : List SetL) (d : Int) (m : Nat) : List Int := endsL l.length (cpD l d) (widow l) (orphan l) m
theorem orphan_top (l : List SetL) : orphan l l.length = false := by simp [orphan]
theorem widow_0 (l : List SetL) : widow l 0 = false := by simp [widow]
def cpP (l : List SetL) (d : Int) : List Int × Bool := if paged l d && decide (0 ≤ cpS l d 0) then (cpL l d (cpM l d), true) else ([], false)
theorem cpP_bad {l : List SetL} {d : Int} (h : (paged l d && decide (0 ≤ cpS l d 0)) = false) : cpP l d = ([], false) := by simp only [cpP, h]; rfl
theorem cpP_good {l : List SetL} {d : Int} (h : paged l d = true) (h0 : 0 ≤ cpS l d 0) : cpP l d = (cpL l d (cpM l d), true) := by simp [cpP, h, h0]
theorem cpM_le (l : List SetL) (d : Int) : cpM l d ≤ l.length := by
  have := (stab_ge l.length (cpD l d) (widow l) (orphan l) l.length (Nat.le_refl _) 0).2
  unfold cpM cM sT
  omega
theorem cpL_len (l : List SetL) (d : Int) (m : Nat) : (cpL l d m).length = m := endsL_len _ _ _ _ _
theorem cpP_len (l : List SetL) (d : Int) (hl : l.length ≤ 1048576) : (cpP l d).1.length ≤ 4000000 := by
  unfold cpP
  split
  · have := cpM_le l d; simp only [cpL_len]; omega
  · simp
theorem cpT_ge (l : List SetL) (d : Int) (m : Nat) (hm : m ≤ l.length) (j : Nat) : -1 ≤ cpT l d m j ∧ cpT l d m j ≤ m := ttab_ge _ _ _ _ m hm j
theorem cpAf_ge (l : List SetL) (d : Int) (m i q : Nat) (hm : m ≤ l.length) : -1 ≤ cpAf l d m i q ∧ cpAf l d m i q ≤ m + 1 := by
  have h := af_spec (cpD l d) (widow l) (orphan l) (cpT l d m) i q
  by_cases h0 : cpAf l d m i q < 0
  · have : cpAf l d m i q = -1 := (h.1 h0).1; omega
  · obtain ⟨⟨j0, _, _, _, h4⟩, _⟩ := h.2 (Int.not_lt.1 h0)
    have := cpT_ge l d m hm j0
    have e : cpT l d m j0 + 1 = cpAf l d m i q := h4
    omega
theorem cpAf_succ (l : List SetL) (d : Int) (m i q : Nat) : cpAf l d m i (q + 1) = if (decide (0 ≤ cpT l d m (i + 1 + q)) && cpC l d i (i + 1 + q)) && (decide (cpAf l d m i q < 0) || decide (cpT l d m (i + 1 + q) + 1 < cpAf l d m i q)) then cpT l d m (i + 1 + q) + 1 else cpAf l d m i q := by
  unfold cpAf; rw [af]; rfl
theorem cpT_succ (l : List SetL) (d : Int) (m x : Nat) : cpT l d (m + 1) x = if x = l.length - 1 - m then cpAf l d m (l.length - 1 - m) (m + 1) else cpT l d m x := rfl
theorem cpT_0 (l : List SetL) (d : Int) (x : Nat) : cpT l d 0 x = 0 := rfl
theorem cpT_final (l : List SetL) (d : Int) (h : 0 < l.length) : cpT l d l.length 0 = cpS l d 0 := by
  have := tabs l.length (cpD l d) (widow l) (orphan l) (orphan_top l) l.length (Nat.le_refl _) 0 (by omega) (by omega)
  rw [if_neg (by rw [widow_0]; simp)] at this
  exact this
theorem FillI.rd1 {w : World} {g : Nat} {t : TypeId} {cur : Array Value} {N : Nat} {f : Nat → Int} (h : FillI cur N f) (hB : Blk w g t cur) : RdI w g (g + 1) (some ⟨g, 0, none⟩) ((List.range N).map f) := by
  refine ⟨by have := hB.lt; omega, fun _ => ⟨g, 0, rfl, Nat.le_refl _, Nat.lt_succ_self _, fun j u hu => ?_⟩⟩
  rw [List.getElem?_map, Option.map_eq_some_iff] at hu
  obtain ⟨a, ha, rfl⟩ := hu
  have hj : j < N := by have := (List.getElem?_eq_some_iff.1 ha).1; simpa using this
  rw [List.getElem?_map, List.getElem?_range hj] at ha
  simp at ha
  subst ha
  rw [Nat.zero_add]
  exact ⟨hB.cell (h.2 j hj), hB.frozen j⟩
theorem rdF {w : World} {lo hi g : Nat} {N : Nat} {f : Nat → Int} (h : RdI w lo hi (some ⟨g, 0, none⟩) ((List.range N).map f)) {k : Nat} (hk : k < N) : w.cell? ⟨g, k, none⟩ = some (.int .i64 (f k)) ∧ g < w.heap.size := by
  obtain ⟨x, b, off, HX, eA, _, _, h3, c0, _⟩ := RdI.get h (k := k) (by simpa using hk)
  injection eA with eA; injection eA with eb eo _; subst eb; subst eo
  have : x = f k := by have := HX.out; rw [List.getElem?_map, List.getElem?_range hk] at this; simpa using this.symm
  rw [Nat.zero_add, this] at c0
  exact ⟨c0, h3⟩
end Go.Proofs.Ytblecbdkpjmfeaa
