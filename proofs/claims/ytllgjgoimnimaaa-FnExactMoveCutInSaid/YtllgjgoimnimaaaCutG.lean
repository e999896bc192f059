/- The walks of MoveCutIn. -/
import Derived.Test.YtllgjgoimnimaaaCutF
namespace Go.Proofs.Ytllgjgoimnimaaa
open Go.RowKit
def shiftC (l : List Cut) (i : Nat) (d : Int) : List Cut := match l[i]? with | some x => l.set i { x with line := x.line + d } | none => l
theorem shiftC_len (l : List Cut) (i : Nat) (d : Int) : (shiftC l i d).length = l.length := by unfold shiftC; split <;> simp
def mvOk (m : Int) (l : List Cut) (i d : Int) : Bool := areCut m l && inB i 0 ((l.length : Int) - 1) && inB d (-200) 200
def mvP (m : Int) (l : List Cut) (i d : Int) : List Cut × Bool := if mvOk m l i d && areCut m (shiftC l i.toNat d) then (shiftC l i.toNat d, true) else ([], false)
theorem mvP_bad {m : Int} {l : List Cut} {i d : Int} (h : (mvOk m l i d && areCut m (shiftC l i.toNat d)) = false) : mvP m l i d = ([], false) := by simp only [mvP, h]; rfl
theorem mvP_good {m : Int} {l : List Cut} {i d : Int} (h1 : mvOk m l i d = true) (h2 : areCut m (shiftC l i.toNat d) = true) : mvP m l i d = (shiftC l i.toNat d, true) := by simp only [mvP, h1, h2]; rfl
theorem mvP_len {m : Int} {l : List Cut} {i d : Int} (hl : l.length ≤ 1048576) : (mvP m l i d).1.length ≤ 4000000 := by
  unfold mvP
  split
  · simp only [shiftC_len]; omega
  · simp
theorem flat_set {l : List Cut} {i : Nat} {x y : Cut} (hx : l[i]? = some x) (h1 : y.lines = x.lines) (h2 : y.wide = x.wide) (h3 : y.side = x.side) : (l.set i y).flatMap Cut.enc = (l.flatMap Cut.enc).set (i * 4) (.int .i64 y.line) := by
  induction l generalizing i with
  | nil => simp at hx
  | cons z l ih =>
    cases i with
    | zero =>
      simp at hx
      subst hx
      simp [Cut.enc, h1, h2, h3]
    | succ i =>
      have hx' : l[i]? = some x := by simpa using hx
      have e := ih hx'
      simp only [List.set_cons_succ, List.flatMap_cons, e]
      have hl : (Cut.enc z).length = 4 := rfl
      rw [List.set_append_right _ _ (by rw [hl]; omega), hl, show (i + 1) * 4 - 4 = i * 4 by omega]
/-- What the store of the moved line leaves. -/
theorem rd_shift {w : World} {lo hi g : Nat} {l : List Cut} {i : Nat} {d : Int} {x : Cut} (hx : l[i]? = some x) (h : RdC w lo hi (some ⟨g, 0, none⟩) l) :
    RdC (w.setCell ⟨g, i * 4, none⟩ (.int .i64 (x.line + d))) lo hi (some ⟨g, 0, none⟩) (shiftC l i d) := by
  have h1 := Rd.set_ h (i * 4) (.int .i64 (x.line + d))
  rw [Nat.zero_add] at h1
  unfold RdC shiftC
  rw [hx]
  simp only
  rw [flat_set (y := { x with line := x.line + d }) hx rfl rfl rfl]
  exact h1

theorem impl_MoveCutIn (m : Int) (A : Option Addr) (c : Nat) (l : List Cut) (i d : Int) (lo hi : Nat) (w : World) (hl : l.length ≤ 1048576) (hcap : l.length ≤ c) (hA : A = none → l.length = 0) (hr : RdC w lo hi A l) :
    Calls Try.prog 35 #[.int .i64 m, .slice A l.length c, .int .i64 i, .int .i64 d] w (RetC2 w (mvP m l i d)) := by
  cases h1 : areCut m l
  · rw [mvP_bad (by simp [mvOk, h1])]
    go_enter Try.func35, Try.ntmps35
    go_wp2_with (go_at_call 19; refine (impl_AreCutIns m A c l lo hi _ (by omega) hcap hr).mono ?_; rintro e w1 ⟨rfl, hE1⟩; obtain ⟨hc1, hf1⟩ := bcell hE1; have hs1 := hE1.size; (try simp only [World.size_alloc] at hs1))
    go_ret2
    exact retC2_nil (by repeat (first | exact Ext.refl _ | assumption | refine Ext.trans ?_ (Ext.alloc _ _) | refine Ext.trans ?_ (Ext.drew _) | refine Ext.trans ?_ (Ext.drewN _ _) | refine Ext.trans ?_ (by assumption)))
  cases h2 : inB i 0 ((l.length : Int) - 1)
  · rw [mvP_bad (by simp [mvOk, h2])]
    go_enter Try.func35, Try.ntmps35
    go_wp2_with (first | (go_at_call 19; refine (impl_AreCutIns m A c l lo hi _ (by omega) hcap hr).mono ?_; rintro e w1 ⟨rfl, hE1⟩; obtain ⟨hc1, hf1⟩ := bcell hE1; have hs1 := hE1.size; (try simp only [World.size_alloc] at hs1)) | (go_at_call 49; refine (within_any _ _ _ _).mono ?_; rintro e w' ⟨rfl, rfl⟩))
    go_ret2
    exact retC2_nil (by repeat (first | exact Ext.refl _ | assumption | refine Ext.trans ?_ (Ext.alloc _ _) | refine Ext.trans ?_ (Ext.drew _) | refine Ext.trans ?_ (Ext.drewN _ _) | refine Ext.trans ?_ (by assumption)))
  cases h3 : inB d (-200) 200
  · rw [mvP_bad (by simp [mvOk, h3])]
    go_enter Try.func35, Try.ntmps35
    go_wp2_with (first | (go_at_call 19; refine (impl_AreCutIns m A c l lo hi _ (by omega) hcap hr).mono ?_; rintro e w1 ⟨rfl, hE1⟩; obtain ⟨hc1, hf1⟩ := bcell hE1; have hs1 := hE1.size; (try simp only [World.size_alloc] at hs1)) | (go_at_call 49; refine (within_any _ _ _ _).mono ?_; rintro e w' ⟨rfl, rfl⟩))
    go_ret2
    exact retC2_nil (by repeat (first | exact Ext.refl _ | assumption | refine Ext.trans ?_ (Ext.alloc _ _) | refine Ext.trans ?_ (Ext.drew _) | refine Ext.trans ?_ (Ext.drewN _ _) | refine Ext.trans ?_ (by assumption)))
  have hok : mvOk m l i d = true := by simp [mvOk, h1, h2, h3]
  have HOK := Lib.hid hok; clear hok
  obtain ⟨i1, i2⟩ := inB_iff.1 h2
  obtain ⟨d1, d2⟩ := inB_iff.1 h3
  obtain ⟨k, rfl⟩ := Int.eq_ofNat_of_zero_le i1
  have H1 := Lib.hid h1
  obtain ⟨x, hx⟩ : ∃ x, l[k]? = some x := ⟨_, List.getElem?_eq_getElem (by omega)⟩
  have hxc := (isCut_iff.1 (areCut_each h1 (List.mem_of_getElem? hx))).1
  have HX := Lib.hid hx; clear hx
  go_enter Try.func35, Try.ntmps35
  go_wp2_with fail
  refine (impl_AreCutIns m A c l lo hi _ (by omega) hcap hr).mono ?_
  rintro e w1 ⟨rfl, hE1⟩
  have hs1 := hE1.size
  go_wp2_with (first | (go_at_call 49; refine (within_any _ _ _ _).mono ?_; rintro e w' ⟨rfl, rfl⟩) | (at_builtin; refine wp_app _ w rfl (.tmp 29) (.tmp 30) 28 rfl 38 _ 4 32 Try.underlying28 cutInfo rfl (by omega) _ 0 [] rfl (own_lit0 _ _ hs1 (Ext.refl _)) (by repeat (first | exact Ext.refl _ | assumption | refine Ext.trans ?_ (Ext.alloc _ _) | refine Ext.trans ?_ (Ext.drew _) | refine Ext.trans ?_ (Ext.drewN _ _) | refine Ext.trans ?_ (by assumption))) _ _ _ l.length _ (l.flatMap Cut.enc) rfl (by rw [len4]) (Rd.toA (hr.ext (by repeat (first | exact Ext.refl _ | assumption | refine Ext.trans ?_ (Ext.alloc _ _) | refine Ext.trans ?_ (Ext.drew _) | refine Ext.trans ?_ (Ext.drewN _ _) | refine Ext.trans ?_ (by assumption))))) (cells_one l) (by omega) hA ?_; intro v2 w2 hown2 hE2 hgr2 hat2; rw [Nat.zero_add, List.nil_append] at hown2; obtain ⟨g, cap, rfl, hg1, hgl, hcap2⟩ := own_some hown2 (by omega); have hR2 : RdC w2 w.heap.size w2.heap.size (some ⟨g, 0, none⟩) l := Rd.of_own hown2; obtain ⟨x', b, off, HX', eA, _, _, _, c0, c1, c2, c3⟩ := RdC.get hR2 (k := k) (by omega); injection eA with eA; injection eA with eb eo _; subst eb; subst eo; have f0 := (hown2.frozenAt (k * 4)); obtain rfl : x = x' := (by have := HX.out.symm.trans HX'.out; injection this); simp only [Nat.zero_add] at c0 c1 c2 c3; clear HX' hgr2 hat2))
  have hR3 : RdC (w2.setCell ⟨g, k * 4, none⟩ (.int .i64 (x.line + d))) w.heap.size w2.heap.size (some ⟨g, 0, none⟩) (shiftC l k d) := rd_shift HX.out hR2
  have hE3 : Ext w (w2.setCell ⟨g, k * 4, none⟩ (.int .i64 (x.line + d))) := Ext.setCell hE2 hg1 _
  have hq := impl_AreCutIns m (some ⟨g, 0, none⟩) cap (shiftC l k d) _ _ _ (by rw [shiftC_len]; omega) (by rw [shiftC_len]; omega) hR3
  rw [shiftC_len] at hq
  refine hq.mono ?_
  clear hq
  rintro e w4 ⟨rfl, hE4⟩
  cases h4 : areCut m (shiftC l k d)
  · go_wp2_with fail
    go_ret2
    rw [mvP_bad (by rw [Int.toNat_natCast, h4]; simp)]
    exact retC2_nil (hE3.trans (hE4.trans (Ext.alloc _ _)))
  · go_wp2_with fail
    go_ret2
    rw [mvP_good HOK.out (by rw [Int.toNat_natCast]; exact h4)]
    refine ⟨_, cap, by rw [shiftC_len]; rfl, by rw [shiftC_len]; exact hcap2, ?_, hE3.trans hE4⟩
    rw [Int.toNat_natCast]
    exact Rd.wide (hR3.ext hE4) (Nat.le_refl _) (by have := hE4.size; simpa using this) (Nat.le_refl _)

theorem spec_MoveCutIn (m : Int) (A : Option Addr) (c : Nat) (l : List Cut) (i d : Int) (lo hi : Nat) (w : World) (hl : l.length ≤ 1048576) (hcap : l.length ≤ c) (hA : A = none → l.length = 0) (hr : RdC w lo hi A l) :
    Calls Try.prog 34 #[.int .i64 m, .slice A l.length c, .int .i64 i, .int .i64 d] w (RetC2 w (mvP m l i d)) := by
  cases h1 : areCut m l
  · rw [mvP_bad (by simp [mvOk, h1])]
    go_enter Try.func34, Try.ntmps34
    go_wp2_with (go_at_call 51; refine (spec_inGood m A c l lo hi _ (by omega) hcap hr).mono ?_; rintro e w1 ⟨rfl, hE1⟩; obtain ⟨hc1, hf1⟩ := bcell hE1; have hs1 := hE1.size; (try simp only [World.size_alloc] at hs1))
    go_ret2
    exact retC2_nil (by repeat (first | exact Ext.refl _ | assumption | refine Ext.trans ?_ (Ext.alloc _ _) | refine Ext.trans ?_ (Ext.drew _) | refine Ext.trans ?_ (Ext.drewN _ _) | refine Ext.trans ?_ (by assumption)))
  cases h2 : inB i 0 ((l.length : Int) - 1)
  · rw [mvP_bad (by simp [mvOk, h2])]
    go_enter Try.func34, Try.ntmps34
    go_wp2_with (first | (go_at_call 51; refine (spec_inGood m A c l lo hi _ (by omega) hcap hr).mono ?_; rintro e w1 ⟨rfl, hE1⟩; obtain ⟨hc1, hf1⟩ := bcell hE1; have hs1 := hE1.size; (try simp only [World.size_alloc] at hs1)) | (go_at_call 48; refine (l1In_any _ _ _ _).mono ?_; rintro e w' ⟨rfl, rfl⟩))
    go_ret2
    exact retC2_nil (by repeat (first | exact Ext.refl _ | assumption | refine Ext.trans ?_ (Ext.alloc _ _) | refine Ext.trans ?_ (Ext.drew _) | refine Ext.trans ?_ (Ext.drewN _ _) | refine Ext.trans ?_ (by assumption)))
  cases h3 : inB d (-200) 200
  · rw [mvP_bad (by simp [mvOk, h3])]
    go_enter Try.func34, Try.ntmps34
    go_wp2_with (first | (go_at_call 51; refine (spec_inGood m A c l lo hi _ (by omega) hcap hr).mono ?_; rintro e w1 ⟨rfl, hE1⟩; obtain ⟨hc1, hf1⟩ := bcell hE1; have hs1 := hE1.size; (try simp only [World.size_alloc] at hs1)) | (go_at_call 48; refine (l1In_any _ _ _ _).mono ?_; rintro e w' ⟨rfl, rfl⟩))
    go_ret2
    exact retC2_nil (by repeat (first | exact Ext.refl _ | assumption | refine Ext.trans ?_ (Ext.alloc _ _) | refine Ext.trans ?_ (Ext.drew _) | refine Ext.trans ?_ (Ext.drewN _ _) | refine Ext.trans ?_ (by assumption)))
  have hok : mvOk m l i d = true := by simp [mvOk, h1, h2, h3]
  have HOK := Lib.hid hok; clear hok
  obtain ⟨i1, i2⟩ := inB_iff.1 h2
  obtain ⟨d1, d2⟩ := inB_iff.1 h3
  obtain ⟨k, rfl⟩ := Int.eq_ofNat_of_zero_le i1
  have H1 := Lib.hid h1
  obtain ⟨x, hx⟩ : ∃ x, l[k]? = some x := ⟨_, List.getElem?_eq_getElem (by omega)⟩
  have hxc := (isCut_iff.1 (areCut_each h1 (List.mem_of_getElem? hx))).1
  have HX := Lib.hid hx; clear hx
  go_enter Try.func34, Try.ntmps34
  go_wp2_with (first | (go_at_call 51; refine (spec_inGood m A c l lo hi _ (by omega) hcap hr).mono ?_; rintro e w1 ⟨rfl, hE1⟩; obtain ⟨hc1, hf1⟩ := bcell hE1; have hs1 := hE1.size; (try simp only [World.size_alloc] at hs1)) | (go_at_call 48; refine (l1In_any _ _ _ _).mono ?_; rintro e w' ⟨rfl, rfl⟩) | (at_builtin; refine wp_app _ w rfl (.tmp 28) (.tmp 29) 28 rfl 38 _ 4 32 Try.underlying28 cutInfo rfl (by omega) _ 0 [] rfl (own_lit0 _ _ hs1 (Ext.refl _)) (by repeat (first | exact Ext.refl _ | assumption | refine Ext.trans ?_ (Ext.alloc _ _) | refine Ext.trans ?_ (Ext.drew _) | refine Ext.trans ?_ (Ext.drewN _ _) | refine Ext.trans ?_ (by assumption))) _ _ _ l.length _ (l.flatMap Cut.enc) rfl (by rw [len4]) (Rd.toA (hr.ext (by repeat (first | exact Ext.refl _ | assumption | refine Ext.trans ?_ (Ext.alloc _ _) | refine Ext.trans ?_ (Ext.drew _) | refine Ext.trans ?_ (Ext.drewN _ _) | refine Ext.trans ?_ (by assumption))))) (cells_one l) (by omega) hA ?_; intro v2 w2 hown2 hE2 hgr2 hat2; rw [Nat.zero_add, List.nil_append] at hown2; obtain ⟨g, cap, rfl, hg1, hgl, hcap2⟩ := own_some hown2 (by omega); have hR2 : RdC w2 w.heap.size w2.heap.size (some ⟨g, 0, none⟩) l := Rd.of_own hown2; obtain ⟨x', b, off, HX', eA, _, _, _, c0, c1, c2, c3⟩ := RdC.get hR2 (k := k) (by omega); injection eA with eA; injection eA with eb eo _; subst eb; subst eo; have f0 := (hown2.frozenAt (k * 4)); obtain rfl : x = x' := (by have := HX.out.symm.trans HX'.out; injection this); simp only [Nat.zero_add] at c0 c1 c2 c3; clear HX' hgr2 hat2))
  clear hc1 hf1
  have hR3 : RdC (w2.setCell ⟨g, k * 4, none⟩ (.int .i64 (x.line + d))) w.heap.size w2.heap.size (some ⟨g, 0, none⟩) (shiftC l k d) := rd_shift HX.out hR2
  have hE3 : Ext w (w2.setCell ⟨g, k * 4, none⟩ (.int .i64 (x.line + d))) := Ext.setCell hE2 hg1 _
  cases h4 : areCut m (shiftC l k d)
  · refine (inIf_no m _ _ _ (shiftC l k d) _ _ _ (shiftC_len _ _ _) (by rw [shiftC_len]; omega) (by rw [shiftC_len]; exact hcap2) hR3 h4).mono ?_
    rintro e w4 ⟨rfl, hE4⟩
    go_wp2_with fail
    go_ret2
    rw [mvP_bad (by rw [Int.toNat_natCast, h4]; simp)]
    exact retC2_nil (hE3.trans hE4)
  · refine (inIf_yes m _ _ _ (shiftC l k d) _ _ _ (shiftC_len _ _ _) (by rw [shiftC_len]; omega) (by rw [shiftC_len]; exact hcap2) hR3 h4).mono ?_
    rintro e w4 ⟨rfl, hE4⟩
    go_wp2_with fail
    go_ret2
    rw [mvP_good HOK.out (by rw [Int.toNat_natCast]; exact h4)]
    refine ⟨_, cap, by rw [shiftC_len]; rfl, by rw [shiftC_len]; exact hcap2, ?_, hE3.trans hE4⟩
    rw [Int.toNat_natCast]
    exact Rd.wide (hR3.ext hE4) (Nat.le_refl _) (by have := hE4.size; simpa using this) (Nat.le_refl _)
end Go.Proofs.Ytllgjgoimnimaaa
