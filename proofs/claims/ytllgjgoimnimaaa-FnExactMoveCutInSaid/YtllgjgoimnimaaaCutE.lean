/- The walks of the functions that make slices of cut-ins. -/
import Derived.Test.YtllgjgoimnimaaaCutD
import Derived.Test.YtllgjgoimnimaaaCutL
import Derived.Deep.DeepCutAuto
namespace Go.Proofs.Ytllgjgoimnimaaa
open Go.RowKit
theorem encC_one (x : Cut) : [Value.int .i64 x.line, .int .i64 x.lines, .int .i64 x.wide, .int .i64 x.side] = [x].flatMap Cut.enc := by simp [Cut.enc]
theorem cells_one (l : List Cut) : ∀ u ∈ l.flatMap Cut.enc, u.oneCell' = true := by
  intro u hu
  obtain ⟨x, _, hx⟩ := List.mem_flatMap.1 hu
  simp [Cut.enc] at hx
  rcases hx with rfl | rfl | rfl | rfl <;> rfl
def RetC (w : World) (xs : List Cut) (e : Ending) (w' : World) : Prop := ∃ A c, e = .returned (.slice A xs.length c) ∧ xs.length ≤ c ∧ RdC w' w.heap.size w'.heap.size A xs ∧ Ext w w'

theorem own_with {w0 w' : World} {A' : Option Addr} {c' : Nat} {l : List Cut} {x : Cut} {lo : Nat} (hlo : lo ≤ w0.heap.size)
    (h : w'.ownsRow w0.heap.size 38 4 (.slice A' (0 + l.length + 1) c') (0 + l.length + 1) ([] ++ l.flatMap Cut.enc ++ [.int .i64 x.line, .int .i64 x.lines, .int .i64 x.wide, .int .i64 x.side])) : RdC w' lo w'.heap.size A' (l ++ [x]) := by
  have h := Rd.of_own h
  rw [List.nil_append, encC_one, ← List.flatMap_append] at h
  exact Rd.wide h hlo (Nat.le_refl _) (Nat.le_refl _)

set_option maxHeartbeats 1000000 in
theorem inWith_any (A : Option Addr) (c : Nat) (l : List Cut) (x : Cut) (lo hi : Nat) (w : World) (hl : l.length ≤ 1048577) (hA : A = none → l.length = 0) (hr : RdC w lo hi A l) :
    Calls Try.prog 58 #[.slice A l.length c, .agg #[.int .i64 x.line, .int .i64 x.lines, .int .i64 x.wide, .int .i64 x.side]] w fun e w' => ∃ A' c', e = .returned (.slice A' (l.length + 1) c') ∧ l.length + 1 ≤ c' ∧ RdC w' w.heap.size w'.heap.size A' (l ++ [x]) ∧ Ext w w' := by
  go_enter Try.func58, Try.ntmps58
  go_wp2_with fail
  obtain ⟨w0, hw0⟩ : ∃ w0, w0 = w.alloc (.cells #[.int .i64 x.line, .int .i64 x.lines, .int .i64 x.wide, .int .i64 x.side] 38) := ⟨_, rfl⟩
  have x0 : w0.cell? ⟨w.heap.size, 0, none⟩ = some (.int .i64 x.line) := by rw [hw0]; exact box_new (Ext.refl _) rfl
  have x1 : w0.cell? ⟨w.heap.size, 1, none⟩ = some (.int .i64 x.lines) := by rw [hw0]; exact box_new (Ext.refl _) rfl
  have x2 : w0.cell? ⟨w.heap.size, 2, none⟩ = some (.int .i64 x.wide) := by rw [hw0]; exact box_new (Ext.refl _) rfl
  have x3 : w0.cell? ⟨w.heap.size, 3, none⟩ = some (.int .i64 x.side) := by rw [hw0]; exact box_new (Ext.refl _) rfl
  have hE0 : Ext w w0 := by rw [hw0]; exact Ext.alloc _ _
  rw [← hw0]
  clear hw0
  have e0 : ∀ w', Ext w0 w' → w'.cell? ⟨w.heap.size, 0, none⟩ = _ := fun _ h => h.cell x0
  have e1 : ∀ w', Ext w0 w' → w'.cell? ⟨w.heap.size, 1, none⟩ = _ := fun _ h => h.cell x1
  have e2 : ∀ w', Ext w0 w' → w'.cell? ⟨w.heap.size, 2, none⟩ = _ := fun _ h => h.cell x2
  have e3 : ∀ w', Ext w0 w' → w'.cell? ⟨w.heap.size, 3, none⟩ = _ := fun _ h => h.cell x3
  have hrA := RdA.ext (Rd.toA hr) hE0
  go_region_held3 (fun w' => Ext w0 w') (exact (by repeat (first | exact Ext.refl _ | assumption | refine Ext.trans ?_ (Ext.alloc _ _) | refine Ext.trans ?_ (Ext.drew _) | refine Ext.trans ?_ (Ext.drewN _ _) | refine Ext.trans ?_ (by assumption)))) ((first | (refine step_app _ w0 rfl (.tmp 5) (.tmp 6) 28 rfl 38 _ 4 32 Try.underlying28 cutInfo rfl (by omega) (.slice (some ⟨_, 0, none⟩) 0 0) 0 [] rfl (own_at (by (first | (simp only [hp_alloc, hp_drew, hp_drewN, Array.getElem?_push, Array.size_push]; simp; done) | (rw [hgA.block _ (by simp only [hp_alloc, hp_drew, hp_drewN, Array.size_push]; omega) (by simp [Value.ownBlock])]; (simp only [hp_alloc, hp_drew, hp_drewN, Array.getElem?_push, Array.size_push]; simp; done)))) (by omega)) (by first | assumption | exact hHeld) _ _ _ l.length _ (l.flatMap Cut.enc) rfl (by (simp only [len4])) (RdA.ext hrA (by first | assumption | exact hHeld)) (cells_one l) (by omega) hA ?_; intro vA wA hownA hEA hgA hatA) | (refine step_app _ w0 rfl (.tmp 7) (.tmp 9) 28 rfl 38 _ 4 32 Try.underlying28 cutInfo rfl (by omega) vA (0 + l.length) ([] ++ l.flatMap Cut.enc) rfl (by first | exact hownA | exact ownsRow_ext hownA (Ext.alloc _ _)) (by first | assumption | exact hHeld) _ _ _ 1 1 [.int .i64 x.line, .int .i64 x.lines, .int .i64 x.wide, .int .i64 x.side] rfl rfl (rdA_at (cs := #[.int .i64 x.line, .int .i64 x.lines, .int .i64 x.wide, .int .i64 x.side]) (t := 38) (by (first | (simp only [hp_alloc, hp_drew, hp_drewN, Array.getElem?_push, Array.size_push]; simp; done) | (rw [hgA.block _ (by simp only [hp_alloc, hp_drew, hp_drewN, Array.size_push]; omega) (by simp [Value.ownBlock])]; (simp only [hp_alloc, hp_drew, hp_drewN, Array.getElem?_push, Array.size_push]; simp; done)))) rfl) (by simp [Value.oneCell']) (by omega) (by simp) ?_; intro vB wB hownB hEB hgB hatB)))
  all_goals
    go_wp2_with fail
    obtain ⟨A', c', rfl, hc', _⟩ := own_form hownB
    go_ret
    exact ⟨A', c', by rw [Nat.zero_add]; rfl, by omega, own_with hE0.size hownB, hE0.trans hEB⟩

def RetC2 (w : World) (p : List Cut × Bool) (e : Ending) (w' : World) : Prop := ∃ A c, e = .returned (.tuple #[.slice A p.1.length c, .bool p.2]) ∧ p.1.length ≤ c ∧ RdC w' w.heap.size w'.heap.size A p.1 ∧ Ext w w'
theorem retC2_nil {w w' : World} {a : Option Addr} {c : Nat} (hE : Ext w w') : RetC2 w ([], false) (.returned (.tuple #[.slice a 0 c, .bool false])) w' := ⟨a, c, rfl, Nat.zero_le _, Rd.nil (Nat.le_refl _), hE⟩
def acP (m : Int) (l : List Cut) (x : Cut) : List Cut × Bool := if areCut m l && areCut m (l ++ [x]) then (l ++ [x], true) else ([], false)
theorem acP_bad {m : Int} {l : List Cut} {x : Cut} (h : (areCut m l && areCut m (l ++ [x])) = false) : acP m l x = ([], false) := by simp only [acP, h]; rfl
theorem acP_good {m : Int} {l : List Cut} {x : Cut} (h1 : areCut m l = true) (h2 : areCut m (l ++ [x]) = true) : acP m l x = (l ++ [x], true) := by simp only [acP, h1, h2]; rfl
theorem acP_len {m : Int} {l : List Cut} {x : Cut} (hl : l.length ≤ 1048576) : (acP m l x).1.length ≤ 4000000 := by
  unfold acP
  split
  · simp; omega
  · simp

theorem inIf_yes (m : Int) (A : Option Addr) (c n : Nat) (l : List Cut) (lo hi : Nat) (w : World) (hn : l.length = n) (hl : l.length ≤ 1048577) (hcap : l.length ≤ c) (hr : RdC w lo hi A l) (h : areCut m l = true) :
    Calls Try.prog 65 #[.int .i64 m, .slice A n c] w fun e w' => e = .returned (.tuple #[.slice A n c, .bool true]) ∧ Ext w w' := by
  subst hn
  go_enter Try.func65, Try.ntmps65
  go_wp2_with (go_at_call 51; refine (spec_inGood m A c l lo hi _ hl hcap hr).mono ?_; rintro e w1 ⟨rfl, hE1⟩; obtain ⟨hc1, hf1⟩ := bcell hE1; have hs1 := hE1.size; (try simp only [World.size_alloc] at hs1))
  go_ret2
  exact ⟨rfl, (by repeat (first | exact Ext.refl _ | assumption | refine Ext.trans ?_ (Ext.alloc _ _) | refine Ext.trans ?_ (Ext.drew _) | refine Ext.trans ?_ (Ext.drewN _ _) | refine Ext.trans ?_ (by assumption)))⟩
theorem inIf_no (m : Int) (A : Option Addr) (c n : Nat) (l : List Cut) (lo hi : Nat) (w : World) (hn : l.length = n) (hl : l.length ≤ 1048577) (hcap : l.length ≤ c) (hr : RdC w lo hi A l) (h : areCut m l = false) :
    Calls Try.prog 65 #[.int .i64 m, .slice A n c] w fun e w' => e = .returned (.tuple #[.slice none 0 0, .bool false]) ∧ Ext w w' := by
  subst hn
  go_enter Try.func65, Try.ntmps65
  go_wp2_with (go_at_call 51; refine (spec_inGood m A c l lo hi _ hl hcap hr).mono ?_; rintro e w1 ⟨rfl, hE1⟩; obtain ⟨hc1, hf1⟩ := bcell hE1; have hs1 := hE1.size; (try simp only [World.size_alloc] at hs1))
  go_ret2
  exact ⟨rfl, (by repeat (first | exact Ext.refl _ | assumption | refine Ext.trans ?_ (Ext.alloc _ _) | refine Ext.trans ?_ (Ext.drew _) | refine Ext.trans ?_ (Ext.drewN _ _) | refine Ext.trans ?_ (by assumption)))⟩

theorem spec_AddCutIn (m : Int) (A : Option Addr) (c : Nat) (l : List Cut) (x : Cut) (lo hi : Nat) (w : World) (hl : l.length ≤ 1048576) (hcap : l.length ≤ c) (hA : A = none → l.length = 0) (hr : RdC w lo hi A l) :
    Calls Try.prog 30 #[.int .i64 m, .slice A l.length c, .agg #[.int .i64 x.line, .int .i64 x.lines, .int .i64 x.wide, .int .i64 x.side]] w (RetC2 w (acP m l x)) := by
  have hr0 := fun o => hr.ext (Ext.alloc w o)
  cases h1 : areCut m l
  · rw [acP_bad (by simp [h1])]
    go_enter Try.func30, Try.ntmps30
    go_wp2_with (go_at_call 51; refine (spec_inGood m A c l lo hi _ (by omega) hcap (hr0 _)).mono ?_; rintro e w1 ⟨rfl, hE1⟩; obtain ⟨hc1, hf1⟩ := bcell hE1; have hs1 := hE1.size; (try simp only [World.size_alloc] at hs1))
    go_ret2
    exact retC2_nil (by repeat (first | exact Ext.refl _ | assumption | refine Ext.trans ?_ (Ext.alloc _ _) | refine Ext.trans ?_ (Ext.drew _) | refine Ext.trans ?_ (Ext.drewN _ _) | refine Ext.trans ?_ (by assumption)))
  go_enter Try.func30, Try.ntmps30
  go_wp2_with (go_at_call 51; refine (spec_inGood m A c l lo hi _ (by omega) hcap (hr0 _)).mono ?_; rintro e w1 ⟨rfl, hE1⟩; obtain ⟨hc1, hf1⟩ := bcell hE1; have hs1 := hE1.size; (try simp only [World.size_alloc] at hs1))
  refine (inWith_any A c l x lo hi _ (by omega) hA ((hr0 _).ext hE1)).mono ?_
  rintro e w2 ⟨A2, c2, rfl, hc2, hR2, hE2⟩
  go_wp2_with fail
  cases h2 : areCut m (l ++ [x])
  · refine (inIf_no m _ _ _ _ _ _ _ (by simp) (by simp; omega) (by simpa using hc2) hR2 h2).mono ?_
    rintro e w3 ⟨rfl, hE3⟩
    go_wp2_with fail
    go_ret2
    rw [acP_bad (by simp [h2])]
    exact retC2_nil (by repeat (first | exact Ext.refl _ | assumption | refine Ext.trans ?_ (Ext.alloc _ _) | refine Ext.trans ?_ (Ext.drew _) | refine Ext.trans ?_ (Ext.drewN _ _) | refine Ext.trans ?_ (by assumption)))
  · refine (inIf_yes m _ _ _ _ _ _ _ (by simp) (by simp; omega) (by simpa using hc2) hR2 h2).mono ?_
    rintro e w3 ⟨rfl, hE3⟩
    go_wp2_with fail
    go_ret2
    rw [acP_good h1 h2]
    exact ⟨A2, c2, by rw [List.length_append]; rfl, by simpa using hc2, Rd.wide (hR2.ext hE3) (by have := hE1.size; simp at this; omega) hE3.size (Nat.le_refl _), (by repeat (first | exact Ext.refl _ | assumption | refine Ext.trans ?_ (Ext.alloc _ _) | refine Ext.trans ?_ (Ext.drew _) | refine Ext.trans ?_ (Ext.drewN _ _) | refine Ext.trans ?_ (by assumption)))⟩

set_option maxHeartbeats 1000000 in
theorem impl_AddCutIn (m : Int) (A : Option Addr) (c : Nat) (l : List Cut) (x : Cut) (lo hi : Nat) (w : World) (hl : l.length ≤ 1048576) (hcap : l.length ≤ c) (hA : A = none → l.length = 0) (hr : RdC w lo hi A l) :
    Calls Try.prog 31 #[.int .i64 m, .slice A l.length c, .agg #[.int .i64 x.line, .int .i64 x.lines, .int .i64 x.wide, .int .i64 x.side]] w (RetC2 w (acP m l x)) := by
  go_enter Try.func31, Try.ntmps31
  go_upto_region 1 with fail
  obtain ⟨w0, hw0⟩ : ∃ w0, w0 = w.alloc (.cells #[.int .i64 x.line, .int .i64 x.lines, .int .i64 x.wide, .int .i64 x.side] 38) := ⟨_, rfl⟩
  have x0 : w0.cell? ⟨w.heap.size, 0, none⟩ = some (.int .i64 x.line) := by rw [hw0]; exact box_new (Ext.refl _) rfl
  have x1 : w0.cell? ⟨w.heap.size, 1, none⟩ = some (.int .i64 x.lines) := by rw [hw0]; exact box_new (Ext.refl _) rfl
  have x2 : w0.cell? ⟨w.heap.size, 2, none⟩ = some (.int .i64 x.wide) := by rw [hw0]; exact box_new (Ext.refl _) rfl
  have x3 : w0.cell? ⟨w.heap.size, 3, none⟩ = some (.int .i64 x.side) := by rw [hw0]; exact box_new (Ext.refl _) rfl
  have hE0 : Ext w w0 := by rw [hw0]; exact Ext.alloc _ _
  have hlt0 : w.heap.size < w0.heap.size := by rw [hw0]; simp
  rw [← hw0]
  clear hw0
  have e0 : ∀ w', Ext w0 w' → w'.cell? ⟨w.heap.size, 0, none⟩ = _ := fun _ h => h.cell x0
  have e1 : ∀ w', Ext w0 w' → w'.cell? ⟨w.heap.size, 1, none⟩ = _ := fun _ h => h.cell x1
  have e2 : ∀ w', Ext w0 w' → w'.cell? ⟨w.heap.size, 2, none⟩ = _ := fun _ h => h.cell x2
  have e3 : ∀ w', Ext w0 w' → w'.cell? ⟨w.heap.size, 3, none⟩ = _ := fun _ h => h.cell x3
  have hrA := RdA.ext (Rd.toA hr) hE0
  go_cut [8] (fun s8 wx => ∃ A' c', s8 = .slice A' (l.length + 1) c' ∧ l.length + 1 ≤ c' ∧ RdC wx w.heap.size wx.heap.size A' (l ++ [x]) ∧ Ext w wx)
  case first =>
    go_region_held3 (fun w' => Ext w0 w') (exact (by repeat (first | exact Ext.refl _ | assumption | refine Ext.trans ?_ (Ext.alloc _ _) | refine Ext.trans ?_ (Ext.drew _) | refine Ext.trans ?_ (Ext.drewN _ _) | refine Ext.trans ?_ (by assumption)))) ((first | (refine step_app _ w0 rfl (.tmp 9) (.tmp 10) 28 rfl 38 _ 4 32 Try.underlying28 cutInfo rfl (by omega) (.slice (some ⟨_, 0, none⟩) 0 0) 0 [] rfl (own_at (by (first | (simp only [hp_alloc, hp_drew, hp_drewN, Array.getElem?_push, Array.size_push]; simp; done) | (rw [hgA.block _ (by simp only [hp_alloc, hp_drew, hp_drewN, Array.size_push]; omega) (by simp [Value.ownBlock])]; (simp only [hp_alloc, hp_drew, hp_drewN, Array.getElem?_push, Array.size_push]; simp; done)))) (by omega)) (by first | assumption | exact hHeld) _ _ _ l.length _ (l.flatMap Cut.enc) rfl (by (simp only [len4])) (RdA.ext hrA (by first | assumption | exact hHeld)) (cells_one l) (by omega) hA ?_; intro vA wA hownA hEA hgA hatA) | (refine step_app _ w0 rfl (.tmp 11) (.tmp 13) 28 rfl 38 _ 4 32 Try.underlying28 cutInfo rfl (by omega) vA (0 + l.length) ([] ++ l.flatMap Cut.enc) rfl (by first | exact hownA | exact ownsRow_ext hownA (Ext.alloc _ _)) (by first | assumption | exact hHeld) _ _ _ 1 1 [.int .i64 x.line, .int .i64 x.lines, .int .i64 x.wide, .int .i64 x.side] rfl rfl (rdA_at (cs := #[.int .i64 x.line, .int .i64 x.lines, .int .i64 x.wide, .int .i64 x.side]) (t := 38) (by (first | (simp only [hp_alloc, hp_drew, hp_drewN, Array.getElem?_push, Array.size_push]; simp; done) | (rw [hgA.block _ (by simp only [hp_alloc, hp_drew, hp_drewN, Array.size_push]; omega) (by simp [Value.ownBlock])]; (simp only [hp_alloc, hp_drew, hp_drewN, Array.getElem?_push, Array.size_push]; simp; done)))) rfl) (by simp [Value.oneCell']) (by omega) (by simp) ?_; intro vB wB hownB hEB hgB hatB)))
    all_goals
      go_wp2_with fail
      obtain ⟨A', c', rfl, hc', _⟩ := own_form hownB
      go_meet
      exact ⟨A', c', by rw [Nat.zero_add], by omega, own_with hE0.size hownB, hE0.trans hEB⟩
  case rest =>
    obtain ⟨A', c', rfl, hc', hR, hE⟩ := hcut
    clear e0 e1 e2 e3 x0 x1 x2 x3 hrA hlt0
    cases h1 : areCut m l
    · go_wp2_with (go_at_call 19; refine (impl_AreCutIns m A c l lo hi _ (by omega) hcap (hr.ext hE)).mono ?_; rintro e w1 ⟨rfl, hE1⟩; obtain ⟨hc1, hf1⟩ := bcell hE1; have hs1 := hE1.size; (try simp only [World.size_alloc] at hs1))
      go_ret2
      rw [acP_bad (by simp [h1])]
      exact retC2_nil (by repeat (first | exact Ext.refl _ | assumption | refine Ext.trans ?_ (Ext.alloc _ _) | refine Ext.trans ?_ (Ext.drew _) | refine Ext.trans ?_ (Ext.drewN _ _) | refine Ext.trans ?_ (by assumption)))
    · go_wp2_with fail
      refine (impl_AreCutIns m A c l lo hi _ (by omega) hcap (hr.ext hE)).mono ?_
      rintro e w1 ⟨rfl, hE1⟩
      go_wp2_with fail
      have hq := impl_AreCutIns m A' c' (l ++ [x]) _ _ _ (by simp; omega) (by simpa using hc') (hR.ext hE1)
      rw [List.length_append] at hq
      refine hq.mono ?_
      clear hq
      rintro e w2 ⟨rfl, hE2⟩
      cases h2 : areCut m (l ++ [x])
      · go_wp2_with fail
        go_ret2
        rw [acP_bad (by simp [h2])]
        exact retC2_nil (by repeat (first | exact Ext.refl _ | assumption | refine Ext.trans ?_ (Ext.alloc _ _) | refine Ext.trans ?_ (Ext.drew _) | refine Ext.trans ?_ (Ext.drewN _ _) | refine Ext.trans ?_ (by assumption)))
      · go_wp2_with fail
        go_ret2
        rw [acP_good h1 h2]
        exact ⟨A', c', by rw [List.length_append]; rfl, by simpa using hc', Rd.wide ((hR.ext hE1).ext hE2) (Nat.le_refl _) (by have := hE1.size; have := hE2.size; omega) (Nat.le_refl _), (by repeat (first | exact Ext.refl _ | assumption | refine Ext.trans ?_ (Ext.alloc _ _) | refine Ext.trans ?_ (Ext.drew _) | refine Ext.trans ?_ (Ext.drewN _ _) | refine Ext.trans ?_ (by assumption)))⟩
end Go.Proofs.Ytllgjgoimnimaaa
