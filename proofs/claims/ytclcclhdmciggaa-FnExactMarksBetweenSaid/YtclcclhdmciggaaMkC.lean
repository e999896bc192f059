/- The walks of AddMark: the program's and the reference's. -/
import Derived.Test.YtclcclhdmciggaaMkB
import Derived.Test.YtclcclhdmciggaaMcP
namespace Go.Proofs.Ytclcclhdmciggaa
open Go.RowKit
set_option linter.unusedVariables false
/-- A fresh []Mark and a bool. -/
def RetM2 (w : World) (p : List Mrk × Bool) (e : Ending) (w' : World) : Prop := ∃ A c, e = .returned (.tuple #[.slice A p.1.length c, .bool p.2]) ∧ p.1.length ≤ c ∧ RdM w' w.heap.size w'.heap.size A p.1 ∧ Ext w w'
theorem retM2_nil {w w' : World} {a : Option Addr} {c : Nat} (hE : Ext w w') : RetM2 w ([], false) (.returned (.tuple #[.slice a 0 c, .bool false])) w' := ⟨a, c, rfl, Nat.zero_le _, Rd.nil (Nat.le_refl _), hE⟩
def amP (l : List ByteArray) (ms : List Mrk) (m : Mrk) : List Mrk × Bool := if aMk l ms && aMk l (ms ++ [m]) then (ms ++ [m], true) else ([], false)
theorem amP_bad {l : List ByteArray} {ms : List Mrk} {m : Mrk} (h : (aMk l ms && aMk l (ms ++ [m])) = false) : amP l ms m = ([], false) := by simp only [amP, h]; rfl
theorem amP_good {l : List ByteArray} {ms : List Mrk} {m : Mrk} (h1 : aMk l ms = true) (h2 : aMk l (ms ++ [m]) = true) : amP l ms m = (ms ++ [m], true) := by simp only [amP, h1, h2]; rfl
theorem amP_len (l : List ByteArray) (ms : List Mrk) (m : Mrk) : (amP l ms m).1.length ≤ 4000000 := by
  cases h : aMk l ms && aMk l (ms ++ [m])
  · rw [amP_bad h]; simp
  · simp only [Bool.and_eq_true] at h
    rw [amP_good h.1 h.2]
    have := aMk_len h.2
    show (ms ++ [m]).length ≤ _
    omega
theorem marks_one (l : List Mrk) : ∀ u ∈ l.flatMap Mrk.enc, u.oneCell' = true := by
  intro u hu
  obtain ⟨x, _, hx⟩ := List.mem_flatMap.1 hu
  simp [Mrk.enc] at hx
  rcases hx with rfl | rfl | rfl | rfl <;> rfl
set_option maxHeartbeats 1000000 in
theorem impl_AddMark (A B : Option Addr) (c d : Nat) (l : List ByteArray) (ms : List Mrk) (x : Mrk) (lo hi lo' hi' : Nat) (w : World) (hl : l.length ≤ 1048577) (hb : ∀ s ∈ l, s.size ≤ 1048577) (hl' : ms.length ≤ 1048576) (hb' : ∀ m ∈ ms, m.text.size ≤ 1048577) (hx : x.text.size ≤ 1048577) (hA : B = none → ms.length = 0) (hr : RdT w lo hi A l) (hr' : RdM w lo' hi' B ms) :
    Calls Try.prog 15 #[.slice A l.length c, .slice B ms.length d, .agg #[.int .i64 x.line, .int .i64 x.place, .int .i64 x.kind, .string x.text]] w (RetM2 w (amP l ms x)) := by
  obtain ⟨P, hP⟩ : ∃ P, P = amP l ms x := ⟨_, rfl⟩
  rw [← hP]
  have HP := Lib.hid hP; clear hP
  go_enter Try.func15, Try.ntmps15
  go_wp2_with fail
  obtain ⟨w0, hw0⟩ : ∃ w0, w0 = w.alloc (.cells #[.int .i64 x.line, .int .i64 x.place, .int .i64 x.kind, .string x.text] 34) := ⟨_, rfl⟩
  have x0 : w0.cell? ⟨w.heap.size, 0, none⟩ = some (.int .i64 x.line) := by rw [hw0]; exact box_new (Ext.refl _) rfl
  have x1 : w0.cell? ⟨w.heap.size, 1, none⟩ = some (.int .i64 x.place) := by rw [hw0]; exact box_new (Ext.refl _) rfl
  have x2 : w0.cell? ⟨w.heap.size, 2, none⟩ = some (.int .i64 x.kind) := by rw [hw0]; exact box_new (Ext.refl _) rfl
  have x3 : w0.cell? ⟨w.heap.size, 3, none⟩ = some (.string x.text) := by rw [hw0]; exact box_new (Ext.refl _) rfl
  have hE0 : Ext w w0 := by rw [hw0]; exact Ext.alloc _ _
  rw [← hw0]
  clear hw0
  have e0 : ∀ w', Ext w0 w' → w'.cell? ⟨w.heap.size, 0, none⟩ = _ := fun _ h => h.cell x0
  have e1 : ∀ w', Ext w0 w' → w'.cell? ⟨w.heap.size, 1, none⟩ = _ := fun _ h => h.cell x1
  have e2 : ∀ w', Ext w0 w' → w'.cell? ⟨w.heap.size, 2, none⟩ = _ := fun _ h => h.cell x2
  have e3 : ∀ w', Ext w0 w' → w'.cell? ⟨w.heap.size, 3, none⟩ = _ := fun _ h => h.cell x3
  have hrA := RdA.ext (Rd.toA hr') hE0
  go_region_held3 (fun w' => Ext w0 w') (exact (by repeat (first | exact Ext.refl _ | assumption | refine Ext.trans ?_ (Ext.alloc _ _) | refine Ext.trans ?_ (Ext.drew _) | refine Ext.trans ?_ (Ext.drewN _ _) | refine Ext.trans ?_ (by assumption)))) ((first | (refine step_app _ w0 rfl (.tmp 9) (.tmp 10) 29 rfl 34 _ 4 40 Try.underlying29 markInfo rfl (by omega) (.slice (some ⟨_, 0, none⟩) 0 0) 0 [] rfl (own_at (by (first | (simp only [hp_alloc, hp_drew, hp_drewN, Array.getElem?_push, Array.size_push]; simp; done) | (rw [hgA.block _ (by simp only [hp_alloc, hp_drew, hp_drewN, Array.size_push]; omega) (by simp [Value.ownBlock])]; (simp only [hp_alloc, hp_drew, hp_drewN, Array.getElem?_push, Array.size_push]; simp; done)))) (by omega)) (by first | assumption | exact hHeld) _ _ _ ms.length _ (ms.flatMap Mrk.enc) rfl (by (first | (simp only [len4]; done) | exact lenM _ | exact lenB _)) (RdA.ext hrA (by first | assumption | exact hHeld)) (marks_one ms) (by omega) hA ?_; intro vA wA hownA hEA hgA hatA) | (refine step_app _ w0 rfl (.tmp 11) (.tmp 13) 29 rfl 34 _ 4 40 Try.underlying29 markInfo rfl (by omega) vA (0 + ms.length) ([] ++ ms.flatMap Mrk.enc) rfl (by first | exact hownA | exact ownsRow_ext hownA (Ext.alloc _ _)) (by first | assumption | exact hHeld) _ _ _ 1 1 [.int .i64 x.line, .int .i64 x.place, .int .i64 x.kind, .string x.text] rfl rfl (rdA_at (cs := #[.int .i64 x.line, .int .i64 x.place, .int .i64 x.kind, .string x.text]) (t := 34) (by (first | (simp only [hp_alloc, hp_drew, hp_drewN, Array.getElem?_push, Array.size_push]; simp; done) | (rw [hgA.block _ (by simp only [hp_alloc, hp_drew, hp_drewN, Array.size_push]; omega) (by simp [Value.ownBlock])]; (simp only [hp_alloc, hp_drew, hp_drewN, Array.getElem?_push, Array.size_push]; simp; done)))) rfl) (by simp [Value.oneCell']) (by omega) (by simp) ?_; intro vB wB hownB hEB hgB hatB)))
  all_goals
    clear e0 e1 e2 e3 x0 x1 x2 x3
    have hz0 := hE0.size
    have hzB := hEB.size
    obtain ⟨A', c', rfl, hc', _⟩ := own_form hownB
    have hRB0 : RdM wB w0.heap.size wB.heap.size A' (ms ++ [x]) := by
      have h := Rd.of_own hownB
      unfold RdM
      rw [List.flatMap_append]
      simpa [Mrk.enc] using h
    have hRB := Rd.wide hRB0 hz0 (Nat.le_refl _) (Nat.le_refl _)
    have hlen : (ms ++ [x]).length = 0 + ms.length + 1 := by simp
    have hEwB := hE0.trans hEB
    have HB := Lib.hid hb; have HB' := Lib.hid hb'
    have hbx : ∀ m ∈ ms ++ [x], m.text.size ≤ 1048577 := fun m hm => by
      rcases List.mem_append.1 hm with h | h
      · exact hb' m h
      · simp at h; subst h; exact hx
    have HBX := Lib.hid hbx
    rw [← hlen] at hc' ⊢
    have hln : (ms ++ [x]).length ≤ 1048577 := by omega
    have HLN := Lib.hid hlen
    clear hb hb' hbx hlen hownB hgB hatB
    obtain ⟨ns, hns⟩ : ∃ ns, ns = ms ++ [x] := ⟨_, rfl⟩
    rw [← hns] at hRB hln hc' HBX ⊢
    have HNS := Lib.hid hns
    clear hns
    go_wp2_with fail
    cases h1 : aMk l ms
    · have HV : Hid (P = ([], false)) := by show _ = _; rw [HP.out]; exact amP_bad (by simp [h1])
      refine (impl_AreMarks A B c d l ms lo hi lo' hi' _ hl HB.out (by omega) HB'.out (hr.ext (by repeat (first | exact Ext.refl _ | assumption | refine Ext.trans ?_ (Ext.alloc _ _) | refine Ext.trans ?_ (Ext.drew _) | refine Ext.trans ?_ (Ext.drewN _ _) | refine Ext.trans ?_ (by assumption)))) (hr'.ext (by repeat (first | exact Ext.refl _ | assumption | refine Ext.trans ?_ (Ext.alloc _ _) | refine Ext.trans ?_ (Ext.drew _) | refine Ext.trans ?_ (Ext.drewN _ _) | refine Ext.trans ?_ (by assumption))))).mono ?_
      rw [h1]
      rintro e w3 ⟨rfl, hE3⟩
      go_wp2_with fail
      go_ret2
      rw [HV.out]
      exact retM2_nil (by repeat (first | exact Ext.refl _ | assumption | refine Ext.trans ?_ (Ext.alloc _ _) | refine Ext.trans ?_ (Ext.drew _) | refine Ext.trans ?_ (Ext.drewN _ _) | refine Ext.trans ?_ (by assumption)))
    · refine (impl_AreMarks A B c d l ms lo hi lo' hi' _ hl HB.out (by omega) HB'.out (hr.ext (by repeat (first | exact Ext.refl _ | assumption | refine Ext.trans ?_ (Ext.alloc _ _) | refine Ext.trans ?_ (Ext.drew _) | refine Ext.trans ?_ (Ext.drewN _ _) | refine Ext.trans ?_ (by assumption)))) (hr'.ext (by repeat (first | exact Ext.refl _ | assumption | refine Ext.trans ?_ (Ext.alloc _ _) | refine Ext.trans ?_ (Ext.drew _) | refine Ext.trans ?_ (Ext.drewN _ _) | refine Ext.trans ?_ (by assumption))))).mono ?_
      rw [h1]
      rintro e w3 ⟨rfl, hE3⟩
      go_wp2_with fail
      cases h2 : aMk l ns
      · have HV : Hid (P = ([], false)) := by show _ = _; rw [HP.out]; exact amP_bad (by rw [← HNS.out, h2]; simp)
        refine (impl_AreMarks A A' c c' l ns lo hi _ _ _ hl HB.out hln HBX.out (hr.ext (by repeat (first | exact Ext.refl _ | assumption | refine Ext.trans ?_ (Ext.alloc _ _) | refine Ext.trans ?_ (Ext.drew _) | refine Ext.trans ?_ (Ext.drewN _ _) | refine Ext.trans ?_ (by assumption)))) (RdM.ext hRB (by repeat (first | exact Ext.refl _ | assumption | refine Ext.trans ?_ (Ext.alloc _ _) | refine Ext.trans ?_ (Ext.drew _) | refine Ext.trans ?_ (Ext.drewN _ _) | refine Ext.trans ?_ (by assumption))))).mono ?_
        rw [h2]
        rintro e w4 ⟨rfl, hE4⟩
        go_wp2_with fail
        go_ret2
        rw [HV.out]
        exact retM2_nil (by repeat (first | exact Ext.refl _ | assumption | refine Ext.trans ?_ (Ext.alloc _ _) | refine Ext.trans ?_ (Ext.drew _) | refine Ext.trans ?_ (Ext.drewN _ _) | refine Ext.trans ?_ (by assumption)))
      · have HV : Hid (P = (ns, true)) := by show _ = _; rw [HP.out, HNS.out]; exact amP_good h1 (by rw [← HNS.out]; exact h2)
        refine (impl_AreMarks A A' c c' l ns lo hi _ _ _ hl HB.out hln HBX.out (hr.ext (by repeat (first | exact Ext.refl _ | assumption | refine Ext.trans ?_ (Ext.alloc _ _) | refine Ext.trans ?_ (Ext.drew _) | refine Ext.trans ?_ (Ext.drewN _ _) | refine Ext.trans ?_ (by assumption)))) (RdM.ext hRB (by repeat (first | exact Ext.refl _ | assumption | refine Ext.trans ?_ (Ext.alloc _ _) | refine Ext.trans ?_ (Ext.drew _) | refine Ext.trans ?_ (Ext.drewN _ _) | refine Ext.trans ?_ (by assumption))))).mono ?_
        rw [h2]
        rintro e w4 ⟨rfl, hE4⟩
        go_wp2_with fail
        go_ret2
        rw [HV.out]
        exact ⟨A', c', rfl, hc', (Rd.ext hRB (by repeat (first | exact Ext.refl _ | assumption | refine Ext.trans ?_ (Ext.alloc _ _) | refine Ext.trans ?_ (Ext.drew _) | refine Ext.trans ?_ (Ext.drewN _ _) | refine Ext.trans ?_ (by assumption)))).wide (Nat.le_refl _) (hE3.trans hE4).size (Nat.le_refl _), (by repeat (first | exact Ext.refl _ | assumption | refine Ext.trans ?_ (Ext.alloc _ _) | refine Ext.trans ?_ (Ext.drew _) | refine Ext.trans ?_ (Ext.drewN _ _) | refine Ext.trans ?_ (by assumption)))⟩
set_option maxHeartbeats 1000000 in
theorem spec_AddMark (A B : Option Addr) (c d : Nat) (l : List ByteArray) (ms : List Mrk) (x : Mrk) (lo hi lo' hi' : Nat) (w : World) (hl : l.length ≤ 1048577) (hb : ∀ s ∈ l, s.size ≤ 1048577) (hl' : ms.length ≤ 1048576) (hb' : ∀ m ∈ ms, m.text.size ≤ 1048577) (hx : x.text.size ≤ 1048577) (hA : B = none → ms.length = 0) (hr : RdT w lo hi A l) (hr' : RdM w lo' hi' B ms) :
    Calls Try.prog 11 #[.slice A l.length c, .slice B ms.length d, .agg #[.int .i64 x.line, .int .i64 x.place, .int .i64 x.kind, .string x.text]] w (RetM2 w (amP l ms x)) := by
  obtain ⟨P, hP⟩ : ∃ P, P = amP l ms x := ⟨_, rfl⟩
  rw [← hP]
  have HP := Lib.hid hP; clear hP
  go_enter Try.func11, Try.ntmps11
  go_wp2_with fail
  obtain ⟨w0, hw0⟩ : ∃ w0, w0 = w.alloc (.cells #[.int .i64 x.line, .int .i64 x.place, .int .i64 x.kind, .string x.text] 34) := ⟨_, rfl⟩
  have x0 : w0.cell? ⟨w.heap.size, 0, none⟩ = some (.int .i64 x.line) := by rw [hw0]; exact box_new (Ext.refl _) rfl
  have x1 : w0.cell? ⟨w.heap.size, 1, none⟩ = some (.int .i64 x.place) := by rw [hw0]; exact box_new (Ext.refl _) rfl
  have x2 : w0.cell? ⟨w.heap.size, 2, none⟩ = some (.int .i64 x.kind) := by rw [hw0]; exact box_new (Ext.refl _) rfl
  have x3 : w0.cell? ⟨w.heap.size, 3, none⟩ = some (.string x.text) := by rw [hw0]; exact box_new (Ext.refl _) rfl
  have hE0 : Ext w w0 := by rw [hw0]; exact Ext.alloc _ _
  rw [← hw0]
  clear hw0
  have e0 : ∀ w', Ext w0 w' → w'.cell? ⟨w.heap.size, 0, none⟩ = _ := fun _ h => h.cell x0
  have e1 : ∀ w', Ext w0 w' → w'.cell? ⟨w.heap.size, 1, none⟩ = _ := fun _ h => h.cell x1
  have e2 : ∀ w', Ext w0 w' → w'.cell? ⟨w.heap.size, 2, none⟩ = _ := fun _ h => h.cell x2
  have e3 : ∀ w', Ext w0 w' → w'.cell? ⟨w.heap.size, 3, none⟩ = _ := fun _ h => h.cell x3
  have hrA := RdA.ext (Rd.toA hr') hE0
  go_region_held3 (fun w' => Ext w0 w') (exact (by repeat (first | exact Ext.refl _ | assumption | refine Ext.trans ?_ (Ext.alloc _ _) | refine Ext.trans ?_ (Ext.drew _) | refine Ext.trans ?_ (Ext.drewN _ _) | refine Ext.trans ?_ (by assumption)))) ((first | (refine step_app _ w0 rfl (.tmp 9) (.tmp 10) 29 rfl 34 _ 4 40 Try.underlying29 markInfo rfl (by omega) (.slice (some ⟨_, 0, none⟩) 0 0) 0 [] rfl (own_at (by (first | (simp only [hp_alloc, hp_drew, hp_drewN, Array.getElem?_push, Array.size_push]; simp; done) | (rw [hgA.block _ (by simp only [hp_alloc, hp_drew, hp_drewN, Array.size_push]; omega) (by simp [Value.ownBlock])]; (simp only [hp_alloc, hp_drew, hp_drewN, Array.getElem?_push, Array.size_push]; simp; done)))) (by omega)) (by first | assumption | exact hHeld) _ _ _ ms.length _ (ms.flatMap Mrk.enc) rfl (by (first | (simp only [len4]; done) | exact lenM _ | exact lenB _)) (RdA.ext hrA (by first | assumption | exact hHeld)) (marks_one ms) (by omega) hA ?_; intro vA wA hownA hEA hgA hatA) | (refine step_app _ w0 rfl (.tmp 11) (.tmp 13) 29 rfl 34 _ 4 40 Try.underlying29 markInfo rfl (by omega) vA (0 + ms.length) ([] ++ ms.flatMap Mrk.enc) rfl (by first | exact hownA | exact ownsRow_ext hownA (Ext.alloc _ _)) (by first | assumption | exact hHeld) _ _ _ 1 1 [.int .i64 x.line, .int .i64 x.place, .int .i64 x.kind, .string x.text] rfl rfl (rdA_at (cs := #[.int .i64 x.line, .int .i64 x.place, .int .i64 x.kind, .string x.text]) (t := 34) (by (first | (simp only [hp_alloc, hp_drew, hp_drewN, Array.getElem?_push, Array.size_push]; simp; done) | (rw [hgA.block _ (by simp only [hp_alloc, hp_drew, hp_drewN, Array.size_push]; omega) (by simp [Value.ownBlock])]; (simp only [hp_alloc, hp_drew, hp_drewN, Array.getElem?_push, Array.size_push]; simp; done)))) rfl) (by simp [Value.oneCell']) (by omega) (by simp) ?_; intro vB wB hownB hEB hgB hatB)))
  all_goals
    clear e0 e1 e2 e3 x0 x1 x2 x3
    have hz0 := hE0.size
    have hzB := hEB.size
    obtain ⟨A', c', rfl, hc', _⟩ := own_form hownB
    have hRB0 : RdM wB w0.heap.size wB.heap.size A' (ms ++ [x]) := by
      have h := Rd.of_own hownB
      unfold RdM
      rw [List.flatMap_append]
      simpa [Mrk.enc] using h
    have hRB := Rd.wide hRB0 hz0 (Nat.le_refl _) (Nat.le_refl _)
    have hlen : (ms ++ [x]).length = 0 + ms.length + 1 := by simp
    have hEwB := hE0.trans hEB
    have HB := Lib.hid hb; have HB' := Lib.hid hb'
    have hbx : ∀ m ∈ ms ++ [x], m.text.size ≤ 1048577 := fun m hm => by
      rcases List.mem_append.1 hm with h | h
      · exact hb' m h
      · simp at h; subst h; exact hx
    have HBX := Lib.hid hbx
    rw [← hlen] at hc' ⊢
    have hln : (ms ++ [x]).length ≤ 1048577 := by omega
    have HLN := Lib.hid hlen
    clear hb hb' hbx hlen hownB hgB hatB
    obtain ⟨ns, hns⟩ : ∃ ns, ns = ms ++ [x] := ⟨_, rfl⟩
    rw [← hns] at hRB hln hc' HBX ⊢
    have HNS := Lib.hid hns
    clear hns
    go_wp2_with fail
    cases h1 : aMk l ms
    · have HV : Hid (P = ([], false)) := by show _ = _; rw [HP.out]; exact amP_bad (by simp [h1])
      refine (spec_pfMarks A B c d l ms lo hi lo' hi' _ hl HB.out (by omega) HB'.out (hr.ext (by repeat (first | exact Ext.refl _ | assumption | refine Ext.trans ?_ (Ext.alloc _ _) | refine Ext.trans ?_ (Ext.drew _) | refine Ext.trans ?_ (Ext.drewN _ _) | refine Ext.trans ?_ (by assumption)))) (hr'.ext (by repeat (first | exact Ext.refl _ | assumption | refine Ext.trans ?_ (Ext.alloc _ _) | refine Ext.trans ?_ (Ext.drew _) | refine Ext.trans ?_ (Ext.drewN _ _) | refine Ext.trans ?_ (by assumption))))).mono ?_
      rw [h1]
      rintro e w3 ⟨rfl, hE3⟩
      go_wp2_with fail
      go_ret2
      rw [HV.out]
      exact retM2_nil (by repeat (first | exact Ext.refl _ | assumption | refine Ext.trans ?_ (Ext.alloc _ _) | refine Ext.trans ?_ (Ext.drew _) | refine Ext.trans ?_ (Ext.drewN _ _) | refine Ext.trans ?_ (by assumption)))
    · refine (spec_pfMarks A B c d l ms lo hi lo' hi' _ hl HB.out (by omega) HB'.out (hr.ext (by repeat (first | exact Ext.refl _ | assumption | refine Ext.trans ?_ (Ext.alloc _ _) | refine Ext.trans ?_ (Ext.drew _) | refine Ext.trans ?_ (Ext.drewN _ _) | refine Ext.trans ?_ (by assumption)))) (hr'.ext (by repeat (first | exact Ext.refl _ | assumption | refine Ext.trans ?_ (Ext.alloc _ _) | refine Ext.trans ?_ (Ext.drew _) | refine Ext.trans ?_ (Ext.drewN _ _) | refine Ext.trans ?_ (by assumption))))).mono ?_
      rw [h1]
      rintro e w3 ⟨rfl, hE3⟩
      go_wp2_with fail
      cases h2 : aMk l ns
      · have HV : Hid (P = ([], false)) := by show _ = _; rw [HP.out]; exact amP_bad (by rw [← HNS.out, h2]; simp)
        refine (spec_pfMarks A A' c c' l ns lo hi _ _ _ hl HB.out hln HBX.out (hr.ext (by repeat (first | exact Ext.refl _ | assumption | refine Ext.trans ?_ (Ext.alloc _ _) | refine Ext.trans ?_ (Ext.drew _) | refine Ext.trans ?_ (Ext.drewN _ _) | refine Ext.trans ?_ (by assumption)))) (RdM.ext hRB (by repeat (first | exact Ext.refl _ | assumption | refine Ext.trans ?_ (Ext.alloc _ _) | refine Ext.trans ?_ (Ext.drew _) | refine Ext.trans ?_ (Ext.drewN _ _) | refine Ext.trans ?_ (by assumption))))).mono ?_
        rw [h2]
        rintro e w4 ⟨rfl, hE4⟩
        go_wp2_with fail
        go_ret2
        rw [HV.out]
        exact retM2_nil (by repeat (first | exact Ext.refl _ | assumption | refine Ext.trans ?_ (Ext.alloc _ _) | refine Ext.trans ?_ (Ext.drew _) | refine Ext.trans ?_ (Ext.drewN _ _) | refine Ext.trans ?_ (by assumption)))
      · have HV : Hid (P = (ns, true)) := by show _ = _; rw [HP.out, HNS.out]; exact amP_good h1 (by rw [← HNS.out]; exact h2)
        refine (spec_pfMarks A A' c c' l ns lo hi _ _ _ hl HB.out hln HBX.out (hr.ext (by repeat (first | exact Ext.refl _ | assumption | refine Ext.trans ?_ (Ext.alloc _ _) | refine Ext.trans ?_ (Ext.drew _) | refine Ext.trans ?_ (Ext.drewN _ _) | refine Ext.trans ?_ (by assumption)))) (RdM.ext hRB (by repeat (first | exact Ext.refl _ | assumption | refine Ext.trans ?_ (Ext.alloc _ _) | refine Ext.trans ?_ (Ext.drew _) | refine Ext.trans ?_ (Ext.drewN _ _) | refine Ext.trans ?_ (by assumption))))).mono ?_
        rw [h2]
        rintro e w4 ⟨rfl, hE4⟩
        go_wp2_with fail
        go_ret2
        rw [HV.out]
        exact ⟨A', c', rfl, hc', (Rd.ext hRB (by repeat (first | exact Ext.refl _ | assumption | refine Ext.trans ?_ (Ext.alloc _ _) | refine Ext.trans ?_ (Ext.drew _) | refine Ext.trans ?_ (Ext.drewN _ _) | refine Ext.trans ?_ (by assumption)))).wide (Nat.le_refl _) (hE3.trans hE4).size (Nat.le_refl _), (by repeat (first | exact Ext.refl _ | assumption | refine Ext.trans ?_ (Ext.alloc _ _) | refine Ext.trans ?_ (Ext.drew _) | refine Ext.trans ?_ (Ext.drewN _ _) | refine Ext.trans ?_ (by assumption)))⟩
end Go.Proofs.Ytclcclhdmciggaa
