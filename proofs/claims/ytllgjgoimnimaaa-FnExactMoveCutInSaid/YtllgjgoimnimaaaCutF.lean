/- The walks of FirstPlaceFor and MoveCutIn. -/
import Derived.Test.YtllgjgoimnimaaaCutE
import Derived.Deep.LoopGhost
namespace Go.Proofs.Ytllgjgoimnimaaa
open Go.RowKit
/-- The least line at which x could be added, among k lines. -/
def fpf (m : Int) (l : List Cut) : Nat → Cut → Option Int
  | 0, _ => none
  | k + 1, x => if areCut m (l ++ [x]) then some x.line else fpf m l k { x with line := x.line + 1 }
def fpV (m : Int) (l : List Cut) (x : Cut) : Value :=
  if areCut m l && isCut x then (match fpf m l (201 - x.line).toNat x with | some k => .tuple #[.int .i64 k, .bool true] | none => .tuple #[.int .i64 0, .bool false]) else .tuple #[.int .i64 0, .bool false]
theorem fpV_bad {m : Int} {l : List Cut} {x : Cut} (h : (areCut m l && isCut x) = false) : fpV m l x = .tuple #[.int .i64 0, .bool false] := by simp only [fpV, h]; rfl
theorem fpV_none {m : Int} {l : List Cut} {x : Cut} (h : fpf m l (201 - x.line).toNat x = none) : fpV m l x = .tuple #[.int .i64 0, .bool false] := by simp only [fpV, h]; split <;> rfl
theorem fpV_good {m : Int} {l : List Cut} {x : Cut} {k : Int} (h1 : areCut m l = true) (h2 : isCut x = true) (h : fpf m l (201 - x.line).toNat x = some k) : fpV m l x = .tuple #[.int .i64 k, .bool true] := by simp only [fpV, h1, h2, h]; rfl
theorem fpV_form (m : Int) (l : List Cut) (x : Cut) : ∃ a b, fpV m l x = .tuple #[.int .i64 a, .bool b] := by unfold fpV; (repeat' split) <;> exact ⟨_, _, rfl⟩
theorem fpf_yes {m : Int} {l : List Cut} {y : Cut} {k : Nat} (hk : k = (201 - y.line).toNat) (h : y.line ≤ 200) (ha : areCut m (l ++ [y]) = true) : fpf m l k y = some y.line := by
  obtain ⟨j, rfl⟩ : ∃ j, k = j + 1 := ⟨k - 1, by omega⟩
  rw [fpf, ha]; rfl
theorem fpf_no {m : Int} {l : List Cut} {y : Cut} {k : Nat} (hk : k = (201 - y.line).toNat) (h : y.line ≤ 200) (ha : areCut m (l ++ [y]) = false) : fpf m l k y = fpf m l (k - 1) { y with line := y.line + 1 } := by
  obtain ⟨j, rfl⟩ : ∃ j, k = j + 1 := ⟨k - 1, by omega⟩
  rw [fpf, ha]; rfl

def Cut.arr (y : Cut) : Array Value := #[.int .i64 y.line, .int .i64 y.lines, .int .i64 y.wide, .int .i64 y.side]

set_option maxHeartbeats 1000000 in
theorem spec_FirstPlaceFor (m : Int) (A : Option Addr) (c : Nat) (l : List Cut) (x : Cut) (lo hi : Nat) (w : World) (hl : l.length ≤ 1048576) (hcap : l.length ≤ c) (hA : A = none → l.length = 0) (hr : RdC w lo hi A l) :
    Calls Try.prog 23 #[.int .i64 m, .slice A l.length c, .agg #[.int .i64 x.line, .int .i64 x.lines, .int .i64 x.wide, .int .i64 x.side]] w fun e w' => e = .returned (fpV m l x) ∧ Ext w w' := by
  have hr0 := fun o => hr.ext (Ext.alloc w o)
  cases h1 : areCut m l
  · rw [fpV_bad (by simp [h1])]
    go_enter Try.func23, Try.ntmps23
    go_wp2_with (go_at_call 51; refine (spec_inGood m A c l lo hi _ (by omega) hcap (hr0 _)).mono ?_; rintro e w1 ⟨rfl, hE1⟩; obtain ⟨hc1, hf1⟩ := bcell hE1; have hs1 := hE1.size; (try simp only [World.size_alloc] at hs1))
    go_ret2
    exact ⟨rfl, (by repeat (first | exact Ext.refl _ | assumption | refine Ext.trans ?_ (Ext.alloc _ _) | refine Ext.trans ?_ (Ext.drew _) | refine Ext.trans ?_ (Ext.drewN _ _) | refine Ext.trans ?_ (by assumption)))⟩
  cases h2 : isCut x
  · rw [fpV_bad (by simp [h2])]
    go_enter Try.func23, Try.ntmps23
    go_wp2_with (first | (go_at_call 51; refine (spec_inGood m A c l lo hi _ (by omega) hcap (hr0 _)).mono ?_; rintro e w1 ⟨rfl, hE1⟩; obtain ⟨hc1, hf1⟩ := bcell hE1; have hs1 := hE1.size; (try simp only [World.size_alloc] at hs1)) | (go_at_call 57; refine (inCut_any x _).mono ?_; rintro e w2 ⟨rfl, hE2⟩; obtain ⟨hc2, hf2⟩ := bcell hE2; have hs2 := hE2.size; (try simp only [World.size_alloc] at hs2)))
    go_ret2
    exact ⟨rfl, (by repeat (first | exact Ext.refl _ | assumption | refine Ext.trans ?_ (Ext.alloc _ _) | refine Ext.trans ?_ (Ext.drew _) | refine Ext.trans ?_ (Ext.drewN _ _) | refine Ext.trans ?_ (by assumption)))⟩
  have hx := (isCut_iff.1 h2).1
  go_enter Try.func23, Try.ntmps23
  go_wp2_with (first | (go_at_call 51; refine (spec_inGood m A c l lo hi _ (by omega) hcap (hr0 _)).mono ?_; rintro e w1 ⟨rfl, hE1⟩; obtain ⟨hc1, hf1⟩ := bcell hE1; have hs1 := hE1.size; (try simp only [World.size_alloc] at hs1)) | (go_at_call 57; refine (inCut_any x _).mono ?_; rintro e w2 ⟨rfl, hE2⟩; obtain ⟨hc2, hf2⟩ := bcell hE2; have hs2 := hE2.size; (try simp only [World.size_alloc] at hs2)))
  have H1 := Lib.hid h1
  have H2 := Lib.hid h2
  have hB0 := ((Blk.new w 38 #[.int .i64 x.line, .int .i64 x.lines, .int .i64 x.wide, .int .i64 x.side]).ext hE1).ext hE2
  have hE0 : Ext w w2 := (by repeat (first | exact Ext.refl _ | assumption | refine Ext.trans ?_ (Ext.alloc _ _) | refine Ext.trans ?_ (Ext.drew _) | refine Ext.trans ?_ (Ext.drewN _ _) | refine Ext.trans ?_ (by assumption)))
  clear h1 h2 hc1 hf1 hc2 hf2 hE1 hE2 hs1 hs2 hr0
  go_loopg [6] ((201 - x.line).toNat) (fun k s wr => ∃ y : Cut, s = .int .i64 0 ∧ k = (201 - y.line).toNat ∧ 0 ≤ y.line ∧ y.line ≤ 201 ∧ fpf m l (201 - x.line).toNat x = fpf m l k y ∧ Blk wr w.heap.size 38 #[.int .i64 y.line, .int .i64 y.lines, .int .i64 y.wide, .int .i64 y.side] ∧ Ext w wr)
  case atStart => exact ⟨x, rfl, rfl, by omega, by omega, rfl, hB0, hE0⟩
  case round =>
    obtain ⟨y, rfl, hk, y0, y1, hf, hB, hE⟩ := hrel
    have HK := Lib.hid hk; clear hk
    have HF := Lib.hid hf; clear hf
    have c0 := hB.cell (i := 0) rfl
    have c1 := hB.cell (i := 1) rfl
    have c2 := hB.cell (i := 2) rfl
    have c3 := hB.cell (i := 3) rfl
    have f0 := hB.frozen 0
    have hlt := hB.lt
    by_cases hy : y.line ≤ 200
    · go_wp2_with fail
      refine (inWith_any A c l y lo hi _ (by omega) hA (hr.ext hE)).mono ?_
      rintro e w3 ⟨A3, c3', rfl, hc3', hR3, hE3⟩
      obtain ⟨hc3, hf3⟩ := bcell hE3
      have hs3 := hE3.size
      go_wp2_with fail
      have hq := spec_inGood m A3 c3' (l ++ [y]) _ _ _ (by simp; omega) (by simpa using hc3') hR3
      rw [List.length_append] at hq
      refine hq.mono ?_
      clear hq
      rintro e w4 ⟨rfl, hE4⟩
      have hB4 := (hB.ext hE3).ext hE4
      have q0 := hB4.cell (i := 0) rfl
      have r0 := hB4.frozen 0
      clear hc3 hf3 hs3 c0 c1 c2 c3 f0 hlt
      cases ha : areCut m (l ++ [y])
      · go_wp2_with fail
        go_roundg ((201 - (y.line + 1)).toNat)
        case measure => rw [HK.out]; omega
        case rel =>
          refine ⟨{ y with line := y.line + 1 }, rfl, rfl, by simp; omega, by simp; omega, ?_, ?_, Ext.setCell ((hE.trans hE3).trans hE4) (Nat.le_refl _) _⟩
          · rw [HF.out, fpf_no HK.out hy ha, HK.out]
            congr 1
            omega
          · exact hB4.set_ 0 _
      · go_wp2_with fail
        go_ret2
        refine ⟨?_, (by repeat (first | exact Ext.refl _ | assumption | refine Ext.trans ?_ (Ext.alloc _ _) | refine Ext.trans ?_ (Ext.drew _) | refine Ext.trans ?_ (Ext.drewN _ _) | refine Ext.trans ?_ (by assumption)))⟩
        rw [fpV_good H1.out H2.out (HF.out.trans (fpf_yes HK.out hy ha))]
        rfl
    · have hk0 : (201 - y.line).toNat = 0 := by omega
      have HK0 := Lib.hid hk0; clear hk0
      go_wp2_with fail
      go_ret2
      refine ⟨?_, hE⟩
      rw [fpV_none (HF.out.trans (by rw [HK.out, HK0.out]; rfl))]
      rfl

set_option maxHeartbeats 1000000 in
theorem impl_FirstPlaceFor (m : Int) (A : Option Addr) (c : Nat) (l : List Cut) (x : Cut) (lo hi : Nat) (w : World) (hl : l.length ≤ 1048576) (hcap : l.length ≤ c) (hA : A = none → l.length = 0) (hr : RdC w lo hi A l) :
    Calls Try.prog 25 #[.int .i64 m, .slice A l.length c, .agg #[.int .i64 x.line, .int .i64 x.lines, .int .i64 x.wide, .int .i64 x.side]] w fun e w' => e = .returned (fpV m l x) ∧ Ext w w' := by
  have hr0 := fun o => hr.ext (Ext.alloc w o)
  cases h1 : areCut m l
  · rw [fpV_bad (by simp [h1])]
    go_enter Try.func25, Try.ntmps25
    go_wp2_with (go_at_call 19; refine (impl_AreCutIns m A c l lo hi _ (by omega) hcap (hr0 _)).mono ?_; rintro e w1 ⟨rfl, hE1⟩; obtain ⟨hc1, hf1⟩ := bcell hE1; have hs1 := hE1.size; (try simp only [World.size_alloc] at hs1))
    go_ret2
    exact ⟨rfl, (by repeat (first | exact Ext.refl _ | assumption | refine Ext.trans ?_ (Ext.alloc _ _) | refine Ext.trans ?_ (Ext.drew _) | refine Ext.trans ?_ (Ext.drewN _ _) | refine Ext.trans ?_ (by assumption)))⟩
  cases h2 : isCut x
  · rw [fpV_bad (by simp [h2])]
    go_enter Try.func25, Try.ntmps25
    go_wp2_with (first | (go_at_call 19; refine (impl_AreCutIns m A c l lo hi _ (by omega) hcap (hr0 _)).mono ?_; rintro e w1 ⟨rfl, hE1⟩; obtain ⟨hc1, hf1⟩ := bcell hE1; have hs1 := hE1.size; (try simp only [World.size_alloc] at hs1)) | (go_at_call 52; refine (isCutIn_any x _).mono ?_; rintro e w2 ⟨rfl, hE2⟩; obtain ⟨hc2, hf2⟩ := bcell hE2; have hs2 := hE2.size; (try simp only [World.size_alloc] at hs2)))
    go_ret2
    exact ⟨rfl, (by repeat (first | exact Ext.refl _ | assumption | refine Ext.trans ?_ (Ext.alloc _ _) | refine Ext.trans ?_ (Ext.drew _) | refine Ext.trans ?_ (Ext.drewN _ _) | refine Ext.trans ?_ (by assumption)))⟩
  have hx := (isCut_iff.1 h2).1
  go_enter Try.func25, Try.ntmps25
  go_wp2_with (first | (go_at_call 19; refine (impl_AreCutIns m A c l lo hi _ (by omega) hcap (hr0 _)).mono ?_; rintro e w1 ⟨rfl, hE1⟩; obtain ⟨hc1, hf1⟩ := bcell hE1; have hs1 := hE1.size; (try simp only [World.size_alloc] at hs1)) | (go_at_call 52; refine (isCutIn_any x _).mono ?_; rintro e w2 ⟨rfl, hE2⟩; obtain ⟨hc2, hf2⟩ := bcell hE2; have hs2 := hE2.size; (try simp only [World.size_alloc] at hs2)))
  have H1 := Lib.hid h1
  have H2 := Lib.hid h2
  have hB0 := ((Blk.new w 38 #[.int .i64 x.line, .int .i64 x.lines, .int .i64 x.wide, .int .i64 x.side]).ext hE1).ext hE2
  have hE0 : Ext w w2 := (by repeat (first | exact Ext.refl _ | assumption | refine Ext.trans ?_ (Ext.alloc _ _) | refine Ext.trans ?_ (Ext.drew _) | refine Ext.trans ?_ (Ext.drewN _ _) | refine Ext.trans ?_ (by assumption)))
  clear h1 h2 hc1 hf1 hc2 hf2 hE1 hE2 hs1 hs2 hr0
  go_loopg [6] ((201 - x.line).toNat) (fun k s wr => ∃ y : Cut, s = .int .i64 0 ∧ k = (201 - y.line).toNat ∧ 0 ≤ y.line ∧ y.line ≤ 201 ∧ fpf m l (201 - x.line).toNat x = fpf m l k y ∧ Blk wr w.heap.size 38 #[.int .i64 y.line, .int .i64 y.lines, .int .i64 y.wide, .int .i64 y.side] ∧ Ext w wr)
  case atStart => exact ⟨x, rfl, rfl, by omega, by omega, rfl, hB0, hE0⟩
  case round =>
    obtain ⟨y, rfl, hk, y0, y1, hf, hB, hE⟩ := hrel
    have HK := Lib.hid hk; clear hk
    have HF := Lib.hid hf; clear hf
    have c0 := hB.cell (i := 0) rfl
    have c1 := hB.cell (i := 1) rfl
    have c2 := hB.cell (i := 2) rfl
    have c3 := hB.cell (i := 3) rfl
    have hlt := hB.lt
    by_cases hy : y.line ≤ 200
    · have hrA := RdA.ext (Rd.toA hr) hE
      have e0 : ∀ w', Ext wr w' → w'.cell? ⟨w.heap.size, 0, none⟩ = _ := fun _ h => h.cell c0
      have e1 : ∀ w', Ext wr w' → w'.cell? ⟨w.heap.size, 1, none⟩ = _ := fun _ h => h.cell c1
      have e2 : ∀ w', Ext wr w' → w'.cell? ⟨w.heap.size, 2, none⟩ = _ := fun _ h => h.cell c2
      have e3 : ∀ w', Ext wr w' → w'.cell? ⟨w.heap.size, 3, none⟩ = _ := fun _ h => h.cell c3
      go_upto_region 5 with fail
      go_cut [31] (fun s31 wx => s31 = .bool (areCut m (l ++ [y])) ∧ Ext wr wx)
      case first =>
        go_region_held3 (fun w' => Ext wr w') (exact (by repeat (first | exact Ext.refl _ | assumption | refine Ext.trans ?_ (Ext.alloc _ _) | refine Ext.trans ?_ (Ext.drew _) | refine Ext.trans ?_ (Ext.drewN _ _) | refine Ext.trans ?_ (by assumption)))) (first
          | (go_at_call 19; obtain ⟨A3, c3', rfl, hc3', _⟩ := own_form hownB; have hq := impl_AreCutIns m A3 c3' (l ++ [y]) wr.heap.size _ _ (by simp; omega) (by simp; omega) (own_with (Nat.le_refl _) hownB); rw [show (l ++ [y]).length = 0 + l.length + 1 by simp] at hq; refine hq.mono ?_; clear hq; rintro e w4 ⟨rfl, hE4⟩)
          | (first | (refine step_app _ wr rfl (.tmp 25) (.tmp 26) 28 rfl 38 _ 4 32 Try.underlying28 cutInfo rfl (by omega) (.slice (some ⟨_, 0, none⟩) 0 0) 0 [] rfl (own_at (by (first | (simp only [hp_alloc, hp_drew, hp_drewN, Array.getElem?_push, Array.size_push]; simp; done) | (rw [hgA.block _ (by simp only [hp_alloc, hp_drew, hp_drewN, Array.size_push]; omega) (by simp [Value.ownBlock])]; (simp only [hp_alloc, hp_drew, hp_drewN, Array.getElem?_push, Array.size_push]; simp; done)))) (by omega)) (by first | assumption | exact hHeld) _ _ _ l.length _ (l.flatMap Cut.enc) rfl (by (simp only [len4])) (RdA.ext hrA (by first | assumption | exact hHeld)) (cells_one l) (by omega) hA ?_; intro vA wA hownA hEA hgA hatA) | (refine step_app _ wr rfl (.tmp 27) (.tmp 29) 28 rfl 38 _ 4 32 Try.underlying28 cutInfo rfl (by omega) vA (0 + l.length) ([] ++ l.flatMap Cut.enc) rfl (by first | exact hownA | exact ownsRow_ext hownA (Ext.alloc _ _)) (by first | assumption | exact hHeld) _ _ _ 1 1 [.int .i64 y.line, .int .i64 y.lines, .int .i64 y.wide, .int .i64 y.side] rfl rfl (rdA_at (cs := #[.int .i64 y.line, .int .i64 y.lines, .int .i64 y.wide, .int .i64 y.side]) (t := 38) (by (first | (simp only [hp_alloc, hp_drew, hp_drewN, Array.getElem?_push, Array.size_push]; simp; done) | (rw [hgA.block _ (by simp only [hp_alloc, hp_drew, hp_drewN, Array.size_push]; omega) (by simp [Value.ownBlock])]; (simp only [hp_alloc, hp_drew, hp_drewN, Array.getElem?_push, Array.size_push]; simp; done)))) rfl) (by simp [Value.oneCell']) (by omega) (by simp) ?_; intro vB wB hownB hEB hgB hatB)))
        all_goals
          go_wp2_with fail
          go_meet
          exact ⟨rfl, (by repeat (first | exact Ext.refl _ | assumption | refine Ext.trans ?_ (Ext.alloc _ _) | refine Ext.trans ?_ (Ext.drew _) | refine Ext.trans ?_ (Ext.drewN _ _) | refine Ext.trans ?_ (by assumption)))⟩
      case rest =>
        obtain ⟨rfl, hE4⟩ := hcut
        have hB4 := hB.ext hE4
        have q0 := hB4.cell (i := 0) rfl
        have r0 := hB4.frozen 0
        clear c0 c1 c2 c3 hlt e0 e1 e2 e3 hrA
        cases ha : areCut m (l ++ [y])
        · go_wp2_with fail
          go_roundg ((201 - (y.line + 1)).toNat)
          case measure => rw [HK.out]; omega
          case rel =>
            refine ⟨{ y with line := y.line + 1 }, rfl, rfl, by simp; omega, by simp; omega, ?_, ?_, Ext.setCell (hE.trans hE4) (Nat.le_refl _) _⟩
            · rw [HF.out, fpf_no HK.out hy ha, HK.out]
              congr 1
              omega
            · exact hB4.set_ 0 _
        · go_wp2_with fail
          go_ret2
          refine ⟨?_, (by repeat (first | exact Ext.refl _ | assumption | refine Ext.trans ?_ (Ext.alloc _ _) | refine Ext.trans ?_ (Ext.drew _) | refine Ext.trans ?_ (Ext.drewN _ _) | refine Ext.trans ?_ (by assumption)))⟩
          rw [fpV_good H1.out H2.out (HF.out.trans (fpf_yes HK.out hy ha))]
          rfl
    · have hk0 : (201 - y.line).toNat = 0 := by omega
      have HK0 := Lib.hid hk0; clear hk0
      go_wp2_with fail
      go_ret2
      refine ⟨?_, hE⟩
      rw [fpV_none (HF.out.trans (by rw [HK.out, HK0.out]; rfl))]
      rfl
end Go.Proofs.Ytllgjgoimnimaaa
