/- The walks of MarkConflicts: the program's and the reference's. -/
import Derived.Test.YtclcclhdmciggaaMcW
import Derived.Test.YtclcclhdmciggaaNestG
import Derived.Test.YtclcclhdmciggaaXw
namespace Go.Proofs.Ytclcclhdmciggaa
open Go.RowKit
set_option linter.unusedVariables false
theorem intInfoX : (Try.prog.info? 3).map (fun i => (i.zero, i.size, i.bytes)) = some (some (.int .i64 0), 1, 8) := by kernel_rfl
theorem rowNew (w : World) (x y : Int) : RdI (w.alloc (.cells #[.int .i64 x, .int .i64 y] 3)) w.heap.size (w.alloc (.cells #[.int .i64 x, .int .i64 y] 3)).heap.size (some ⟨w.heap.size, 0, none⟩) [x, y] :=
  (Blk.new w 3 #[.int .i64 x, .int .i64 y]).rd (Nat.le_refl _) (fun j u h => by simpa using h)
theorem rdA_new2 (w : World) (o : Obj) (cs : Array Value) (t : TypeId) : RdA ((w.alloc o).alloc (.cells cs t)) (w.heap.size + 1) (w.heap.size + 2) (some ⟨w.heap.size + 1, 0, none⟩) cs.toList := by
  have h := rdA_new (w := w.alloc o) (cs := cs) (t := t) rfl (Ext.refl _)
  rw [World.size_alloc] at h
  exact h
theorem RdII.wide {w : World} {lo hi lo' : Nat} {A : Option Addr} {ls : List (List Int)} (h : RdII w lo hi A ls) (h1 : lo' ≤ lo) : RdII w lo' hi A ls := by
  obtain ⟨rs, p0, q0, g1, g2, g3, g4, g5, g6, g7⟩ := h
  exact ⟨rs, p0, q0, g1, by omega, g3, g4, g5, fun i r l hr hl => by obtain ⟨k1, k2, k3, k4, k5⟩ := g6 i r l hr hl; exact ⟨k1, k2, by omega, k4, k5⟩, g7⟩
theorem RdII.wideHi {w : World} {lo hi hi' : Nat} {A : Option Addr} {ls : List (List Int)} (h : RdII w lo hi A ls) (h1 : hi ≤ hi') (h2 : hi' ≤ w.heap.size) : RdII w lo hi' A ls := by
  obtain ⟨rs, p0, q0, g1, g2, g3, g4, g5, g6, g7⟩ := h
  exact ⟨rs, p0, q0, g1, g2, by omega, h2, g5, fun i r l hr hl => by obtain ⟨k1, k2, k3, k4, k5⟩ := g6 i r l hr hl; exact ⟨k1, k2, k3, by omega, k5⟩, g7⟩
theorem cf_len {ms : List Mrk} {i k : Nat} (hl : ms.length ≤ 20) (hi : i ≤ ms.length) (hk : k ≤ ms.length) : (cfTo ms i ++ cfI ms i k).length ≤ 420 := by
  have h1 := cfTo_len ms i
  have h2 := cfI_len ms i k
  have h3 : i * ms.length ≤ 20 * 20 := Nat.mul_le_mul (by omega) hl
  rw [List.length_append]; omega
theorem impl_conflicts (B : Option Addr) (d : Nat) (ms : List Mrk) (lo hi : Nat) (w : World) (hl : ms.length ≤ 20) (hcap : ms.length ≤ d) (hr : RdM w lo hi B ms) :
    Calls Try.prog 40 #[.slice B ms.length d] w fun e w' => ∃ A c, e = .returned (.slice A (cfTo ms ms.length).length c) ∧ (cfTo ms ms.length).length ≤ c ∧ RdII w' w.heap.size w'.heap.size A (cfTo ms ms.length) ∧ Ext w w' := by
  go_enter Try.func40, Try.ntmps40
  go_wp2
  go_loopw [3, 9] (fun v j wr => ∃ (i : Nat) (rs : List Row), i ≤ ms.length ∧ j = .int .i64 i ∧ GrowII wr w.heap.size 57 v (cfTo ms i) rs ∧ Ext w wr) (fun _ j _ => ms.length - (intOf j).toNat)
  case atStart => exact ⟨0, [], Nat.zero_le _, rfl, GrowII.of0 (own_lit0 _ _ (Nat.le_refl _) (Ext.refl _)), (by repeat (first | exact Ext.refl _ | assumption | refine Ext.trans ?_ (Ext.alloc _ _) | refine Ext.trans ?_ (Ext.drew _) | refine Ext.trans ?_ (Ext.drewN _ _) | refine Ext.trans ?_ (by assumption)))⟩
  case round =>
    obtain ⟨i, rs, hi', rfl, hG, hE⟩ := hrel
    by_cases hlt : i < ms.length
    · go_wp2
      go_loopw [3, 5] (fun v j wr => ∃ (k : Nat) (rs : List Row), i < k ∧ k ≤ ms.length ∧ j = .int .i64 k ∧ GrowII wr w.heap.size 57 v (cfTo ms i ++ cfI ms i k) rs ∧ Ext w wr) (fun _ j _ => ms.length - (intOf j).toNat)
      case atStart => exact ⟨i + 1, rs, by omega, by omega, by go_num, by rw [cfI_start, List.append_nil]; exact hG, hE⟩
      case round =>
        clear hG hE
        obtain ⟨k, rs, hik, hk, rfl, hG, hE⟩ := hrel
        have hsz := hE.size
        have hcl := cf_len hl hi' hk
        by_cases hlk : k < ms.length
        · cases t1 : liveB ms i
          · have HS : Hid (cfI ms i (k + 1) = cfI ms i k) := cfI_no (by simp [pairB, t1])
            have hA : ∀ x : XW wr, _ := fun x => impl_isLive B d ms i lo hi x.v (by omega) hcap hlt (hr.ext (hE.trans x.h))
            simp only [t1] at hA
            go_wp2_with fail
            refine wp_region_xw (w0 := wr) (by kernel_rfl) (by kernel_rfl) (by repeat (first | exact Ext.refl _ | assumption | refine Ext.trans ?_ (Ext.alloc _ _) | refine Ext.trans ?_ (Ext.drew _) | refine Ext.trans ?_ (Ext.drewN _ _) | refine Ext.trans ?_ (by assumption))) ?_; (repeat (go_big_quiet_step ((go_at_call 51; with_reducible exact XW.call (hA _))))); refine wpQuiet_nil ?_; intro w1 hw'; obtain ⟨⟨_, hEw1⟩, hw''⟩ := hw'; subst hw''
            clear hA
            go_wp2
            go_roundw
            case rel => exact ⟨k + 1, rs, by omega, by omega, by go_num, by rw [HS.out]; exact hG.ext hEw1, hE.trans hEw1⟩
            case measure => simp [intOf]; omega
          have hA : ∀ x : XW wr, _ := fun x => impl_isLive B d ms i lo hi x.v (by omega) hcap hlt (hr.ext (hE.trans x.h))
          have hB : ∀ x : XW wr, _ := fun x => impl_isLive B d ms k lo hi x.v (by omega) hcap hlk (hr.ext (hE.trans x.h))
          simp only [t1] at hA
          cases t2 : liveB ms k
          · have HS : Hid (cfI ms i (k + 1) = cfI ms i k) := cfI_no (by simp [pairB, t2])
            simp only [t2] at hB
            go_wp2_with fail
            refine wp_region_xw (w0 := wr) (by kernel_rfl) (by kernel_rfl) (by repeat (first | exact Ext.refl _ | assumption | refine Ext.trans ?_ (Ext.alloc _ _) | refine Ext.trans ?_ (Ext.drew _) | refine Ext.trans ?_ (Ext.drewN _ _) | refine Ext.trans ?_ (by assumption))) ?_; (repeat (go_big_quiet_step (first | (go_at_call 51; with_reducible exact XW.call (hA _)) | (go_at_call 51; with_reducible exact XW.call (hB _))))); refine wpQuiet_nil ?_; intro w1 hw'; obtain ⟨⟨_, hEw1⟩, hw''⟩ := hw'; subst hw''
            clear hA hB
            go_wp2
            go_roundw
            case rel => exact ⟨k + 1, rs, by omega, by omega, by go_num, by rw [HS.out]; exact hG.ext hEw1, hE.trans hEw1⟩
            case measure => simp [intOf]; omega
          simp only [t2] at hB
          obtain ⟨m, b, off, HM, eB, h3, c0, c1, c2, c3⟩ := RdM.get (hr.ext hE) hlt
          subst eB
          obtain ⟨n, b', off', HN, eB, h3', d0, d1, d2, d3⟩ := RdM.get (hr.ext hE) hlk
          injection eB with eB; injection eB with eb eo _; subst eb; subst eo
          have hcl := clashAt_of HM.out HN.out
          have HCL := Lib.hid hcl; clear hcl
          have hi0 : (0 : Int) ≤ i := by omega
          have hi1 : (i : Int) < ms.length := by omega
          have hk0 : (0 : Int) ≤ k := by omega
          have hk1 : (k : Int) < ms.length := by omega
          have e0 : ∀ y : XW wr, y.v.cell? ⟨b, off + i * 4, none⟩ = _ := fun y => y.h.cell c0
          have e1 : ∀ y : XW wr, y.v.cell? ⟨b, off + i * 4 + 1, none⟩ = _ := fun y => y.h.cell c1
          have e2 : ∀ y : XW wr, y.v.cell? ⟨b, off + i * 4 + 2, none⟩ = _ := fun y => y.h.cell c2
          have e3 : ∀ y : XW wr, y.v.cell? ⟨b, off + i * 4 + 3, none⟩ = _ := fun y => y.h.cell c3
          have e4 : ∀ y : XW wr, y.v.cell? ⟨b, off + k * 4, none⟩ = _ := fun y => y.h.cell d0
          have e5 : ∀ y : XW wr, y.v.cell? ⟨b, off + k * 4 + 1, none⟩ = _ := fun y => y.h.cell d1
          have e6 : ∀ y : XW wr, y.v.cell? ⟨b, off + k * 4 + 2, none⟩ = _ := fun y => y.h.cell d2
          have e7 : ∀ y : XW wr, y.v.cell? ⟨b, off + k * 4 + 3, none⟩ = _ := fun y => y.h.cell d3
          have hC := fun x : XW wr => impl_clash m n x.v
          cases t3 : clashB m n
          · have HS : Hid (cfI ms i (k + 1) = cfI ms i k) := cfI_no (by simp [pairB, HCL.out, t3])
            simp only [t3] at hC
            go_wp2_with fail
            refine wp_region_xw (w0 := wr) (by kernel_rfl) (by kernel_rfl) (by repeat (first | exact Ext.refl _ | assumption | refine Ext.trans ?_ (Ext.alloc _ _) | refine Ext.trans ?_ (Ext.drew _) | refine Ext.trans ?_ (Ext.drewN _ _) | refine Ext.trans ?_ (by assumption))) ?_; (repeat (go_big_quiet_step (first | (go_at_call 51; with_reducible exact XW.call (hA _)) | (go_at_call 51; with_reducible exact XW.call (hB _)) | (go_at_call 52; with_reducible exact XW.call (hC _))))); refine wpQuiet_nil ?_; intro w1 hw'; obtain ⟨⟨_, hEw1⟩, hw''⟩ := hw'; subst hw''
            clear hA hB hC e0 e1 e2 e3 e4 e5 e6 e7
            go_wp2
            go_roundw
            case rel => exact ⟨k + 1, rs, by omega, by omega, by go_num, by rw [HS.out]; exact hG.ext hEw1, hE.trans hEw1⟩
            case measure => simp [intOf]; omega
          · have HS : Hid (cfI ms i (k + 1) = cfI ms i k ++ [prow i k]) := cfI_yes hik (by simp [pairB, t1, t2, HCL.out, t3])
            simp only [t3] at hC
            go_wp2_with fail
            refine wp_region_xw (w0 := wr) (by kernel_rfl) (by kernel_rfl) (by repeat (first | exact Ext.refl _ | assumption | refine Ext.trans ?_ (Ext.alloc _ _) | refine Ext.trans ?_ (Ext.drew _) | refine Ext.trans ?_ (Ext.drewN _ _) | refine Ext.trans ?_ (by assumption))) ?_; (repeat (go_big_quiet_step (first | (go_at_call 51; with_reducible exact XW.call (hA _)) | (go_at_call 51; with_reducible exact XW.call (hB _)) | (go_at_call 52; with_reducible exact XW.call (hC _))))); refine wpQuiet_nil ?_; intro w1 hw'; obtain ⟨⟨_, hEw1⟩, hw''⟩ := hw'; subst hw''
            clear hA hB hC e0 e1 e2 e3 e4 e5 e6 e7
            have hG1 := hG.ext hEw1
            have hs1 := hEw1.size
            have hE1 := hE.trans hEw1
            have hsz1 : w.heap.size ≤ w1.heap.size := by omega
            go_wp2_with (first | (at_builtin; refine wp_app _ w rfl (.tmp 39) (.tmp 43) 43 rfl 57 _ 1 24 Try.underlying43 sliceInfo rfl (by omega) _ _ _ rfl (ownsRow_ext hG1.2.1 ((Ext.alloc _ _).trans (Ext.alloc _ _))) ((hE1.trans (Ext.alloc _ _)).trans (Ext.alloc _ _)) _ _ _ 1 1 [.slice (some ⟨w1.heap.size, 0, none⟩) 2 2] rfl rfl (rdA_new2 w1 _ #[.slice (some ⟨w1.heap.size, 0, none⟩) 2 2] _) (by simp [Value.oneCell']) (by omega) (by simp) ?_; intro v4 w4 hown4 hE4 hg4 hat4))
            go_roundw
            case rel => exact ⟨k + 1, _, by omega, by omega, by go_num, by rw [HS.out, ← List.append_assoc]; exact hG1.push (Ext.alloc w1 (.cells #[.int .i64 i, .int .i64 k] 3)) (c := 2) (l := prow i k) (Nat.le_refl 2) (rowNew w1 i k) hsz1 hown4 _ hg4 hat4, hE4⟩
            case measure => simp [intOf]; omega
        · have hkl : k = ms.length := by omega
          subst hkl
          clear hlk
          go_wp2
          go_roundw
          case rel => exact ⟨i + 1, rs, by omega, by go_num, by rw [cfTo_succ]; exact hG, hE⟩
          case measure => simp [intOf]; omega
    · have hil : i = ms.length := by omega
      subst hil
      clear hlt
      obtain ⟨A', c', rfl, hc'⟩ := hG.form
      have hRR := hG.rd hE.size
      go_wp2
      go_ret
      exact ⟨A', c', rfl, hc', hRR, hE⟩
theorem impl_MarkConflicts (A B : Option Addr) (c d : Nat) (l : List ByteArray) (ms : List Mrk) (lo hi lo' hi' : Nat) (w : World) (hl : l.length ≤ 1048577) (hb : ∀ s ∈ l, s.size ≤ 1048577) (hl' : ms.length ≤ 1048577) (hb' : ∀ m ∈ ms, m.text.size ≤ 1048577) (hcap : ms.length ≤ d) (hr : RdT w lo hi A l) (hr' : RdM w lo' hi' B ms) :
    Calls Try.prog 26 #[.slice A l.length c, .slice B ms.length d] w (RetII2 w (mcP l ms)) := by
  cases h : aMk l ms
  · rw [mcP_bad h]
    go_enter Try.func26, Try.ntmps26
    go_wp2_with (go_at_call 22; refine (impl_AreMarks A B c d l ms lo hi lo' hi' _ hl hb hl' hb' hr hr').mono ?_; rintro e w1 ⟨rfl, hE1⟩; obtain ⟨hc1, hf1⟩ := bcell hE1; have hs1 := hE1.size; (try simp only [World.size_alloc] at hs1))
    go_ret2
    exact retII2_lit (by repeat (first | exact Ext.refl _ | assumption | refine Ext.trans ?_ (Ext.alloc _ _) | refine Ext.trans ?_ (Ext.drew _) | refine Ext.trans ?_ (Ext.drewN _ _) | refine Ext.trans ?_ (by assumption)))
  · rw [mcP_good h]
    have h20 := aMk_len h
    go_enter Try.func26, Try.ntmps26
    go_wp2_with (go_at_call 22; refine (impl_AreMarks A B c d l ms lo hi lo' hi' _ hl hb hl' hb' hr hr').mono ?_; rintro e w1 ⟨rfl, hE1⟩; obtain ⟨hc1, hf1⟩ := bcell hE1; have hs1 := hE1.size; (try simp only [World.size_alloc] at hs1))
    refine (impl_conflicts B d ms lo' hi' _ h20 hcap (hr'.ext hE1)).mono ?_
    rintro e w2 ⟨A2, c2, rfl, hc2, hR2, hE2⟩
    go_wp2_with fail
    go_ret2
    exact ⟨A2, c2, rfl, hc2, hR2.wide (by omega), (by repeat (first | exact Ext.refl _ | assumption | refine Ext.trans ?_ (Ext.alloc _ _) | refine Ext.trans ?_ (Ext.drew _) | refine Ext.trans ?_ (Ext.drewN _ _) | refine Ext.trans ?_ (by assumption)))⟩
set_option maxHeartbeats 2000000 in
theorem spec_pfLive (B : Option Addr) (d : Nat) (ms : List Mrk) (lo hi : Nat) (w : World) (hl : ms.length ≤ 20) (hcap : ms.length ≤ d) (hr : RdM w lo hi B ms) :
    Calls Try.prog 49 #[.slice B ms.length d] w fun e w' => ∃ A c, e = .returned (.slice A (lvI ms ms.length).length c) ∧ (lvI ms ms.length).length ≤ c ∧ RdI w' w.heap.size w'.heap.size A (lvI ms ms.length) ∧ Ext w w' := by
  go_enter Try.func49, Try.ntmps49
  go_wp2
  go_loopw [3, 11] (fun v j wr => ∃ i : Nat, i ≤ ms.length ∧ j = .int .i64 i ∧ wr.ownsRow w.heap.size 3 1 v (lvI ms i).length ((lvI ms i).map (Value.int .i64)) ∧ Ext w wr) (fun _ j _ => ms.length - (intOf j).toNat)
  case atStart => exact ⟨0, Nat.zero_le _, rfl, own_nil _ _ _ _, Ext.refl _⟩
  case round =>
    obtain ⟨i, hi', rfl, hown, hE⟩ := hrel
    have hll := lvI_len ms i
    have hsz := hE.size
    by_cases hlt : i < ms.length
    · obtain ⟨m, b, off, HM, eB, h3, c0, c1, c2, c3⟩ := RdM.get (hr.ext hE) hlt
      subst eB
      obtain ⟨wa, rfl⟩ : ∃ x, x = wr := ⟨_, rfl⟩
      have hcc : d = i + 1 ∨ i + 1 < d := by omega
      rcases hcc with rfl | hcd
      all_goals
        go_wp2
        go_loopw [6, 24] (fun v j w2 => ∃ (k : Nat) (f : Bool), k ≤ ms.length - (i + 1) ∧ j = .int .i64 k ∧ v = .bool f ∧ f = (noStet ms m i k && !decide (m.kind = 4)) ∧ w2.cell? ⟨wa.heap.size, 0, none⟩ = some (.int .i64 m.line) ∧ w2.cell? ⟨wa.heap.size, 1, none⟩ = some (.int .i64 m.place) ∧ Ext (wa.alloc (.cells #[.int .i64 m.line, .int .i64 m.place, .int .i64 m.kind, .string m.text] 34)) w2) (fun _ j _ => ms.length - (i + 1) - (intOf j).toNat)
        case atStart => exact ⟨0, (m.kind != 4), Nat.zero_le _, rfl, rfl, by by_cases q : m.kind = 4 <;> simp [noStet, q], box_new (Ext.refl _) rfl, box_new (Ext.refl _) rfl, Ext.refl _⟩
        case round =>
          obtain ⟨k, f, hk, rfl, rfl, hf, x0, x1, hE2'⟩ := hrel
          have HF := Lib.hid hf; clear hf
          have hE2 : Ext wa wr := (Ext.alloc _ _).trans hE2'
          have hz2 : wa.heap.size < wr.heap.size := by have := hE2'.size; simp at this; omega
          by_cases hlk : k < ms.length - (i + 1)
          · first
              | (exfalso; omega)
              | (obtain ⟨x, b', off', HX, eA, _, d0, d1, d2, d3⟩ := RdM.get (hr.ext (hE.trans hE2)) (k := i + 1 + k) (by omega)
                 injection eA with eA; injection eA with eb eo _; subst eb; subst eo
                 have hs := noStet_succ (m := m) HX.out
                 have HS := Lib.hid hs; clear hs HX
                 rw [show off + (i + 1 + k) * 4 = off + (i + 1) * 4 + k * 4 by omega] at d0 d1 d2 d3
                 obtain ⟨xl, xp, xk, xt⟩ := x
                 simp only at d0 d1 d2 d3
                 by_cases t1 : xk = 4
                 · subst t1
                   by_cases t2 : xl = m.line
                   · subst t2
                     by_cases t3 : xp = m.place
                     · subst t3
                       go_wp2
                       go_roundw
                       case rel => exact ⟨k + 1, false, by omega, by go_num, rfl, by rw [HS.out]; simp [stetAt], (Ext.alloc _ _).cell x0, (Ext.alloc _ _).cell x1, hE2'.trans (Ext.alloc _ _)⟩
                       case measure => simp [intOf]; omega
                     · go_wp2
                       go_roundw
                       case rel => exact ⟨k + 1, f, by omega, by go_num, rfl, by rw [HF.out, HS.out]; simp [stetAt, t3], (Ext.alloc _ _).cell x0, (Ext.alloc _ _).cell x1, hE2'.trans (Ext.alloc _ _)⟩
                       case measure => simp [intOf]; omega
                   · go_wp2
                     go_roundw
                     case rel => exact ⟨k + 1, f, by omega, by go_num, rfl, by rw [HF.out, HS.out]; simp [stetAt, t2], (Ext.alloc _ _).cell x0, (Ext.alloc _ _).cell x1, hE2'.trans (Ext.alloc _ _)⟩
                     case measure => simp [intOf]; omega
                 · go_wp2
                   go_roundw
                   case rel => exact ⟨k + 1, f, by omega, by go_num, rfl, by rw [HF.out, HS.out]; simp [stetAt, t1], (Ext.alloc _ _).cell x0, (Ext.alloc _ _).cell x1, hE2'.trans (Ext.alloc _ _)⟩
                   case measure => simp [intOf]; omega)
          · have hv : f = liveB ms i := by
              rw [HF.out, show k = ms.length - (i + 1) by omega]
              cases q : noStet ms m i (ms.length - (i + 1))
              · rw [liveB_of HM.out]
                rw [noStet, List.take_of_length_le (by simp)] at q
                rw [q]
              · rw [live_end HM.out q]; rfl
            have q0 : decide ((k : Int) < 0) = false := by simp
            have q1 : (0 : Int) ≤ k := by omega
            have hown2 := ownsRow_ext hown hE2
            have hE3 := hE.trans hE2
            cases t : liveB ms i
            · rw [t] at hv
              subst hv
              have HS : Hid (lvI ms (i + 1) = lvI ms i) := lvI_no t
              clear t
              go_wp2
              go_roundw
              case rel => exact ⟨i + 1, by omega, by go_num, by rw [HS.out]; exact hown2, hE3⟩
              case measure => simp [intOf]; omega
            · rw [t] at hv
              subst hv
              have HS : Hid (lvI ms (i + 1) = lvI ms i ++ [(i : Int)]) := lvI_yes t
              clear t
              go_wp2_with (first | (at_builtin; refine wp_app _ w rfl (.tmp 47) (.tmp 49) 57 rfl 3 _ 1 8 Try.underlying57 intInfoX rfl (by omega) _ _ _ rfl (ownsRow_ext hown2 (Ext.alloc _ _)) (hE3.trans (Ext.alloc _ _)) _ _ _ 1 1 [.int .i64 i] rfl rfl (rdA_new rfl (Ext.refl _)) (by simp [Value.oneCell']) (by omega) (by simp) ?_; intro v4 w4 hown4 hE4 hg4 hat4))
              go_roundw
              case rel => exact ⟨i + 1, by omega, by go_num, by rw [HS.out, List.length_append, List.map_append]; exact hown4, hE4⟩
              case measure => simp [intOf]; omega
    · have hil : i = ms.length := by omega
      subst hil
      clear hlt
      obtain ⟨A', c', rfl, hc', _⟩ := own_form hown
      go_wp2
      go_ret
      exact ⟨A', c', rfl, hc', (Rd.of_own hown : RdI _ _ _ _ _), hE⟩
theorem spec_pfClashes (B : Option Addr) (d : Nat) (ms : List Mrk) (lo hi : Nat) (w : World) (hl : ms.length ≤ 20) (hcap : ms.length ≤ d) (hr : RdM w lo hi B ms) :
    Calls Try.prog 39 #[.slice B ms.length d] w fun e w' => ∃ A c, e = .returned (.slice A (cfTo ms ms.length).length c) ∧ (cfTo ms ms.length).length ≤ c ∧ RdII w' w.heap.size w'.heap.size A (cfTo ms ms.length) ∧ Ext w w' := by
  have hll := lvI_len ms ms.length
  have hlv : (lvTo ms ms.length).length = (lvI ms ms.length).length := by rw [lvI, List.length_map]
  obtain ⟨ls, hls⟩ : ∃ ls, ls = lvI ms ms.length := ⟨_, rfl⟩
  rw [← hls] at hll hlv
  have HLV := Lib.hid hlv
  have HLS := Lib.hid hls
  have hall := spTo_all ms
  rw [hlv] at hall
  have HALL := Lib.hid hall
  clear hls hlv hall
  go_enter Try.func39, Try.ntmps39
  go_wp2_with fail
  refine (spec_pfLive B d ms lo hi _ hl hcap hr).mono ?_
  rw [← HLS.out]
  rintro e w2 ⟨A2, c2, rfl, hc2, hR2, hE2⟩
  have hz2 := hE2.size
  go_wp2_with fail
  go_loopw [3, 13] (fun v j wr => ∃ (n : Nat) (rs : List Row), n ≤ ls.length ∧ j = .int .i64 n ∧ GrowII wr w2.heap.size 57 v (spTo ms n) rs ∧ Ext w2 wr) (fun _ j _ => ls.length - (intOf j).toNat)
  case atStart => exact ⟨0, [], Nat.zero_le _, rfl, GrowII.nil _ _ _, Ext.refl _⟩
  case round =>
    obtain ⟨n, rs, hn, rfl, hG, hE⟩ := hrel
    have hsp := spTo_len (ms := ms) n
    have hsp2 : n * ms.length ≤ 20 * 20 := Nat.mul_le_mul (by omega) hl
    by_cases hlt : n < ls.length
    · obtain ⟨x, b, off, HX, eA, _, _, h3, c0, _⟩ := RdI.get (hR2.ext hE) hlt
      subst eA
      obtain ⟨y, rfl, hy, hlvn⟩ := lvI_at (j := n) (x := x) (by rw [← HLS.out]; exact HX.out)
      have hsuc := spTo_succ hlvn
      have HSUC := Lib.hid hsuc; clear hsuc
      have hcc : c2 = n + 1 ∨ n + 1 < c2 := by omega
      rcases hcc with rfl | hcd
      all_goals
        go_wp2
        go_loopw [3, 23] (fun v j wr => ∃ (k : Nat) (rs : List Row), k ≤ ls.length - (n + 1) ∧ j = .int .i64 k ∧ GrowII wr w2.heap.size 57 v (spTo ms n ++ spI ms y (((lvTo ms ms.length).drop (n + 1)).take k)) rs ∧ Ext w2 wr) (fun _ j _ => ls.length - (n + 1) - (intOf j).toNat)
        case atStart => exact ⟨0, rs, Nat.zero_le _, rfl, by simpa [spI] using hG, hE⟩
        case round =>
          clear hG hE
          obtain ⟨k, rs, hk, rfl, hG, hE⟩ := hrel
          have hsz := hE.size
          by_cases hlk : k < ls.length - (n + 1)
          · first
              | (exfalso; omega)
              | (obtain ⟨x', b', off', HX', eA, _, _, _, d0, _⟩ := RdI.get (hR2.ext hE) (k := n + 1 + k) (by omega)
                 injection eA with eA; injection eA with eb eo _; subst eb; subst eo
                 obtain ⟨z, rfl, hz, hlvz⟩ := lvI_at (j := n + 1 + k) (x := x') (by rw [← HLS.out]; exact HX'.out)
                 have hdz : ((lvTo ms ms.length).drop (n + 1))[k]? = some z := by rw [List.getElem?_drop]; exact hlvz
                 have HDZ := Lib.hid hdz
                 clear hdz hlvz HX'
                 rw [show off + (n + 1 + k) = off + (n + 1) + k by omega] at d0
                 obtain ⟨m, bm, om, HM, eB, g3, m0, m1, m2, m3⟩ := RdM.get (hr.ext (hE2.trans hE)) hy
                 subst eB
                 obtain ⟨m', bm', om', HM', eB, g3', n0, n1, n2, n3⟩ := RdM.get (hr.ext (hE2.trans hE)) hz
                 injection eB with eB; injection eB with eb eo _; subst eb; subst eo
                 have hcl := clashAt_of HM.out HM'.out
                 have HCL := Lib.hid hcl; clear hcl HM HM'
                 have hi0 : (0 : Int) ≤ y := by omega
                 have hi1 : (y : Int) < ms.length := by omega
                 have hk0 : (0 : Int) ≤ z := by omega
                 have hk1 : (z : Int) < ms.length := by omega
                 have hspk : (spTo ms n ++ spI ms y (((lvTo ms ms.length).drop (n + 1)).take k)).length ≤ 500 := by
                   have q : (spI ms y (((lvTo ms ms.length).drop (n + 1)).take k)).length ≤ k := by
                     rw [spI, List.length_map]
                     refine Nat.le_trans (List.length_filter_le _ _) ?_
                     simp; omega
                   rw [List.length_append]; omega
                 have e0 : ∀ v : XW wr, v.v.cell? ⟨bm, om + y * 4, none⟩ = _ := fun v => v.h.cell m0
                 have e1 : ∀ v : XW wr, v.v.cell? ⟨bm, om + y * 4 + 1, none⟩ = _ := fun v => v.h.cell m1
                 have e2 : ∀ v : XW wr, v.v.cell? ⟨bm, om + y * 4 + 2, none⟩ = _ := fun v => v.h.cell m2
                 have e3 : ∀ v : XW wr, v.v.cell? ⟨bm, om + y * 4 + 3, none⟩ = _ := fun v => v.h.cell m3
                 have e4 : ∀ v : XW wr, v.v.cell? ⟨bm, om + z * 4, none⟩ = _ := fun v => v.h.cell n0
                 have e5 : ∀ v : XW wr, v.v.cell? ⟨bm, om + z * 4 + 1, none⟩ = _ := fun v => v.h.cell n1
                 have e6 : ∀ v : XW wr, v.v.cell? ⟨bm, om + z * 4 + 2, none⟩ = _ := fun v => v.h.cell n2
                 have e7 : ∀ v : XW wr, v.v.cell? ⟨bm, om + z * 4 + 3, none⟩ = _ := fun v => v.h.cell n3
                 have hC := fun v : XW wr => spec_pfClash m m' v.v
                 cases t3 : clashB m m'
                 · have HS : Hid (spI ms y (((lvTo ms ms.length).drop (n + 1)).take (k + 1)) = spI ms y (((lvTo ms ms.length).drop (n + 1)).take k)) := spI_no HDZ.out (by rw [HCL.out, t3])
                   simp only [t3] at hC
                   go_wp2_with fail
                   refine wp_region_xw (w0 := wr) (by kernel_rfl) (by kernel_rfl) (by repeat (first | exact Ext.refl _ | assumption | refine Ext.trans ?_ (Ext.alloc _ _) | refine Ext.trans ?_ (Ext.drew _) | refine Ext.trans ?_ (Ext.drewN _ _) | refine Ext.trans ?_ (by assumption))) ?_; (repeat (go_big_quiet_step ((go_at_call 50; with_reducible exact XW.call (hC _))))); refine wpQuiet_nil ?_; intro w1 hw'; obtain ⟨⟨_, hEw1⟩, hw''⟩ := hw'; subst hw''
                   clear hC e0 e1 e2 e3 e4 e5 e6 e7
                   go_wp2
                   go_roundw
                   case rel => exact ⟨k + 1, rs, by omega, by go_num, by rw [HS.out]; exact hG.ext hEw1, hE.trans hEw1⟩
                   case measure => simp [intOf]; omega
                 · have HS : Hid (spI ms y (((lvTo ms ms.length).drop (n + 1)).take (k + 1)) = spI ms y (((lvTo ms ms.length).drop (n + 1)).take k) ++ [prow y z]) := spI_yes HDZ.out (by rw [HCL.out, t3])
                   simp only [t3] at hC
                   go_wp2_with fail
                   refine wp_region_xw (w0 := wr) (by kernel_rfl) (by kernel_rfl) (by repeat (first | exact Ext.refl _ | assumption | refine Ext.trans ?_ (Ext.alloc _ _) | refine Ext.trans ?_ (Ext.drew _) | refine Ext.trans ?_ (Ext.drewN _ _) | refine Ext.trans ?_ (by assumption))) ?_; (repeat (go_big_quiet_step ((go_at_call 50; with_reducible exact XW.call (hC _))))); refine wpQuiet_nil ?_; intro w1 hw'; obtain ⟨⟨_, hEw1⟩, hw''⟩ := hw'; subst hw''
                   clear hC e0 e1 e2 e3 e4 e5 e6 e7
                   have hG1 := hG.ext hEw1
                   have hs1 := hEw1.size
                   have hE1 := hE.trans hEw1
                   have hsz1 : w2.heap.size ≤ w1.heap.size := by omega
                   go_wp2_with (first | (at_builtin; refine wp_app _ w2 rfl (.tmp 36) (.tmp 40) 43 rfl 57 _ 1 24 Try.underlying43 sliceInfo rfl (by omega) _ _ _ rfl (ownsRow_ext hG1.2.1 ((Ext.alloc _ _).trans (Ext.alloc _ _))) ((hE1.trans (Ext.alloc _ _)).trans (Ext.alloc _ _)) _ _ _ 1 1 [.slice (some ⟨w1.heap.size, 0, none⟩) 2 2] rfl rfl (rdA_new2 w1 _ #[.slice (some ⟨w1.heap.size, 0, none⟩) 2 2] _) (by simp [Value.oneCell']) (by omega) (by simp) ?_; intro v4 w4 hown4 hE4 hg4 hat4))
                   go_roundw
                   case rel => exact ⟨k + 1, _, by omega, by go_num, by rw [HS.out, ← List.append_assoc]; exact hG1.push (Ext.alloc w1 (.cells #[.int .i64 y, .int .i64 z] 3)) (c := 2) (l := prow y z) (Nat.le_refl 2) (rowNew w1 y z) hsz1 hown4 _ hg4 hat4, hE4⟩
                   case measure => simp [intOf]; omega)
          · have q0 : decide ((k : Int) < 0) = false := by simp
            have q1 : (0 : Int) ≤ k := by omega
            have hkl : ((lvTo ms ms.length).drop (n + 1)).take k = (lvTo ms ms.length).drop (n + 1) := List.take_of_length_le (by rw [List.length_drop, HLV.out]; omega)
            rw [hkl] at hG
            clear hkl
            go_wp2
            go_roundw
            case rel => exact ⟨n + 1, rs, by omega, by go_num, by rw [HSUC.out]; exact hG, hE⟩
            case measure => simp [intOf]; omega
    · have hil : n = ls.length := by omega
      subst hil
      clear hlt
      rw [HALL.out] at hG
      obtain ⟨A', c', rfl, hc'⟩ := hG.form
      have hRR := (hG.rd hE.size).wide hz2
      go_wp2
      go_ret
      exact ⟨A', c', rfl, hc', hRR, hE2.trans hE⟩
theorem spec_MarkConflicts (A B : Option Addr) (c d : Nat) (l : List ByteArray) (ms : List Mrk) (lo hi lo' hi' : Nat) (w : World) (hl : l.length ≤ 1048577) (hb : ∀ s ∈ l, s.size ≤ 1048577) (hl' : ms.length ≤ 1048577) (hb' : ∀ m ∈ ms, m.text.size ≤ 1048577) (hcap : ms.length ≤ d) (hr : RdT w lo hi A l) (hr' : RdM w lo' hi' B ms) :
    Calls Try.prog 25 #[.slice A l.length c, .slice B ms.length d] w (RetII2 w (mcP l ms)) := by
  cases h : aMk l ms
  · rw [mcP_bad h]
    go_enter Try.func25, Try.ntmps25
    go_wp2_with (go_at_call 32; refine (spec_pfMarks A B c d l ms lo hi lo' hi' _ hl hb hl' hb' hr hr').mono ?_; rintro e w1 ⟨rfl, hE1⟩; obtain ⟨hc1, hf1⟩ := bcell hE1; have hs1 := hE1.size; (try simp only [World.size_alloc] at hs1))
    go_ret2
    exact retII2_lit (by repeat (first | exact Ext.refl _ | assumption | refine Ext.trans ?_ (Ext.alloc _ _) | refine Ext.trans ?_ (Ext.drew _) | refine Ext.trans ?_ (Ext.drewN _ _) | refine Ext.trans ?_ (by assumption)))
  · rw [mcP_good h]
    have h20 := aMk_len h
    go_enter Try.func25, Try.ntmps25
    go_wp2_with (go_at_call 32; refine (spec_pfMarks A B c d l ms lo hi lo' hi' _ hl hb hl' hb' hr hr').mono ?_; rintro e w1 ⟨rfl, hE1⟩; obtain ⟨hc1, hf1⟩ := bcell hE1; have hs1 := hE1.size; (try simp only [World.size_alloc] at hs1))
    refine (spec_pfClashes B d ms lo' hi' _ h20 hcap (hr'.ext hE1)).mono ?_
    rintro e w2 ⟨A2, c2, rfl, hc2, hR2, hE2⟩
    go_wp2_with fail
    go_ret2
    exact ⟨A2, c2, rfl, hc2, hR2.wide (by omega), (by repeat (first | exact Ext.refl _ | assumption | refine Ext.trans ?_ (Ext.alloc _ _) | refine Ext.trans ?_ (Ext.drew _) | refine Ext.trans ?_ (Ext.drewN _ _) | refine Ext.trans ?_ (by assumption)))⟩
end Go.Proofs.Ytclcclhdmciggaa
