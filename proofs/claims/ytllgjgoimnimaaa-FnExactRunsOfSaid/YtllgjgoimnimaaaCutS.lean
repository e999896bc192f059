/- The walks of RunsOf: the program's and the reference's. -/
import Derived.Test.YtllgjgoimnimaaaCutD
import Derived.Test.YtllgjgoimnimaaaNestU
import Derived.Test.YtllgjgoimnimaaaCutR
namespace Go.Proofs.Ytllgjgoimnimaaa
open Go.RowKit
set_option linter.unusedVariables false
theorem RdII.wide {w : World} {lo hi lo' : Nat} {A : Option Addr} {ls : List (List Int)} (h : RdII w lo hi A ls) (h1 : lo' ≤ lo) : RdII w lo' hi A ls := by
  obtain ⟨rs, p0, q0, g1, g2, g3, g4, g5, g6, g7⟩ := h
  exact ⟨rs, p0, q0, g1, by omega, g3, g4, g5, fun i r l hr hl => by obtain ⟨k1, k2, k3, k4, k5⟩ := g6 i r l hr hl; exact ⟨k1, k2, by omega, k4, k5⟩, g7⟩
def ruP (m : Int) (l : List Cut) (n : Int) : List (List Int) × Bool := if areCut m l && inB n 0 300 then (runL (measL m l n.toNat) n.toNat, true) else ([], false)
theorem ruP_bad {m : Int} {l : List Cut} {n : Int} (h : (areCut m l && inB n 0 300) = false) : ruP m l n = ([], false) := by simp only [ruP, h]; rfl
theorem ruP_good {m : Int} {l : List Cut} {n : Int} (h1 : areCut m l = true) (h2 : inB n 0 300 = true) : ruP m l n = (runL (measL m l n.toNat) n.toNat, true) := by simp only [ruP, h1, h2]; rfl
theorem ruP_lim (m : Int) (l : List Cut) (n : Int) : bulk (ruP m l n).1 ≤ 1048577000 := by
  cases h : (areCut m l && inB n 0 300)
  · rw [ruP_bad h]; simp [bulk, totL]
  · simp only [Bool.and_eq_true] at h
    rw [ruP_good h.1 h.2]
    have hn := inB_iff.1 h.2
    have e : n.toNat = (measL m l n.toNat).length := (measL_len ..).symm
    have := runL_bulk (measL m l n.toNat) (by rw [measL_len]; omega)
    rw [measL_len] at this
    exact this
theorem rowNew {w : World} (x : Int) : RdI (w.alloc (.cells #[.int .i64 1, .int .i64 x] 3)) w.heap.size (w.alloc (.cells #[.int .i64 1, .int .i64 x] 3)).heap.size (some ⟨w.heap.size, 0, none⟩) [1, x] :=
  (Blk.new w 3 #[.int .i64 1, .int .i64 x]).rd (Nat.le_refl _) (fun j u h => by simpa using h)
theorem rdA_new2 (w : World) (o : Obj) (cs : Array Value) (t : TypeId) : RdA ((w.alloc o).alloc (.cells cs t)) (w.heap.size + 1) (w.heap.size + 2) (some ⟨w.heap.size + 1, 0, none⟩) cs.toList := by
  have h := rdA_new (w := w.alloc o) (cs := cs) (t := t) rfl (Ext.refl _)
  rw [World.size_alloc] at h
  exact h
theorem impl_RunsOf (m : Int) (A : Option Addr) (c : Nat) (l : List Cut) (n : Int) (lo hi : Nat) (w : World) (hl : l.length ≤ 1048577) (hcap : l.length ≤ c) (hr : RdC w lo hi A l) :
    Calls Try.prog 44 #[.int .i64 m, .slice A l.length c, .int .i64 n] w (RetII2 w (ruP m l n)) := by
  cases h : (areCut m l && inB n 0 300)
  · rw [ruP_bad h]
    go_enter Try.func44, Try.ntmps44
    go_wp2_with fail
    refine (impl_LineMeasures m A c l n lo hi _ hl hcap hr).mono ?_
    rw [lmP_bad h]
    rintro e w2 ⟨A2, c2, rfl, hc2, hR2, hE2⟩
    go_wp2_with fail
    go_ret2
    exact retII2_lit (by repeat (first | exact Ext.refl _ | assumption | refine Ext.trans ?_ (Ext.alloc _ _) | refine Ext.trans ?_ (Ext.drew _) | refine Ext.trans ?_ (Ext.drewN _ _) | refine Ext.trans ?_ (by assumption)))
  have hgd := h
  simp only [Bool.and_eq_true] at hgd
  rw [ruP_good hgd.1 hgd.2]
  obtain ⟨s1, s2⟩ := inB_iff.1 hgd.2
  obtain ⟨xs, hxs⟩ : ∃ xs, xs = measL m l n.toNat := ⟨_, rfl⟩
  have hxl : xs.length = n.toNat := by rw [hxs, measL_len]
  have HLM : Hid (lmP m l n = (xs, true)) := by show _ = _; rw [hxs]; exact lmP_good hgd.1 hgd.2
  have hx3 : xs.length ≤ 300 := by omega
  rw [← hxs, ← hxl]
  clear hxs hxl hgd h
  go_enter Try.func44, Try.ntmps44
  go_wp2_with fail
  refine (impl_LineMeasures m A c l n lo hi _ hl hcap hr).mono ?_
  rw [HLM.out]
  rintro e w2 ⟨A2, c2, rfl, hc2, hR2, hE2⟩
  simp only at hc2 hR2
  have hz2 := hE2.size
  go_wp2_with fail
  go_loopw [10, 26] (fun v j wr => ∃ (k : Nat) (rs : List Row), k ≤ xs.length ∧ j = .int .i64 k ∧ GrowII wr w2.heap.size 47 v (runL xs k) rs ∧ Ext w2 wr) (fun _ j _ => xs.length - (intOf j).toNat)
  case atStart => exact ⟨0, [], Nat.zero_le _, rfl, GrowII.of0 (own_lit0 _ _ (Nat.le_refl _) (Ext.refl _)), Ext.alloc _ _⟩
  case round =>
    obtain ⟨k, rs, hk, rfl, hG, hE⟩ := hrel
    have hsz := hE.size
    have hlk := runL_len xs k
    by_cases hlt : k < xs.length
    · obtain ⟨x, b, off, HX, rfl, _, _, h3, c0, _⟩ := RdI.get (hR2.ext hE) hlt
      by_cases hk0 : k = 0
      · subst hk0
        simp only [Nat.add_zero] at c0
        have HS : Hid (runL xs (0 + 1) = runL xs 0 ++ [[1, x]]) := runL_new HX.out (fun h => absurd h.1 (Nat.lt_irrefl _))
        have hG0 : GrowII wr w2.heap.size 47 _ [] rs := hG
        obtain ⟨A0, cc, rfl, hcc⟩ := hG0.form
        simp only [List.length_nil] at hcc hG0
        have hown0 : wr.ownsRow w2.heap.size 47 1 (.slice A0 0 cc) 0 [] := by have h := hG0.2.1; simp only [List.length_nil, List.zipWith_nil_right] at h; exact h
        go_wp2_with (first | (at_builtin; refine wp_app _ w2 rfl (.tmp 52) (.tmp 55) 52 rfl 47 _ 1 24 Try.underlying52 sliceInfo rfl (by omega) _ 0 [] rfl (ownsRow_ext hown0 ((Ext.alloc _ _).trans (Ext.alloc _ _))) ((hE.trans (Ext.alloc _ _)).trans (Ext.alloc _ _)) _ _ _ 1 1 [.slice (some ⟨wr.heap.size, 0, none⟩) 2 2] rfl rfl (rdA_new2 wr _ #[.slice (some ⟨wr.heap.size, 0, none⟩) 2 2] _) (by simp [Value.oneCell']) (by omega) (by simp) ?_; intro v4 w4 hown4 hE4 hg4 hat4))
        go_roundw
        case rel => exact ⟨1, _, by omega, by go_num, by rw [HS.out]; exact hG0.push (Ext.alloc wr (.cells #[.int .i64 1, .int .i64 x] 3)) (c := 2) (Nat.le_refl 2) (rowNew x) hsz (by simpa using hown4) _ hg4 hat4, hE4⟩
        case measure => simp [intOf]; omega
      · have hk1 : 0 < k := by omega
        have hk2 : (0 : Int) < (k : Int) := by omega
        obtain ⟨cn, cn1, cn2, hl0, hla⟩ := runL_last xs hk1
        have HLA := Lib.hid hla; clear hla
        obtain ⟨y, b', off', HY, eA, _, _, _, d0, _⟩ := RdI.get (hR2.ext hE) (k := k - 1) (by omega)
        injection eA with eA; injection eA with eb eo _; subst eb; subst eo
        have HYG : Hid (xs[k - 1]?.getD 0 = y) := by show _ = _; rw [HY.out]; rfl
        obtain ⟨rw_, ln, g, gc, HLN, hv, hgc, hgl, gcell, hlc, hRr, hbp, UPD⟩ := hG.upd (k := (runL xs k).length - 1) (by omega)
        have hln : ln = [cn, y] := by have := HLN.out.symm.trans HLA.out; rw [HYG.out] at this; injection this
        subst hln
        subst hv
        obtain ⟨z0, bR, offR, HR0, eR, q1, q2, q3, r0, rz⟩ := RdI.get hRr (k := 0) (by simp)
        obtain ⟨z1, bR', offR', HR1, eR', _, _, _, r1, _⟩ := RdI.get hRr (k := 1) (by simp)
        have hz0 : z0 = cn := by have := HR0.out; simpa using this.symm
        have hz1 : z1 = y := by have := HR1.out; simpa using this.symm
        subst hz0; subst hz1
        rw [eR] at eR'
        injection eR' with eR'; injection eR' with eb2 eo2 _; subst eb2; subst eo2
        rw [eR] at gcell hRr
        have HER := Lib.hid eR
        simp only [Nat.add_zero] at r0 rz
        simp only [List.length_cons, List.length_nil, Nat.zero_add, Nat.reduceAdd] at gcell hlc
        clear HR0 HR1 eR HLN
        have hg0 : (runL xs k).length - 1 < (runL xs k).length := by omega
        by_cases hyx : z1 = x
        · subst hyx
          have HS : Hid (runL xs (k + 1) = (runL xs k).set ((runL xs k).length - 1) [z0 + 1, z1]) := runL_same hk1 HX.out HYG.out (by rw [HLA.out, HYG.out])
          go_wp2
          go_roundw
          case rel => exact ⟨k + 1, rs, by omega, by go_num, by rw [HS.out]; exact UPD.out _ [z0 + 1, z1] rfl (by rw [HER.out]; have h := Rd.set_ hRr 0 (.int .i64 (z0 + 1)); rw [Nat.add_zero] at h; exact h) (Out.setCell (Out.refl _ _ _) (.inl ⟨q1, q2⟩) _), Ext.setCell hE (Nat.le_trans hbp q1) _⟩
          case measure => simp [intOf]; omega
        · have HS : Hid (runL xs (k + 1) = runL xs k ++ [[1, x]]) := runL_new HX.out (fun h => hyx (HYG.out.symm.trans h.2))
          go_wp2_with (first | (at_builtin; refine wp_app _ w2 rfl (.tmp 52) (.tmp 55) 52 rfl 47 _ 1 24 Try.underlying52 sliceInfo rfl (by omega) _ _ _ rfl (ownsRow_ext hG.2.1 ((Ext.alloc _ _).trans (Ext.alloc _ _))) ((hE.trans (Ext.alloc _ _)).trans (Ext.alloc _ _)) _ _ _ 1 1 [.slice (some ⟨wr.heap.size, 0, none⟩) 2 2] rfl rfl (rdA_new2 wr _ #[.slice (some ⟨wr.heap.size, 0, none⟩) 2 2] _) (by simp [Value.oneCell']) (by omega) (by simp) ?_; intro v4 w4 hown4 hE4 hg4 hat4))
          go_roundw
          case rel => exact ⟨k + 1, _, by omega, by go_num, by rw [HS.out]; exact hG.push (Ext.alloc wr (.cells #[.int .i64 1, .int .i64 x] 3)) (c := 2) (Nat.le_refl 2) (rowNew x) hsz hown4 _ hg4 hat4, hE4⟩
          case measure => simp [intOf]; omega
    · have hkl : k = xs.length := by omega
      subst hkl
      clear hlt
      obtain ⟨A', c', rfl, hc'⟩ := hG.form
      go_wp2
      go_ret2
      exact ⟨A', c', rfl, hc', (hG.rd hsz).wide (by omega), (by repeat (first | exact Ext.refl _ | assumption | refine Ext.trans ?_ (Ext.alloc _ _) | refine Ext.trans ?_ (Ext.drew _) | refine Ext.trans ?_ (Ext.drewN _ _) | refine Ext.trans ?_ (by assumption)))⟩
theorem spec_RunsOf (m : Int) (A : Option Addr) (c : Nat) (l : List Cut) (n : Int) (lo hi : Nat) (w : World) (hl : l.length ≤ 1048577) (hcap : l.length ≤ c) (hr : RdC w lo hi A l) :
    Calls Try.prog 43 #[.int .i64 m, .slice A l.length c, .int .i64 n] w (RetII2 w (ruP m l n)) := by
  cases h1 : areCut m l
  · rw [ruP_bad (by simp [h1])]
    go_enter Try.func43, Try.ntmps43
    go_wp2_with (go_at_call 51; refine (spec_inGood m A c l lo hi _ hl hcap hr).mono ?_; rintro e w1 ⟨rfl, hE1⟩; obtain ⟨hc1, hf1⟩ := bcell hE1; have hs1 := hE1.size; (try simp only [World.size_alloc] at hs1))
    go_ret2
    exact retII2_lit (by repeat (first | exact Ext.refl _ | assumption | refine Ext.trans ?_ (Ext.alloc _ _) | refine Ext.trans ?_ (Ext.drew _) | refine Ext.trans ?_ (Ext.drewN _ _) | refine Ext.trans ?_ (by assumption)))
  cases h2 : inB n 0 300
  · rw [ruP_bad (by simp [h2])]
    go_enter Try.func43, Try.ntmps43
    go_wp2_with (first | (go_at_call 51; refine (spec_inGood m A c l lo hi _ hl hcap hr).mono ?_; rintro e w1 ⟨rfl, hE1⟩; obtain ⟨hc1, hf1⟩ := bcell hE1; have hs1 := hE1.size; (try simp only [World.size_alloc] at hs1)) | (go_at_call 59; refine (inNumber_any _ _).mono ?_; rintro e w' ⟨rfl, rfl⟩))
    go_ret2
    exact retII2_lit (by repeat (first | exact Ext.refl _ | assumption | refine Ext.trans ?_ (Ext.alloc _ _) | refine Ext.trans ?_ (Ext.drew _) | refine Ext.trans ?_ (Ext.drewN _ _) | refine Ext.trans ?_ (by assumption)))
  rw [ruP_good h1 h2]
  obtain ⟨s1, s2⟩ := inB_iff.1 h2
  obtain ⟨xs, hxs⟩ : ∃ xs, xs = measL m l n.toNat := ⟨_, rfl⟩
  have hxl : xs.length = n.toNat := by rw [hxs, measL_len]
  have HXS := Lib.hid hxs
  have hx3 : xs.length ≤ 300 := by omega
  rw [← hxs, ← hxl]
  clear hxs hxl
  go_enter Try.func43, Try.ntmps43
  go_wp2_with (first | (go_at_call 51; refine (spec_inGood m A c l lo hi _ hl hcap hr).mono ?_; rintro e w1 ⟨rfl, hE1⟩; obtain ⟨hc1, hf1⟩ := bcell hE1; have hs1 := hE1.size; (try simp only [World.size_alloc] at hs1)) | (go_at_call 59; refine (inNumber_any _ _).mono ?_; rintro e w' ⟨rfl, rfl⟩))
  refine (inAll_any m A c l n lo hi _ hl (hr.ext hE1) s1 s2).mono ?_
  rw [← HXS.out]
  rintro e w2 ⟨A2, c2, rfl, hc2, hR2, hE2⟩
  have hz2 := (hE1.trans hE2).size
  clear h1 h2 hc1 hf1
  go_wp2_with fail
  go_loopw [8, 26] (fun v j wr => ∃ (k : Nat) (rs : List Row), k ≤ xs.length ∧ j = .int .i64 k ∧ GrowII wr w2.heap.size 47 v (runL xs k) rs ∧ Ext w2 wr) (fun _ j _ => xs.length - (intOf j).toNat)
  case atStart => exact ⟨0, [], Nat.zero_le _, rfl, GrowII.of0 (own_nil _ _ _ _), Ext.refl _⟩
  case round =>
    obtain ⟨k, rs, hk, rfl, hG, hE⟩ := hrel
    have hsz := hE.size
    have hlk := runL_len xs k
    by_cases hlt : k < xs.length
    · obtain ⟨x, b, off, HX, rfl, _, _, h3, c0, _⟩ := RdI.get (hR2.ext hE) hlt
      by_cases hk0 : k = 0
      · subst hk0
        simp only [Nat.add_zero] at c0
        have HS : Hid (runL xs (0 + 1) = runL xs 0 ++ [[1, x]]) := runL_new HX.out (fun h => absurd h.1 (Nat.lt_irrefl _))
        have hG0 : GrowII wr w2.heap.size 47 _ [] rs := hG
        obtain ⟨A0, cc, rfl, hcc⟩ := hG0.form
        simp only [List.length_nil] at hcc hG0
        have hown0 : wr.ownsRow w2.heap.size 47 1 (.slice A0 0 cc) 0 [] := by have h := hG0.2.1; simp only [List.length_nil, List.zipWith_nil_right] at h; exact h
        go_wp2_with (first | (at_builtin; refine wp_app _ w2 rfl (.tmp 54) (.tmp 57) 52 rfl 47 _ 1 24 Try.underlying52 sliceInfo rfl (by omega) _ 0 [] rfl (ownsRow_ext hown0 ((Ext.alloc _ _).trans (Ext.alloc _ _))) ((hE.trans (Ext.alloc _ _)).trans (Ext.alloc _ _)) _ _ _ 1 1 [.slice (some ⟨wr.heap.size, 0, none⟩) 2 2] rfl rfl (rdA_new2 wr _ #[.slice (some ⟨wr.heap.size, 0, none⟩) 2 2] _) (by simp [Value.oneCell']) (by omega) (by simp) ?_; intro v4 w4 hown4 hE4 hg4 hat4))
        go_roundw
        case rel => exact ⟨1, _, by omega, by go_num, by rw [HS.out]; exact hG0.push (Ext.alloc wr (.cells #[.int .i64 1, .int .i64 x] 3)) (c := 2) (Nat.le_refl 2) (rowNew x) hsz (by simpa using hown4) _ hg4 hat4, hE4⟩
        case measure => simp [intOf]; omega
      · have hk1 : 0 < k := by omega
        have hk2 : (0 : Int) < (k : Int) := by omega
        obtain ⟨cn, cn1, cn2, hl0, hla⟩ := runL_last xs hk1
        have HLA := Lib.hid hla; clear hla
        obtain ⟨y, b', off', HY, eA, _, _, _, d0, _⟩ := RdI.get (hR2.ext hE) (k := k - 1) (by omega)
        injection eA with eA; injection eA with eb eo _; subst eb; subst eo
        have HYG : Hid (xs[k - 1]?.getD 0 = y) := by show _ = _; rw [HY.out]; rfl
        obtain ⟨rw_, ln, g, gc, HLN, hv, hgc, hgl, gcell, hlc, hRr, hbp, UPD⟩ := hG.upd (k := (runL xs k).length - 1) (by omega)
        have hln : ln = [cn, y] := by have := HLN.out.symm.trans HLA.out; rw [HYG.out] at this; injection this
        subst hln
        subst hv
        obtain ⟨z0, bR, offR, HR0, eR, q1, q2, q3, r0, rz⟩ := RdI.get hRr (k := 0) (by simp)
        obtain ⟨z1, bR', offR', HR1, eR', _, _, _, r1, _⟩ := RdI.get hRr (k := 1) (by simp)
        have hz0 : z0 = cn := by have := HR0.out; simpa using this.symm
        have hz1 : z1 = y := by have := HR1.out; simpa using this.symm
        subst hz0; subst hz1
        rw [eR] at eR'
        injection eR' with eR'; injection eR' with eb2 eo2 _; subst eb2; subst eo2
        rw [eR] at gcell hRr
        have HER := Lib.hid eR
        simp only [Nat.add_zero] at r0 rz
        simp only [List.length_cons, List.length_nil, Nat.zero_add, Nat.reduceAdd] at gcell hlc
        clear HR0 HR1 eR HLN
        have hg0 : (runL xs k).length - 1 < (runL xs k).length := by omega
        by_cases hyx : z1 = x
        · subst hyx
          have HS : Hid (runL xs (k + 1) = (runL xs k).set ((runL xs k).length - 1) [z0 + 1, z1]) := runL_same hk1 HX.out HYG.out (by rw [HLA.out, HYG.out])
          go_wp2
          go_roundw
          case rel => exact ⟨k + 1, rs, by omega, by go_num, by rw [HS.out]; exact UPD.out _ [z0 + 1, z1] rfl (by rw [HER.out]; have h := Rd.set_ hRr 0 (.int .i64 (z0 + 1)); rw [Nat.add_zero] at h; exact h) (Out.setCell (Out.refl _ _ _) (.inl ⟨q1, q2⟩) _), Ext.setCell hE (Nat.le_trans hbp q1) _⟩
          case measure => simp [intOf]; omega
        · have HS : Hid (runL xs (k + 1) = runL xs k ++ [[1, x]]) := runL_new HX.out (fun h => hyx (HYG.out.symm.trans h.2))
          go_wp2_with (first | (at_builtin; refine wp_app _ w2 rfl (.tmp 54) (.tmp 57) 52 rfl 47 _ 1 24 Try.underlying52 sliceInfo rfl (by omega) _ _ _ rfl (ownsRow_ext hG.2.1 ((Ext.alloc _ _).trans (Ext.alloc _ _))) ((hE.trans (Ext.alloc _ _)).trans (Ext.alloc _ _)) _ _ _ 1 1 [.slice (some ⟨wr.heap.size, 0, none⟩) 2 2] rfl rfl (rdA_new2 wr _ #[.slice (some ⟨wr.heap.size, 0, none⟩) 2 2] _) (by simp [Value.oneCell']) (by omega) (by simp) ?_; intro v4 w4 hown4 hE4 hg4 hat4))
          go_roundw
          case rel => exact ⟨k + 1, _, by omega, by go_num, by rw [HS.out]; exact hG.push (Ext.alloc wr (.cells #[.int .i64 1, .int .i64 x] 3)) (c := 2) (Nat.le_refl 2) (rowNew x) hsz hown4 _ hg4 hat4, hE4⟩
          case measure => simp [intOf]; omega
    · have hkl : k = xs.length := by omega
      subst hkl
      clear hlt
      obtain ⟨A', c', rfl, hc'⟩ := hG.form
      go_wp2
      go_ret2
      exact ⟨A', c', rfl, hc', (hG.rd hsz).wide (by omega), (by repeat (first | exact Ext.refl _ | assumption | refine Ext.trans ?_ (Ext.alloc _ _) | refine Ext.trans ?_ (Ext.drew _) | refine Ext.trans ?_ (Ext.drewN _ _) | refine Ext.trans ?_ (by assumption)))⟩

end Go.Proofs.Ytllgjgoimnimaaa
