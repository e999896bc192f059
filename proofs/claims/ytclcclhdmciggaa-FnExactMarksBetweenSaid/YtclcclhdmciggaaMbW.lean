/- The walks of MarksBetween: the program's and the reference's. -/
import Derived.Test.YtclcclhdmciggaaMkC
import Derived.Test.YtclcclhdmciggaaMbP
import Derived.Test.YtclcclhdmciggaaXw
import Derived.Deep.LoopGhost
import Derived.Deep.Cut
import Derived.Deep.DeepCutAuto
import Derived.Laws.DeepStrings4
namespace Go.Proofs.Ytclcclhdmciggaa
open Go.RowKit
set_option linter.unusedVariables false
theorem Ext.iter {W w w' : World} {g : Nat} (h : Ext W w) (hg : W.heap.size ≤ g) (hs : w'.heap.size = w.heap.size) (hb : ∀ k, k ≠ g → w'.heap[k]? = w.heap[k]?) (h1 : w'.os = w.os) (h2 : w'.tape = w.tape) (h3 : w'.output = w.output) : Ext W w' :=
  Below.trans h ⟨h1, h2, h3, by omega, fun k hk => hb k (by have := h.size; omega)⟩
set_option maxRecDepth 20000 in
set_option maxHeartbeats 4000000 in
theorem impl_between (a b : ByteArray) (w : World) (ha : txt a 0 40 = true) (hb : txt b 0 40 = true) :
    Calls Try.prog 44 #[.string a, .string b] w fun e w' => ∃ A c, e = .returned (.slice A (btw a b).length c) ∧ (btw a b).length ≤ c ∧ RdM w' w.heap.size w'.heap.size A (btw a b) ∧ Ext w w' := by
  have hsa := txt_size ha
  have hsb := txt_size hb
  have HA := Lib.hid ha; clear ha hb
  go_enter Try.func44, Try.ntmps44
  go_wp2_with fail
  go_loopw [5] (fun j wr => ∃ n k : Nat, j = .int .i64 n ∧ n + k = a.size ∧ upTo (preC a b) k n = preN a b ∧ Ext w wr) (fun j _ => a.size - (intOf j).toNat)
  case atStart => exact ⟨0, a.size, rfl, by omega, rfl, Ext.refl _⟩
  case round =>
    obtain ⟨n, k, rfl, hnk, hu, hE⟩ := hrel
    have HU := Lib.hid hu; clear hu
    have HNK := Lib.hid hnk
    have hna : n ≤ a.size := by omega
    clear hnk
    go_upto_region 2 with fail
    go_cut [29] (fun s wx => s = .bool (preC a b n) ∧ Ext wr wx)
    case first =>
      have i0 : (0 : Int) ≤ n := by omega
      by_cases h1 : n < a.size
      · have i1 : (n : Int) < a.size := by omega
        by_cases h2 : n < b.size
        · have i2 : (n : Int) < b.size := by omega
          have hv : preC a b n = (((a[n]'h1).toNat : Int) == ((b[n]'h2).toNat : Int)) := by simp [preC, h1, h2, byN_at]
          have HV := Lib.hid hv; clear hv
          refine wp_region_xw (w0 := wr) (by kernel_rfl) (by kernel_rfl) (by repeat (first | exact Ext.refl _ | assumption | refine Ext.trans ?_ (Ext.alloc _ _) | refine Ext.trans ?_ (Ext.drew _) | refine Ext.trans ?_ (Ext.drewN _ _) | refine Ext.trans ?_ (by assumption))) ?_; (repeat (go_big_quiet_step ((fail)))); refine wpQuiet_nil ?_; intro w1 hw'; obtain ⟨⟨_, hEw1⟩, hw''⟩ := hw'; subst hw''
          go_wp2_with fail
          go_meet
          exact ⟨val_bool HV.out.symm, hEw1⟩
        · have HV : Hid (preC a b n = false) := by show _ = _; simp [preC, h2]
          have g2 : decide ((n : Int) < b.size) = false := by simp; omega
          have g3 : decide (n < b.size) = false := by simp; omega
          refine wp_region_xw (w0 := wr) (by kernel_rfl) (by kernel_rfl) (by repeat (first | exact Ext.refl _ | assumption | refine Ext.trans ?_ (Ext.alloc _ _) | refine Ext.trans ?_ (Ext.drew _) | refine Ext.trans ?_ (Ext.drewN _ _) | refine Ext.trans ?_ (by assumption))) ?_; (repeat (go_big_quiet_step ((fail)))); refine wpQuiet_nil ?_; intro w1 hw'; obtain ⟨⟨_, hEw1⟩, hw''⟩ := hw'; subst hw''
          go_wp2_with fail
          go_meet
          exact ⟨val_bool HV.out.symm, hEw1⟩
      · have HV : Hid (preC a b n = false) := by show _ = _; simp [preC, h1]
        have g2 : decide ((n : Int) < a.size) = false := by simp; omega
        have g3 : decide (n < a.size) = false := by simp; omega
        refine wp_region_xw (w0 := wr) (by kernel_rfl) (by kernel_rfl) (by repeat (first | exact Ext.refl _ | assumption | refine Ext.trans ?_ (Ext.alloc _ _) | refine Ext.trans ?_ (Ext.drew _) | refine Ext.trans ?_ (Ext.drewN _ _) | refine Ext.trans ?_ (by assumption))) ?_; (repeat (go_big_quiet_step ((fail)))); refine wpQuiet_nil ?_; intro w1 hw'; obtain ⟨⟨_, hEw1⟩, hw''⟩ := hw'; subst hw''
        go_wp2_with fail
        go_meet
        exact ⟨val_bool HV.out.symm, hEw1⟩
    case rest =>
      obtain ⟨rfl, hE4⟩ := hcut
      have hE5 := hE.trans hE4
      clear hE hE4
      cases hc : preC a b n
      · have hF : preN a b = n := by rw [← HU.out]; exact upTo_no hc k
        have HF := Lib.hid hF
        obtain ⟨f1, f2⟩ := preN_le a b
        rw [hF] at f1 f2
        have HSN : Hid (sufN a b = upTo (sufC a b n) a.size 0) := by show _ = _; rw [sufN, hF]
        obtain ⟨s1, s2⟩ := sufN_le a b
        rw [hF] at s1 s2
        clear hc hF hna HU HNK
        go_wp2_with fail
        go_loopw [6] (fun j wr => ∃ m q : Nat, j = .int .i64 m ∧ m + q = a.size ∧ upTo (sufC a b n) q m = sufN a b ∧ Ext w wr) (fun j _ => a.size - (intOf j).toNat)
        case atStart => exact ⟨0, a.size, rfl, by omega, HSN.out.symm, hE5⟩
        case round =>
          clear hE5
          obtain ⟨m, q, rfl, hmq, hu, hE⟩ := hrel
          have HU := Lib.hid hu; clear hu
          have HMQ := Lib.hid hmq
          have hma : m ≤ a.size := by omega
          clear hmq
          go_upto_region 5 with fail
          go_cut [62] (fun s wx => s = .bool (sufC a b n m) ∧ Ext wr wx)
          case first =>
            have i0 : (0 : Int) ≤ m := by omega
            have w1_ : IntKind.i64.wrap ((a.size : Int) - (n : Int)) = (a.size : Int) - (n : Int) := IntWalk.i64_in _ (by omega)
            by_cases h1 : m < a.size - n
            · have i1 : (m : Int) < (a.size : Int) - (n : Int) := by omega
              have w2_ : IntKind.i64.wrap ((b.size : Int) - (n : Int)) = (b.size : Int) - (n : Int) := IntWalk.i64_in _ (by omega)
              by_cases h2 : m < b.size - n
              · have i2 : (m : Int) < (b.size : Int) - (n : Int) := by omega
                have hv : sufC a b n m = (((a[a.size - 1 - m]'(by omega)).toNat : Int) == ((b[b.size - 1 - m]'(by omega)).toNat : Int)) := by
                  have e1 := byN_at (s := a) (n := a.size - 1 - m) (by omega)
                  have e2 := byN_at (s := b) (n := b.size - 1 - m) (by omega)
                  simp [sufC, h1, h2, e1, e2]
                have HV := Lib.hid hv; clear hv
                have w3_ : IntKind.i64.wrap ((a.size : Int) - 1) = (a.size : Int) - 1 := IntWalk.i64_in _ (by omega)
                have w4_ : IntKind.i64.wrap ((a.size : Int) - 1 - (m : Int)) = (a.size : Int) - 1 - (m : Int) := IntWalk.i64_in _ (by omega)
                have w5_ : IntKind.i64.wrap ((b.size : Int) - 1) = (b.size : Int) - 1 := IntWalk.i64_in _ (by omega)
                have w6_ : IntKind.i64.wrap ((b.size : Int) - 1 - (m : Int)) = (b.size : Int) - 1 - (m : Int) := IntWalk.i64_in _ (by omega)
                have w7_ : ((a.size : Int) - 1 - (m : Int)).toNat = a.size - 1 - m := by omega
                have w8_ : ((b.size : Int) - 1 - (m : Int)).toNat = b.size - 1 - m := by omega
                have j1 : (0 : Int) ≤ (a.size : Int) - 1 - (m : Int) := by omega
                have j2 : (a.size : Int) - 1 - (m : Int) < a.size := by omega
                have j3 : (0 : Int) ≤ (b.size : Int) - 1 - (m : Int) := by omega
                have j4 : (b.size : Int) - 1 - (m : Int) < b.size := by omega
                have j5 : (m : Int) ≤ (a.size : Int) - 1 := by omega
                have j6 : (m : Int) ≤ (b.size : Int) - 1 := by omega
                refine wp_region_xw (w0 := wr) (by kernel_rfl) (by kernel_rfl) (by repeat (first | exact Ext.refl _ | assumption | refine Ext.trans ?_ (Ext.alloc _ _) | refine Ext.trans ?_ (Ext.drew _) | refine Ext.trans ?_ (Ext.drewN _ _) | refine Ext.trans ?_ (by assumption))) ?_; (repeat (go_big_quiet_step ((fail)))); refine wpQuiet_nil ?_; intro w1 hw'; obtain ⟨⟨_, hEw1⟩, hw''⟩ := hw'; subst hw''
                go_wp2_with fail
                go_meet
                exact ⟨val_bool HV.out.symm, hEw1⟩
              · have HV : Hid (sufC a b n m = false) := by show _ = _; simp [sufC, h2]
                have g2 : decide ((m : Int) < (b.size : Int) - (n : Int)) = false := by simp; omega
                refine wp_region_xw (w0 := wr) (by kernel_rfl) (by kernel_rfl) (by repeat (first | exact Ext.refl _ | assumption | refine Ext.trans ?_ (Ext.alloc _ _) | refine Ext.trans ?_ (Ext.drew _) | refine Ext.trans ?_ (Ext.drewN _ _) | refine Ext.trans ?_ (by assumption))) ?_; (repeat (go_big_quiet_step ((fail)))); refine wpQuiet_nil ?_; intro w1 hw'; obtain ⟨⟨_, hEw1⟩, hw''⟩ := hw'; subst hw''
                go_wp2_with fail
                go_meet
                exact ⟨val_bool HV.out.symm, hEw1⟩
            · have HV : Hid (sufC a b n m = false) := by show _ = _; simp [sufC, h1]
              have g2 : decide ((m : Int) < (a.size : Int) - (n : Int)) = false := by simp; omega
              refine wp_region_xw (w0 := wr) (by kernel_rfl) (by kernel_rfl) (by repeat (first | exact Ext.refl _ | assumption | refine Ext.trans ?_ (Ext.alloc _ _) | refine Ext.trans ?_ (Ext.drew _) | refine Ext.trans ?_ (Ext.drewN _ _) | refine Ext.trans ?_ (by assumption))) ?_; (repeat (go_big_quiet_step ((fail)))); refine wpQuiet_nil ?_; intro w1 hw'; obtain ⟨⟨_, hEw1⟩, hw''⟩ := hw'; subst hw''
              go_wp2_with fail
              go_meet
              exact ⟨val_bool HV.out.symm, hEw1⟩
          case rest =>
            obtain ⟨rfl, hE4⟩ := hcut
            have hE5 := hE.trans hE4
            clear hE hE4
            cases hc : sufC a b n m
            · have hL : sufN a b = m := by rw [← HU.out]; exact upTo_no hc q
              rw [hL] at s1 s2
              have HL := Lib.hid hL
              clear hc hL hma HU HMQ HSN
              go_wp2_with fail
              obtain ⟨w0, hw0⟩ : ∃ w0, w0 = wc.alloc (.cells #[] 34) := ⟨_, rfl⟩
              have own0 : w0.ownsRow w.heap.size 34 4 (.slice (some ⟨wc.heap.size, 0, none⟩) 0 0) 0 [] := by rw [hw0]; exact own_lit0 _ _ hE5.size (Ext.refl _)
              have hE0 : Ext w w0 := by rw [hw0]; exact hE5.trans (Ext.alloc _ _)
              rw [← hw0]
              clear hw0
              have w1_ : IntKind.i64.wrap ((a.size : Int) - (m : Int)) = (a.size : Int) - (m : Int) := IntWalk.i64_in _ (by omega)
              have w2_ : IntKind.i64.wrap ((b.size : Int) - (m : Int)) = (b.size : Int) - (m : Int) := IntWalk.i64_in _ (by omega)
              have w3_ : ((a.size : Int) - (m : Int)).toNat = a.size - m := by omega
              have w4_ : ((b.size : Int) - (m : Int)).toNat = b.size - m := by omega
              have j0 : (0 : Int) ≤ n := by omega
              have j1 : (n : Int) ≤ (a.size : Int) - (m : Int) := by omega
              have j2 : (n : Int) ≤ (b.size : Int) - (m : Int) := by omega
              have j3 : (0 : Int) ≤ (a.size : Int) - (m : Int) := by omega
              have j4 : (0 : Int) ≤ (b.size : Int) - (m : Int) := by omega
              have j5 : (m : Int) ≤ a.size := by omega
              have j6 : (m : Int) ≤ b.size := by omega
              have j7 : (0 : Int) ≤ m := by omega
              have j8 : (a.size : Int) - (m : Int) ≤ a.size := by omega
              have j9 : (b.size : Int) - (m : Int) ≤ b.size := by omega
              refine wp_region_xw (w0 := w0) (by kernel_rfl) (by kernel_rfl) (by repeat (first | exact Ext.refl _ | assumption | refine Ext.trans ?_ (Ext.alloc _ _) | refine Ext.trans ?_ (Ext.drew _) | refine Ext.trans ?_ (Ext.drewN _ _) | refine Ext.trans ?_ (by assumption))) ?_; (repeat (go_big_quiet_step ((fail)))); refine wpQuiet_nil ?_; intro w1 hw'; obtain ⟨⟨_, hEw1⟩, hw''⟩ := hw'; subst hw''
              have own1 := ownsRow_ext own0 hEw1
              have hE1 := hE0.trans hEw1
              obtain ⟨old, hold⟩ : ∃ o, o = a.extract n (a.size - m) := ⟨_, rfl⟩
              obtain ⟨now, hnow⟩ : ∃ o, o = b.extract n (b.size - m) := ⟨_, rfl⟩
              rw [← hold, ← hnow]
              have HOLD : Hid (old = oldB a b) := by show _ = _; rw [hold, oldB, HF.out, HL.out]
              have HNOW : Hid (now = nowB a b) := by show _ = _; rw [hnow, nowB, HF.out, HL.out]
              have HBT : Hid (btw a b = mbTo old now n old.size ++ mbEnd old now n) := by show _ = _; rw [btw, mbL, ← HOLD.out, ← HNOW.out, HF.out]
              have hos : old.size ≤ 40 := by rw [HOLD.out, oldB_size]; omega
              have hns : now.size ≤ 40 := by rw [HNOW.out, nowB_size]; omega
              have HBY : Hid (∀ (i : Nat) (h : i < old.size), (old[i]'h).toNat < 128) := by
                show ∀ (i : Nat) (h : i < old.size), _
                rw [HOLD.out]
                exact fun i h => oldB_byte HA.out h
              clear w1_ w2_ w3_ w4_ j1 j2 j3 j4 j5 j6 j7 j8 j9 own0 hE0 hEw1 hE5 hold hnow HL HF
              go_wp2_with fail
              obtain ⟨g, hg⟩ : ∃ g, g = w1.heap.size := ⟨_, rfl⟩
              obtain ⟨w2, hw2⟩ : ∃ w2, w2 = w1.iter old 0 := ⟨_, rfl⟩
              have hIt : w2.heap[g]? = some (.stringIter old 0) := by rw [hw2, hg]; exact iter_new _ _
              have own2 := ownsRow_ext own1 (show Ext w1 w2 from by rw [hw2]; exact Ext.alloc _ _)
              have hE2 : Ext w w2 := by rw [hw2]; exact hE1.iterNew old
              have hgw : w.heap.size ≤ g := by rw [hg]; exact hE1.size
              rw [← hw2, ← hg]
              clear hw2 hg own1 hE1
              go_loopg [7] (old.size) (fun k v wr => ∃ i : Nat, i + k = old.size ∧ wr.heap[g]? = some (.stringIter old i) ∧ wr.ownsRow w.heap.size 34 4 v (mbTo old now n i).length ((mbTo old now n i).flatMap Mrk.enc) ∧ Ext w wr)
              case atStart => exact ⟨0, by omega, hIt, own2, hE2⟩
              case round =>
                clear hIt own2 hE2
                obtain ⟨i, hik, hIt, hown, hE⟩ := hrel
                have HIK := Lib.hid hik
                have hio : i ≤ old.size := by omega
                have hll := mbTo_len old now n i
                clear hik
                by_cases hlt : i < old.size
                · obtain ⟨wn, hnx0, hIn, hsn, hbn, ho1, ho2, ho3⟩ := next_at hIt hlt (HBY.out i hlt)
                  have hnx := hnx0 Try.prog
                  have hown2 := own_iter hown hIt hbn
                  have hEn : Ext w wn := Ext.iter hE hgw hsn hbn ho1 ho2 ho3
                  have HIt := Lib.hid hIn
                  have i0 : (0 : Int) ≤ i := by omega
                  clear hnx0 hbn ho1 ho2 ho3 hsn hown hE hIt hIn
                  by_cases h1 : now.size ≤ i
                  · have HS : Hid (mbTo old now n (i + 1) = mbTo old now n i ++ [⟨0, (n : Int) + (i : Int), 1, ByteArray.empty⟩]) := by show _ = _; rw [mbTo_succ, mbAt, if_pos h1]
                    go_wp2_with ((at_builtin; refine wp_app _ w rfl (.tmp 90) (.tmp 95) 29 rfl 34 _ 4 40 Try.underlying29 markInfo rfl (by omega) _ _ _ rfl (ownsRow_ext hown2 (Ext.alloc _ _)) (hEn.trans (Ext.alloc _ _)) _ _ _ 1 1 [.int .i64 0, .int .i64 ((n : Int) + (i : Int)), .int .i64 1, .string ByteArray.empty] rfl rfl (rdA_new rfl (Ext.refl _)) (by simp [Value.oneCell']) (by omega) (by simp) ?_; intro v4 w4 hown4 hE4 hg4 hat4))
                    go_roundg (old.size - (i + 1))
                    case measure => have := HIK.out; omega
                    case rel => exact ⟨i + 1, by omega, iter_grown hown2 HIt.out hg4, by rw [HS.out, List.length_append, List.flatMap_append]; exact hown4, hE4⟩
                  · have h1' : i < now.size := by omega
                    have i1 : (i : Int) < now.size := by omega
                    have i2 : (i : Int) < old.size := by omega
                    have e1 := byN_at (s := old) (n := i) hlt
                    have e2 := byN_at (s := now) (n := i) h1'
                    by_cases h2 : byN old i = byN now i
                    · have HS : Hid (mbTo old now n (i + 1) = mbTo old now n i) := by show _ = _; rw [mbTo_succ, mbAt, if_neg h1, if_pos h2, List.append_nil]
                      rw [e1, e2] at h2
                      have t1 : (((old[i]'hlt).toNat : Int) != ((now[i]'h1').toNat : Int)) = false := by rw [h2]; simp
                      clear e1 e2 h2 h1
                      go_wp2_with fail
                      refine wp_region_xw (w0 := wn) (by kernel_rfl) (by kernel_rfl) (by repeat (first | exact Ext.refl _ | assumption | refine Ext.trans ?_ (Ext.alloc _ _) | refine Ext.trans ?_ (Ext.drew _) | refine Ext.trans ?_ (Ext.drewN _ _) | refine Ext.trans ?_ (by assumption))) ?_; (repeat (go_big_quiet_step ((fail)))); refine wpQuiet_nil ?_; intro w5 hw'; obtain ⟨⟨_, hEw5⟩, hw''⟩ := hw'; subst hw''
                      clear t1 hnx
                      go_wp2
                      go_roundg (old.size - (i + 1))
                      case measure => have := HIK.out; omega
                      case rel => exact ⟨i + 1, by omega, (Below.block hEw5 g (Array.getElem?_eq_some_iff.1 HIt.out).1).trans HIt.out, by rw [HS.out]; exact ownsRow_ext hown2 hEw5, hEn.trans hEw5⟩
                    · have HS : Hid (mbTo old now n (i + 1) = mbTo old now n i ++ [⟨0, (n : Int) + (i : Int), 3, now.extract i (i + 1)⟩]) := by show _ = _; rw [mbTo_succ, mbAt, if_neg h1, if_neg h2]
                      rw [e1, e2] at h2
                      have t1 : (((old[i]'hlt).toNat : Int) != ((now[i]'h1').toNat : Int)) = true := by simp only [bne_iff_ne]; exact h2
                      clear e1 e2 h2 h1
                      go_wp2_with fail
                      refine wp_region_xw (w0 := wn) (by kernel_rfl) (by kernel_rfl) (by repeat (first | exact Ext.refl _ | assumption | refine Ext.trans ?_ (Ext.alloc _ _) | refine Ext.trans ?_ (Ext.drew _) | refine Ext.trans ?_ (Ext.drewN _ _) | refine Ext.trans ?_ (by assumption))) ?_; (repeat (go_big_quiet_step ((fail)))); refine wpQuiet_nil ?_; intro w5 hw'; obtain ⟨⟨_, hEw5⟩, hw''⟩ := hw'; subst hw''
                      clear t1 hnx
                      have hown5 := ownsRow_ext hown2 hEw5
                      have hE5 := hEn.trans hEw5
                      have HIt5 : Hid (w5.heap[g]? = some (.stringIter old (i + 1))) := (Below.block hEw5 g (Array.getElem?_eq_some_iff.1 HIt.out).1).trans HIt.out
                      go_wp2_with ((at_builtin; refine wp_app _ w rfl (.tmp 105) (.tmp 115) 29 rfl 34 _ 4 40 Try.underlying29 markInfo rfl (by omega) _ _ _ rfl (ownsRow_ext hown5 (Ext.alloc _ _)) (hE5.trans (Ext.alloc _ _)) _ _ _ 1 1 [.int .i64 0, .int .i64 ((n : Int) + (i : Int)), .int .i64 3, .string (now.extract i (i + 1))] rfl rfl (rdA_new rfl (Ext.refl _)) (by simp [Value.oneCell']) (by omega) (by simp) ?_; intro v4 w4 hown4 hE4 hg4 hat4))
                      go_roundg (old.size - (i + 1))
                      case measure => have := HIK.out; omega
                      case rel => exact ⟨i + 1, by omega, iter_grown hown5 HIt5.out hg4, by rw [HS.out, List.length_append, List.flatMap_append]; exact hown4, hE4⟩
                · have hio2 : i = old.size := by omega
                  have hnx := next_stop hIt hlt Try.prog
                  subst hio2
                  clear hlt hio HIK
                  by_cases h3 : old.size < now.size
                  · have HS : Hid (btw a b = mbTo old now n old.size ++ [⟨0, (n : Int) + (old.size : Int), 2, now.extract old.size now.size⟩]) := by show _ = _; rw [HBT.out, mbEnd, if_pos h3]
                    go_wp2_with ((at_builtin; refine wp_app _ w rfl (.tmp 122) (.tmp 132) 29 rfl 34 _ 4 40 Try.underlying29 markInfo rfl (by omega) _ _ _ rfl (ownsRow_ext hown (Ext.alloc _ _)) (hE.trans (Ext.alloc _ _)) _ _ _ 1 1 [.int .i64 0, .int .i64 ((n : Int) + (old.size : Int)), .int .i64 2, .string (now.extract old.size now.size)] rfl rfl (rdA_new rfl (Ext.refl _)) (by simp [Value.oneCell']) (by omega) (by simp) ?_; intro v4 w4 hown4 hE4 hg4 hat4))
                    have hownF : w4.ownsRow w.heap.size 34 4 v4 (btw a b).length ((btw a b).flatMap Mrk.enc) := by rw [HS.out, List.length_append, List.flatMap_append]; exact hown4
                    have hEF := hE4
                    clear hown4 hg4 hat4 hE4 hnx
                    obtain ⟨A', c', rfl, hc', _⟩ := own_form hownF
                    have hRR := Rd.of_own hownF
                    go_ret
                    exact ⟨A', c', rfl, hc', hRR, hEF⟩
                  · have HS : Hid (btw a b = mbTo old now n old.size) := by show _ = _; rw [HBT.out, mbEnd, if_neg h3, List.append_nil]
                    have hownF := hown
                    rw [← HS.out] at hownF
                    have hEF := hE
                    obtain ⟨A', c', rfl, hc', _⟩ := own_form hownF
                    have hRR := Rd.of_own hownF
                    clear hown hE
                    go_wp2
                    go_ret
                    exact ⟨A', c', rfl, hc', hRR, hEF⟩
            · have hm1 : m < a.size - n := by
                simp only [sufC, Bool.and_eq_true, decide_eq_true_eq] at hc
                exact hc.1.1
              obtain ⟨q', rfl⟩ : ∃ q', q = q' + 1 := ⟨q - 1, by have := HMQ.out; omega⟩
              have HU2 : Hid (upTo (sufC a b n) q' (m + 1) = sufN a b) := by show _ = _; rw [← HU.out]; exact (upTo_yes hc).symm
              clear hc HU
              go_wp2
              go_roundw
              case rel => exact ⟨m + 1, q', by go_num, by have := HMQ.out; omega, HU2.out, hE5⟩
              case measure => simp [intOf]; omega
      · have hn1 : n < a.size := by
          simp only [preC, Bool.and_eq_true, decide_eq_true_eq] at hc
          exact hc.1.1
        obtain ⟨k', rfl⟩ : ∃ k', k = k' + 1 := ⟨k - 1, by have := HNK.out; omega⟩
        have HU2 : Hid (upTo (preC a b) k' (n + 1) = preN a b) := by show _ = _; rw [← HU.out]; exact (upTo_yes hc).symm
        clear hc HU
        go_wp2
        go_roundw
        case rel => exact ⟨n + 1, k', by go_num, by have := HNK.out; omega, HU2.out, hE5⟩
        case measure => simp [intOf]; omega
theorem spec_pfGood1 (a : ByteArray) (w : World) (ha : a.size ≤ 1048577) (g : Nat) (hg : w.heap[g]? = some (.cells #[.string a] 9 (0, 0))) :
    Calls Try.prog 36 #[.slice (some ⟨g, 0, none⟩) 1 1] w fun e w' => e = .returned (.bool (txt a 0 40)) ∧ w = w' := by
  have hB : Blk w g 9 #[.string a] := hg
  have hr : RdT w 0 w.heap.size (some ⟨g, 0, none⟩) [a] := hB.rd (Nat.zero_le _) (fun j u h => by simpa using h)
  have h := spec_pfGood (some ⟨g, 0, none⟩) 1 [a] 0 _ w (by simp) (by simpa using ha) hr
  rw [prf_one] at h
  exact h
theorem impl_MarksBetween (a b : ByteArray) (w : World) (ha : a.size ≤ 1048577) (hb : b.size ≤ 1048577) :
    Calls Try.prog 31 #[.string a, .string b] w (RetM2 w (msP a b)) := by
  cases t1 : txt a 0 40
  · rw [msP_bad (by simp [mbOk, t1])]
    go_enter Try.func31, Try.ntmps31
    go_wp2_with (first | (go_at_call 37; with_reducible refine (impl_isProofLine a _ ha).mono ?_; rw [t1]; rintro e w' ⟨rfl, rfl⟩))
    go_ret2
    exact retM2_nil (by repeat (first | exact Ext.refl _ | assumption | refine Ext.trans ?_ (Ext.alloc _ _) | refine Ext.trans ?_ (Ext.drew _) | refine Ext.trans ?_ (Ext.drewN _ _) | refine Ext.trans ?_ (by assumption)))
  cases t2 : txt b 0 40
  · rw [msP_bad (by simp [mbOk, t2])]
    go_enter Try.func31, Try.ntmps31
    go_wp2_with fail
    refine (impl_isProofLine a _ ha).mono ?_
    rw [t1]
    rintro e w' ⟨rfl, rfl⟩
    go_wp2_with fail
    refine (impl_isProofLine b _ hb).mono ?_
    rw [t2]
    rintro e w' ⟨rfl, rfl⟩
    go_wp2_with fail
    go_ret2
    exact retM2_nil (by repeat (first | exact Ext.refl _ | assumption | refine Ext.trans ?_ (Ext.alloc _ _) | refine Ext.trans ?_ (Ext.drew _) | refine Ext.trans ?_ (Ext.drewN _ _) | refine Ext.trans ?_ (by assumption)))
  obtain ⟨P, hP⟩ : ∃ P, P = msP a b := ⟨_, rfl⟩
  rw [← hP]
  have hmo : mbOk a b = true := by simp [mbOk, t1, t2]
  have HPB : Hid (aMk [a] (btw a b) = false → P = ([], false)) := fun h => by rw [hP]; exact msP_bad (by rw [h]; simp)
  have HPG : Hid (aMk [a] (btw a b) = true → P = (btw a b, true)) := fun h => by rw [hP]; exact msP_good hmo h
  have hsa := txt_size t1
  have hsb := txt_size t2
  clear hP hmo
  go_enter Try.func31, Try.ntmps31
  go_wp2_with fail
  refine (impl_isProofLine a _ ha).mono ?_
  rw [t1]
  rintro e w' ⟨rfl, rfl⟩
  go_wp2_with fail
  refine (impl_isProofLine b _ hb).mono ?_
  rw [t2]
  rintro e w' ⟨rfl, rfl⟩
  go_wp2_with fail
  refine (impl_between a b _ t1 t2).mono ?_
  rintro e w5 ⟨A', c', rfl, hc', hRR0, hEF⟩
  have hbl := btw_len a b
  have hbs : ∀ x ∈ btw a b, x.text.size ≤ 1048577 := fun x hx => by have := btw_size a b x hx; omega
  obtain ⟨ms, hms⟩ : ∃ ms, ms = btw a b := ⟨_, rfl⟩
  rw [← hms] at hRR0 hc' hbl hbs HPB HPG ⊢
  have HBS := Lib.hid hbs
  have hRR := hRR0
  clear hms hbs hRR0
  have hRL : ∀ W, RdT (World.alloc W (.cells #[.string a] 9)) W.heap.size (World.alloc W (.cells #[.string a] 9)).heap.size (some ⟨W.heap.size, 0, none⟩) [a] := fun W => (Blk.new W 9 #[.string a]).rd (Nat.le_refl _) (fun j u h => by simpa using h)
  have HRL := Lib.hid hRL
  clear hRL
  go_wp2_with fail
  cases h8 : aMk [a] ms
  · have HV : Hid (P = ([], false)) := HPB.out h8
    refine (impl_AreMarks (some ⟨_, 0, none⟩) A' 1 c' [a] ms _ _ _ _ _ (by simp) (by simp; omega) (by omega) HBS.out (HRL.out _) (hRR.ext (Ext.alloc _ _))).mono ?_
    rw [h8]
    rintro e w9 ⟨rfl, hE9⟩
    go_wp2_with fail
    go_ret2
    rw [HV.out]
    exact retM2_nil (((hEF.trans (Ext.alloc _ _)).trans hE9).trans (Ext.alloc _ _))
  · have HV : Hid (P = (ms, true)) := HPG.out h8
    refine (impl_AreMarks (some ⟨_, 0, none⟩) A' 1 c' [a] ms _ _ _ _ _ (by simp) (by simp; omega) (by omega) HBS.out (HRL.out _) (hRR.ext (Ext.alloc _ _))).mono ?_
    rw [h8]
    rintro e w9 ⟨rfl, hE9⟩
    go_wp2_with fail
    go_ret2
    rw [HV.out]
    exact ⟨A', c', rfl, hc', (Rd.ext hRR ((Ext.alloc _ _).trans hE9)).wide (Nat.le_refl _) ((Ext.alloc _ _).trans hE9).size (Nat.le_refl _), (hEF.trans (Ext.alloc _ _)).trans hE9⟩
set_option maxRecDepth 20000 in
set_option maxHeartbeats 8000000 in
theorem spec_MarksBetween (a b : ByteArray) (w : World) (ha : a.size ≤ 1048577) (hb : b.size ≤ 1048577) :
    Calls Try.prog 30 #[.string a, .string b] w (RetM2 w (msP a b)) := by
  cases t1 : txt a 0 40
  · rw [msP_bad (by simp [mbOk, t1])]
    go_enter Try.func30, Try.ntmps30
    go_wp2_with fail
    refine (spec_pfGood1 a _ ha _ (heap_alloc_new w _)).mono ?_
    rw [t1]
    rintro e w' ⟨rfl, rfl⟩
    go_wp2_with fail
    go_ret2
    exact retM2_nil (by repeat (first | exact Ext.refl _ | assumption | refine Ext.trans ?_ (Ext.alloc _ _) | refine Ext.trans ?_ (Ext.drew _) | refine Ext.trans ?_ (Ext.drewN _ _) | refine Ext.trans ?_ (by assumption)))
  cases t2 : txt b 0 40
  · rw [msP_bad (by simp [mbOk, t2])]
    go_enter Try.func30, Try.ntmps30
    go_wp2_with fail
    refine (spec_pfGood1 a _ ha _ (heap_alloc_new w _)).mono ?_
    rw [t1]
    rintro e w' ⟨rfl, rfl⟩
    go_wp2_with fail
    refine (spec_pfGood1 b _ hb _ (by have h := heap_alloc_new (w.alloc (.cells #[.string a] 9)) (.cells #[.string b] 9 (0, 0)); rw [World.size_alloc] at h; exact h)).mono ?_
    rw [t2]
    rintro e w' ⟨rfl, rfl⟩
    go_wp2_with fail
    go_ret2
    exact retM2_nil (by repeat (first | exact Ext.refl _ | assumption | refine Ext.trans ?_ (Ext.alloc _ _) | refine Ext.trans ?_ (Ext.drew _) | refine Ext.trans ?_ (Ext.drewN _ _) | refine Ext.trans ?_ (by assumption)))
  obtain ⟨P, hP⟩ : ∃ P, P = msP a b := ⟨_, rfl⟩
  rw [← hP]
  have hmo : mbOk a b = true := by simp [mbOk, t1, t2]
  have HPB : Hid (aMk [a] (btw a b) = false → P = ([], false)) := fun h => by rw [hP]; exact msP_bad (by rw [h]; simp)
  have HPG : Hid (aMk [a] (btw a b) = true → P = (btw a b, true)) := fun h => by rw [hP]; exact msP_good hmo h
  have hsa := txt_size t1
  have hsb := txt_size t2
  clear hP hmo
  go_enter Try.func30, Try.ntmps30
  go_wp2_with fail
  refine (spec_pfGood1 a _ ha _ (heap_alloc_new w _)).mono ?_
  rw [t1]
  rintro e w' ⟨rfl, rfl⟩
  go_wp2_with fail
  refine (spec_pfGood1 b _ hb _ (by have h := heap_alloc_new (w.alloc (.cells #[.string a] 9)) (.cells #[.string b] 9 (0, 0)); rw [World.size_alloc] at h; exact h)).mono ?_
  rw [t2]
  rintro e w' ⟨rfl, rfl⟩
  go_wp2_with fail
  have HA := Lib.hid t1
  clear t1 t2 ha hb
  go_loopw [6] (fun j wr => ∃ n k : Nat, j = .int .i64 n ∧ n + k = a.size ∧ upTo (preC a b) k n = preN a b ∧ Ext w wr) (fun j _ => a.size - (intOf j).toNat)
  case atStart => exact ⟨0, a.size, rfl, by omega, rfl, (by repeat (first | exact Ext.refl _ | assumption | refine Ext.trans ?_ (Ext.alloc _ _) | refine Ext.trans ?_ (Ext.drew _) | refine Ext.trans ?_ (Ext.drewN _ _) | refine Ext.trans ?_ (by assumption)))⟩
  case round =>
    obtain ⟨n, k, rfl, hnk, hu, hE⟩ := hrel
    have HU := Lib.hid hu; clear hu
    have HNK := Lib.hid hnk
    have hna : n ≤ a.size := by omega
    clear hnk
    go_upto_region 4 with fail
    go_cut [40] (fun s wx => s = .bool (preC a b n) ∧ Ext wr wx)
    case first =>
      have i0 : (0 : Int) ≤ n := by omega
      by_cases h1 : n < a.size
      · have i1 : (n : Int) < a.size := by omega
        by_cases h2 : n < b.size
        · have i2 : (n : Int) < b.size := by omega
          have hv : preC a b n = (((a[n]'h1).toNat : Int) == ((b[n]'h2).toNat : Int)) := by simp [preC, h1, h2, byN_at]
          have HV := Lib.hid hv; clear hv
          refine wp_region_xw (w0 := wr) (by kernel_rfl) (by kernel_rfl) (by repeat (first | exact Ext.refl _ | assumption | refine Ext.trans ?_ (Ext.alloc _ _) | refine Ext.trans ?_ (Ext.drew _) | refine Ext.trans ?_ (Ext.drewN _ _) | refine Ext.trans ?_ (by assumption))) ?_; (repeat (go_big_quiet_step ((fail)))); refine wpQuiet_nil ?_; intro w1 hw'; obtain ⟨⟨_, hEw1⟩, hw''⟩ := hw'; subst hw''
          go_wp2_with fail
          go_meet
          exact ⟨val_bool HV.out.symm, hEw1⟩
        · have HV : Hid (preC a b n = false) := by show _ = _; simp [preC, h2]
          have g2 : decide ((n : Int) < b.size) = false := by simp; omega
          have g3 : decide (n < b.size) = false := by simp; omega
          refine wp_region_xw (w0 := wr) (by kernel_rfl) (by kernel_rfl) (by repeat (first | exact Ext.refl _ | assumption | refine Ext.trans ?_ (Ext.alloc _ _) | refine Ext.trans ?_ (Ext.drew _) | refine Ext.trans ?_ (Ext.drewN _ _) | refine Ext.trans ?_ (by assumption))) ?_; (repeat (go_big_quiet_step ((fail)))); refine wpQuiet_nil ?_; intro w1 hw'; obtain ⟨⟨_, hEw1⟩, hw''⟩ := hw'; subst hw''
          go_wp2_with fail
          go_meet
          exact ⟨val_bool HV.out.symm, hEw1⟩
      · have HV : Hid (preC a b n = false) := by show _ = _; simp [preC, h1]
        have g2 : decide ((n : Int) < a.size) = false := by simp; omega
        have g3 : decide (n < a.size) = false := by simp; omega
        refine wp_region_xw (w0 := wr) (by kernel_rfl) (by kernel_rfl) (by repeat (first | exact Ext.refl _ | assumption | refine Ext.trans ?_ (Ext.alloc _ _) | refine Ext.trans ?_ (Ext.drew _) | refine Ext.trans ?_ (Ext.drewN _ _) | refine Ext.trans ?_ (by assumption))) ?_; (repeat (go_big_quiet_step ((fail)))); refine wpQuiet_nil ?_; intro w1 hw'; obtain ⟨⟨_, hEw1⟩, hw''⟩ := hw'; subst hw''
        go_wp2_with fail
        go_meet
        exact ⟨val_bool HV.out.symm, hEw1⟩
    case rest =>
      obtain ⟨rfl, hE4⟩ := hcut
      have hE5 := hE.trans hE4
      clear hE hE4
      cases hc : preC a b n
      · have hF : preN a b = n := by rw [← HU.out]; exact upTo_no hc k
        have HF := Lib.hid hF
        obtain ⟨f1, f2⟩ := preN_le a b
        rw [hF] at f1 f2
        have HSN : Hid (sufN a b = upTo (sufC a b n) a.size 0) := by show _ = _; rw [sufN, hF]
        obtain ⟨s1, s2⟩ := sufN_le a b
        rw [hF] at s1 s2
        clear hc hF hna HU HNK
        go_wp2_with fail
        go_loopw [7] (fun j wr => ∃ m q : Nat, j = .int .i64 m ∧ m + q = a.size ∧ upTo (sufC a b n) q m = sufN a b ∧ Ext w wr) (fun j _ => a.size - (intOf j).toNat)
        case atStart => exact ⟨0, a.size, rfl, by omega, HSN.out.symm, hE5⟩
        case round =>
          clear hE5
          obtain ⟨m, q, rfl, hmq, hu, hE⟩ := hrel
          have HU := Lib.hid hu; clear hu
          have HMQ := Lib.hid hmq
          have hma : m ≤ a.size := by omega
          clear hmq
          go_upto_region 7 with fail
          go_cut [73] (fun s wx => s = .bool (sufC a b n m) ∧ Ext wr wx)
          case first =>
            have i0 : (0 : Int) ≤ m := by omega
            have w1_ : IntKind.i64.wrap ((a.size : Int) - (n : Int)) = (a.size : Int) - (n : Int) := IntWalk.i64_in _ (by omega)
            by_cases h1 : m < a.size - n
            · have i1 : (m : Int) < (a.size : Int) - (n : Int) := by omega
              have w2_ : IntKind.i64.wrap ((b.size : Int) - (n : Int)) = (b.size : Int) - (n : Int) := IntWalk.i64_in _ (by omega)
              by_cases h2 : m < b.size - n
              · have i2 : (m : Int) < (b.size : Int) - (n : Int) := by omega
                have hv : sufC a b n m = (((a[a.size - 1 - m]'(by omega)).toNat : Int) == ((b[b.size - 1 - m]'(by omega)).toNat : Int)) := by
                  have e1 := byN_at (s := a) (n := a.size - 1 - m) (by omega)
                  have e2 := byN_at (s := b) (n := b.size - 1 - m) (by omega)
                  simp [sufC, h1, h2, e1, e2]
                have HV := Lib.hid hv; clear hv
                have w3_ : IntKind.i64.wrap ((a.size : Int) - 1) = (a.size : Int) - 1 := IntWalk.i64_in _ (by omega)
                have w4_ : IntKind.i64.wrap ((a.size : Int) - 1 - (m : Int)) = (a.size : Int) - 1 - (m : Int) := IntWalk.i64_in _ (by omega)
                have w5_ : IntKind.i64.wrap ((b.size : Int) - 1) = (b.size : Int) - 1 := IntWalk.i64_in _ (by omega)
                have w6_ : IntKind.i64.wrap ((b.size : Int) - 1 - (m : Int)) = (b.size : Int) - 1 - (m : Int) := IntWalk.i64_in _ (by omega)
                have w7_ : ((a.size : Int) - 1 - (m : Int)).toNat = a.size - 1 - m := by omega
                have w8_ : ((b.size : Int) - 1 - (m : Int)).toNat = b.size - 1 - m := by omega
                have j1 : (0 : Int) ≤ (a.size : Int) - 1 - (m : Int) := by omega
                have j2 : (a.size : Int) - 1 - (m : Int) < a.size := by omega
                have j3 : (0 : Int) ≤ (b.size : Int) - 1 - (m : Int) := by omega
                have j4 : (b.size : Int) - 1 - (m : Int) < b.size := by omega
                have j5 : (m : Int) ≤ (a.size : Int) - 1 := by omega
                have j6 : (m : Int) ≤ (b.size : Int) - 1 := by omega
                refine wp_region_xw (w0 := wr) (by kernel_rfl) (by kernel_rfl) (by repeat (first | exact Ext.refl _ | assumption | refine Ext.trans ?_ (Ext.alloc _ _) | refine Ext.trans ?_ (Ext.drew _) | refine Ext.trans ?_ (Ext.drewN _ _) | refine Ext.trans ?_ (by assumption))) ?_; (repeat (go_big_quiet_step ((fail)))); refine wpQuiet_nil ?_; intro w1 hw'; obtain ⟨⟨_, hEw1⟩, hw''⟩ := hw'; subst hw''
                go_wp2_with fail
                go_meet
                exact ⟨val_bool HV.out.symm, hEw1⟩
              · have HV : Hid (sufC a b n m = false) := by show _ = _; simp [sufC, h2]
                have g2 : decide ((m : Int) < (b.size : Int) - (n : Int)) = false := by simp; omega
                refine wp_region_xw (w0 := wr) (by kernel_rfl) (by kernel_rfl) (by repeat (first | exact Ext.refl _ | assumption | refine Ext.trans ?_ (Ext.alloc _ _) | refine Ext.trans ?_ (Ext.drew _) | refine Ext.trans ?_ (Ext.drewN _ _) | refine Ext.trans ?_ (by assumption))) ?_; (repeat (go_big_quiet_step ((fail)))); refine wpQuiet_nil ?_; intro w1 hw'; obtain ⟨⟨_, hEw1⟩, hw''⟩ := hw'; subst hw''
                go_wp2_with fail
                go_meet
                exact ⟨val_bool HV.out.symm, hEw1⟩
            · have HV : Hid (sufC a b n m = false) := by show _ = _; simp [sufC, h1]
              have g2 : decide ((m : Int) < (a.size : Int) - (n : Int)) = false := by simp; omega
              refine wp_region_xw (w0 := wr) (by kernel_rfl) (by kernel_rfl) (by repeat (first | exact Ext.refl _ | assumption | refine Ext.trans ?_ (Ext.alloc _ _) | refine Ext.trans ?_ (Ext.drew _) | refine Ext.trans ?_ (Ext.drewN _ _) | refine Ext.trans ?_ (by assumption))) ?_; (repeat (go_big_quiet_step ((fail)))); refine wpQuiet_nil ?_; intro w1 hw'; obtain ⟨⟨_, hEw1⟩, hw''⟩ := hw'; subst hw''
              go_wp2_with fail
              go_meet
              exact ⟨val_bool HV.out.symm, hEw1⟩
          case rest =>
            obtain ⟨rfl, hE4⟩ := hcut
            have hE5 := hE.trans hE4
            clear hE hE4
            cases hc : sufC a b n m
            · have hL : sufN a b = m := by rw [← HU.out]; exact upTo_no hc q
              rw [hL] at s1 s2
              have HL := Lib.hid hL
              clear hc hL hma HU HMQ HSN
              go_wp2_with fail
              obtain ⟨w0, rfl⟩ : ∃ z, z = wc := ⟨_, rfl⟩
              have own0 : w0.ownsRow w.heap.size 34 4 (.slice none 0 0) 0 [] := own_nil _ _ _ _
              have hE0 := hE5
              have w1_ : IntKind.i64.wrap ((a.size : Int) - (m : Int)) = (a.size : Int) - (m : Int) := IntWalk.i64_in _ (by omega)
              have w2_ : IntKind.i64.wrap ((b.size : Int) - (m : Int)) = (b.size : Int) - (m : Int) := IntWalk.i64_in _ (by omega)
              have w3_ : ((a.size : Int) - (m : Int)).toNat = a.size - m := by omega
              have w4_ : ((b.size : Int) - (m : Int)).toNat = b.size - m := by omega
              have j0 : (0 : Int) ≤ n := by omega
              have j1 : (n : Int) ≤ (a.size : Int) - (m : Int) := by omega
              have j2 : (n : Int) ≤ (b.size : Int) - (m : Int) := by omega
              have j3 : (0 : Int) ≤ (a.size : Int) - (m : Int) := by omega
              have j4 : (0 : Int) ≤ (b.size : Int) - (m : Int) := by omega
              have j5 : (m : Int) ≤ a.size := by omega
              have j6 : (m : Int) ≤ b.size := by omega
              have j7 : (0 : Int) ≤ m := by omega
              have j8 : (a.size : Int) - (m : Int) ≤ a.size := by omega
              have j9 : (b.size : Int) - (m : Int) ≤ b.size := by omega
              refine wp_region_xw (w0 := w0) (by kernel_rfl) (by kernel_rfl) (by repeat (first | exact Ext.refl _ | assumption | refine Ext.trans ?_ (Ext.alloc _ _) | refine Ext.trans ?_ (Ext.drew _) | refine Ext.trans ?_ (Ext.drewN _ _) | refine Ext.trans ?_ (by assumption))) ?_; (repeat (go_big_quiet_step ((fail)))); refine wpQuiet_nil ?_; intro w1 hw'; obtain ⟨⟨_, hEw1⟩, hw''⟩ := hw'; subst hw''
              have own1 := ownsRow_ext own0 hEw1
              have hE1 := hE0.trans hEw1
              obtain ⟨old, hold⟩ : ∃ o, o = a.extract n (a.size - m) := ⟨_, rfl⟩
              obtain ⟨now, hnow⟩ : ∃ o, o = b.extract n (b.size - m) := ⟨_, rfl⟩
              rw [← hold, ← hnow]
              have HOLD : Hid (old = oldB a b) := by show _ = _; rw [hold, oldB, HF.out, HL.out]
              have HNOW : Hid (now = nowB a b) := by show _ = _; rw [hnow, nowB, HF.out, HL.out]
              have HBT : Hid (btw a b = mbTo old now n old.size ++ mbEnd old now n) := by show _ = _; rw [btw, mbL, ← HOLD.out, ← HNOW.out, HF.out]
              have hos : old.size ≤ 40 := by rw [HOLD.out, oldB_size]; omega
              have hns : now.size ≤ 40 := by rw [HNOW.out, nowB_size]; omega
              have HBY : Hid (∀ (i : Nat) (h : i < old.size), (old[i]'h).toNat < 128) := by
                show ∀ (i : Nat) (h : i < old.size), _
                rw [HOLD.out]
                exact fun i h => oldB_byte HA.out h
              clear w1_ w2_ w3_ w4_ j1 j2 j3 j4 j5 j6 j7 j8 j9 own0 hE0 hEw1 hE5 hold hnow HL HF
              go_wp2_with fail
              obtain ⟨g, hg⟩ : ∃ g, g = w1.heap.size := ⟨_, rfl⟩
              obtain ⟨w2, hw2⟩ : ∃ w2, w2 = w1.iter old 0 := ⟨_, rfl⟩
              have hIt : w2.heap[g]? = some (.stringIter old 0) := by rw [hw2, hg]; exact iter_new _ _
              have own2 := ownsRow_ext own1 (show Ext w1 w2 from by rw [hw2]; exact Ext.alloc _ _)
              have hE2 : Ext w w2 := by rw [hw2]; exact hE1.iterNew old
              have hgw : w.heap.size ≤ g := by rw [hg]; exact hE1.size
              rw [← hw2, ← hg]
              clear hw2 hg own1 hE1
              go_loopg [10] (old.size) (fun k v wr => ∃ i : Nat, i + k = old.size ∧ wr.heap[g]? = some (.stringIter old i) ∧ wr.ownsRow w.heap.size 34 4 v (mbTo old now n i).length ((mbTo old now n i).flatMap Mrk.enc) ∧ Ext w wr)
              case atStart => exact ⟨0, by omega, hIt, own2, hE2⟩
              case round =>
                clear hIt own2 hE2
                obtain ⟨i, hik, hIt, hown, hE⟩ := hrel
                have HIK := Lib.hid hik
                have hio : i ≤ old.size := by omega
                have hll := mbTo_len old now n i
                clear hik
                by_cases hlt : i < old.size
                · obtain ⟨wn, hnx0, hIn, hsn, hbn, ho1, ho2, ho3⟩ := next_at hIt hlt (HBY.out i hlt)
                  have hnx := hnx0 Try.prog
                  have hown2 := own_iter hown hIt hbn
                  have hEn : Ext w wn := Ext.iter hE hgw hsn hbn ho1 ho2 ho3
                  have HIt := Lib.hid hIn
                  have i0 : (0 : Int) ≤ i := by omega
                  clear hnx0 hbn ho1 ho2 ho3 hsn hown hE hIt hIn
                  by_cases h1 : now.size ≤ i
                  · have HS : Hid (mbTo old now n (i + 1) = mbTo old now n i ++ [⟨0, (n : Int) + (i : Int), 1, ByteArray.empty⟩]) := by show _ = _; rw [mbTo_succ, mbAt, if_pos h1]
                    go_wp2_with ((at_builtin; refine wp_app _ w rfl (.tmp 99) (.tmp 104) 29 rfl 34 _ 4 40 Try.underlying29 markInfo rfl (by omega) _ _ _ rfl (ownsRow_ext hown2 (Ext.alloc _ _)) (hEn.trans (Ext.alloc _ _)) _ _ _ 1 1 [.int .i64 0, .int .i64 ((n : Int) + (i : Int)), .int .i64 1, .string ByteArray.empty] rfl rfl (rdA_new rfl (Ext.refl _)) (by simp [Value.oneCell']) (by omega) (by simp) ?_; intro v4 w4 hown4 hE4 hg4 hat4))
                    go_roundg (old.size - (i + 1))
                    case measure => have := HIK.out; omega
                    case rel => exact ⟨i + 1, by omega, iter_grown hown2 HIt.out hg4, by rw [HS.out, List.length_append, List.flatMap_append]; exact hown4, hE4⟩
                  · have h1' : i < now.size := by omega
                    have i1 : (i : Int) < now.size := by omega
                    have i2 : (i : Int) < old.size := by omega
                    have e1 := byN_at (s := old) (n := i) hlt
                    have e2 := byN_at (s := now) (n := i) h1'
                    by_cases h2 : byN old i = byN now i
                    · have HS : Hid (mbTo old now n (i + 1) = mbTo old now n i) := by show _ = _; rw [mbTo_succ, mbAt, if_neg h1, if_pos h2, List.append_nil]
                      rw [e1, e2] at h2
                      have t1 : (((old[i]'hlt).toNat : Int) != ((now[i]'h1').toNat : Int)) = false := by rw [h2]; simp
                      clear e1 e2 h2 h1
                      go_wp2_with fail
                      refine wp_region_xw (w0 := wn) (by kernel_rfl) (by kernel_rfl) (by repeat (first | exact Ext.refl _ | assumption | refine Ext.trans ?_ (Ext.alloc _ _) | refine Ext.trans ?_ (Ext.drew _) | refine Ext.trans ?_ (Ext.drewN _ _) | refine Ext.trans ?_ (by assumption))) ?_; (repeat (go_big_quiet_step ((fail)))); refine wpQuiet_nil ?_; intro w5 hw'; obtain ⟨⟨_, hEw5⟩, hw''⟩ := hw'; subst hw''
                      clear t1 hnx
                      go_wp2
                      go_roundg (old.size - (i + 1))
                      case measure => have := HIK.out; omega
                      case rel => exact ⟨i + 1, by omega, (Below.block hEw5 g (Array.getElem?_eq_some_iff.1 HIt.out).1).trans HIt.out, by rw [HS.out]; exact ownsRow_ext hown2 hEw5, hEn.trans hEw5⟩
                    · have HS : Hid (mbTo old now n (i + 1) = mbTo old now n i ++ [⟨0, (n : Int) + (i : Int), 3, now.extract i (i + 1)⟩]) := by show _ = _; rw [mbTo_succ, mbAt, if_neg h1, if_neg h2]
                      rw [e1, e2] at h2
                      have t1 : (((old[i]'hlt).toNat : Int) != ((now[i]'h1').toNat : Int)) = true := by simp only [bne_iff_ne]; exact h2
                      clear e1 e2 h2 h1
                      go_wp2_with fail
                      refine wp_region_xw (w0 := wn) (by kernel_rfl) (by kernel_rfl) (by repeat (first | exact Ext.refl _ | assumption | refine Ext.trans ?_ (Ext.alloc _ _) | refine Ext.trans ?_ (Ext.drew _) | refine Ext.trans ?_ (Ext.drewN _ _) | refine Ext.trans ?_ (by assumption))) ?_; (repeat (go_big_quiet_step ((fail)))); refine wpQuiet_nil ?_; intro w5 hw'; obtain ⟨⟨_, hEw5⟩, hw''⟩ := hw'; subst hw''
                      clear t1 hnx
                      have hown5 := ownsRow_ext hown2 hEw5
                      have hE5 := hEn.trans hEw5
                      have HIt5 : Hid (w5.heap[g]? = some (.stringIter old (i + 1))) := (Below.block hEw5 g (Array.getElem?_eq_some_iff.1 HIt.out).1).trans HIt.out
                      go_wp2_with ((at_builtin; refine wp_app _ w rfl (.tmp 113) (.tmp 123) 29 rfl 34 _ 4 40 Try.underlying29 markInfo rfl (by omega) _ _ _ rfl (ownsRow_ext hown5 (Ext.alloc _ _)) (hE5.trans (Ext.alloc _ _)) _ _ _ 1 1 [.int .i64 0, .int .i64 ((n : Int) + (i : Int)), .int .i64 3, .string (now.extract i (i + 1))] rfl rfl (rdA_new rfl (Ext.refl _)) (by simp [Value.oneCell']) (by omega) (by simp) ?_; intro v4 w4 hown4 hE4 hg4 hat4))
                      go_roundg (old.size - (i + 1))
                      case measure => have := HIK.out; omega
                      case rel => exact ⟨i + 1, by omega, iter_grown hown5 HIt5.out hg4, by rw [HS.out, List.length_append, List.flatMap_append]; exact hown4, hE4⟩
                · have hio2 : i = old.size := by omega
                  have hnx := next_stop hIt hlt Try.prog
                  subst hio2
                  clear hlt hio HIK
                  by_cases h3 : old.size < now.size
                  · have HS : Hid (btw a b = mbTo old now n old.size ++ [⟨0, (n : Int) + (old.size : Int), 2, now.extract old.size now.size⟩]) := by show _ = _; rw [HBT.out, mbEnd, if_pos h3]
                    go_wp2_with ((at_builtin; refine wp_app _ w rfl (.tmp 130) (.tmp 140) 29 rfl 34 _ 4 40 Try.underlying29 markInfo rfl (by omega) _ _ _ rfl (ownsRow_ext hown (Ext.alloc _ _)) (hE.trans (Ext.alloc _ _)) _ _ _ 1 1 [.int .i64 0, .int .i64 ((n : Int) + (old.size : Int)), .int .i64 2, .string (now.extract old.size now.size)] rfl rfl (rdA_new rfl (Ext.refl _)) (by simp [Value.oneCell']) (by omega) (by simp) ?_; intro v4 w4 hown4 hE4 hg4 hat4))
                    have hownF : w4.ownsRow w.heap.size 34 4 v4 (btw a b).length ((btw a b).flatMap Mrk.enc) := by rw [HS.out, List.length_append, List.flatMap_append]; exact hown4
                    have hEF := hE4
                    clear hown4 hg4 hat4 hE4 hnx
                    obtain ⟨A', c', rfl, hc', _⟩ := own_form hownF
                    have hRR : RdM _ w.heap.size _ A' (btw a b) := Rd.of_own hownF
                    have hbl := btw_len a b
                    have hbs : ∀ x ∈ btw a b, x.text.size ≤ 1048577 := fun x hx => by have := btw_size a b x hx; omega
                    obtain ⟨ms, hms⟩ : ∃ ms, ms = btw a b := ⟨_, rfl⟩
                    rw [← hms] at hRR hc' hbl hbs HPB HPG ⊢
                    have HBS := Lib.hid hbs
                    clear hownF hms hbs
                    have hRL : ∀ W, RdT (World.alloc W (.cells #[.string a] 9)) W.heap.size (World.alloc W (.cells #[.string a] 9)).heap.size (some ⟨W.heap.size, 0, none⟩) [a] := fun W => (Blk.new W 9 #[.string a]).rd (Nat.le_refl _) (fun j u h => by simpa using h)
                    have HRL := Lib.hid hRL
                    clear hRL
                    go_wp2_with fail
                    cases h8 : aMk [a] ms
                    · have HV : Hid (P = ([], false)) := HPB.out h8
                      refine (spec_pfMarks (some ⟨_, 0, none⟩) A' 1 c' [a] ms _ _ _ _ _ (by simp) (by simp; omega) (by omega) HBS.out (HRL.out _) (hRR.ext (Ext.alloc _ _))).mono ?_
                      rw [h8]
                      rintro e w9 ⟨rfl, hE9⟩
                      go_wp2_with fail
                      go_ret2
                      rw [HV.out]
                      exact retM2_nil ((hEF.trans (Ext.alloc _ _)).trans hE9)
                    · have HV : Hid (P = (ms, true)) := HPG.out h8
                      refine (spec_pfMarks (some ⟨_, 0, none⟩) A' 1 c' [a] ms _ _ _ _ _ (by simp) (by simp; omega) (by omega) HBS.out (HRL.out _) (hRR.ext (Ext.alloc _ _))).mono ?_
                      rw [h8]
                      rintro e w9 ⟨rfl, hE9⟩
                      go_wp2_with fail
                      go_ret2
                      rw [HV.out]
                      exact ⟨A', c', rfl, hc', (Rd.ext hRR ((Ext.alloc _ _).trans hE9)).wide (Nat.le_refl _) ((Ext.alloc _ _).trans hE9).size (Nat.le_refl _), (hEF.trans (Ext.alloc _ _)).trans hE9⟩
                  · have HS : Hid (btw a b = mbTo old now n old.size) := by show _ = _; rw [HBT.out, mbEnd, if_neg h3, List.append_nil]
                    have hownF := hown
                    rw [← HS.out] at hownF
                    have hEF := hE
                    clear hown hE
                    obtain ⟨A', c', rfl, hc', _⟩ := own_form hownF
                    have hRR : RdM _ w.heap.size _ A' (btw a b) := Rd.of_own hownF
                    have hbl := btw_len a b
                    have hbs : ∀ x ∈ btw a b, x.text.size ≤ 1048577 := fun x hx => by have := btw_size a b x hx; omega
                    obtain ⟨ms, hms⟩ : ∃ ms, ms = btw a b := ⟨_, rfl⟩
                    rw [← hms] at hRR hc' hbl hbs HPB HPG ⊢
                    have HBS := Lib.hid hbs
                    clear hownF hms hbs
                    have hRL : ∀ W, RdT (World.alloc W (.cells #[.string a] 9)) W.heap.size (World.alloc W (.cells #[.string a] 9)).heap.size (some ⟨W.heap.size, 0, none⟩) [a] := fun W => (Blk.new W 9 #[.string a]).rd (Nat.le_refl _) (fun j u h => by simpa using h)
                    have HRL := Lib.hid hRL
                    clear hRL
                    go_wp2_with fail
                    cases h8 : aMk [a] ms
                    · have HV : Hid (P = ([], false)) := HPB.out h8
                      refine (spec_pfMarks (some ⟨_, 0, none⟩) A' 1 c' [a] ms _ _ _ _ _ (by simp) (by simp; omega) (by omega) HBS.out (HRL.out _) (hRR.ext (Ext.alloc _ _))).mono ?_
                      rw [h8]
                      rintro e w9 ⟨rfl, hE9⟩
                      go_wp2_with fail
                      go_ret2
                      rw [HV.out]
                      exact retM2_nil ((hEF.trans (Ext.alloc _ _)).trans hE9)
                    · have HV : Hid (P = (ms, true)) := HPG.out h8
                      refine (spec_pfMarks (some ⟨_, 0, none⟩) A' 1 c' [a] ms _ _ _ _ _ (by simp) (by simp; omega) (by omega) HBS.out (HRL.out _) (hRR.ext (Ext.alloc _ _))).mono ?_
                      rw [h8]
                      rintro e w9 ⟨rfl, hE9⟩
                      go_wp2_with fail
                      go_ret2
                      rw [HV.out]
                      exact ⟨A', c', rfl, hc', (Rd.ext hRR ((Ext.alloc _ _).trans hE9)).wide (Nat.le_refl _) ((Ext.alloc _ _).trans hE9).size (Nat.le_refl _), (hEF.trans (Ext.alloc _ _)).trans hE9⟩
            · have hm1 : m < a.size - n := by
                simp only [sufC, Bool.and_eq_true, decide_eq_true_eq] at hc
                exact hc.1.1
              obtain ⟨q', rfl⟩ : ∃ q', q = q' + 1 := ⟨q - 1, by have := HMQ.out; omega⟩
              have HU2 : Hid (upTo (sufC a b n) q' (m + 1) = sufN a b) := by show _ = _; rw [← HU.out]; exact (upTo_yes hc).symm
              clear hc HU
              go_wp2
              go_roundw
              case rel => exact ⟨m + 1, q', by go_num, by have := HMQ.out; omega, HU2.out, hE5⟩
              case measure => simp [intOf]; omega
      · have hn1 : n < a.size := by
          simp only [preC, Bool.and_eq_true, decide_eq_true_eq] at hc
          exact hc.1.1
        obtain ⟨k', rfl⟩ : ∃ k', k = k' + 1 := ⟨k - 1, by have := HNK.out; omega⟩
        have HU2 : Hid (upTo (preC a b) k' (n + 1) = preN a b) := by show _ = _; rw [← HU.out]; exact (upTo_yes hc).symm
        clear hc HU
        go_wp2
        go_roundw
        case rel => exact ⟨n + 1, k', by go_num, by have := HNK.out; omega, HU2.out, hE5⟩
        case measure => simp [intOf]; omega
end Go.Proofs.Ytclcclhdmciggaa
