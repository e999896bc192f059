/- StuckAt: the reference's walk. -/
import Derived.Test.YtmfoankgfiofdaaPbS
import Derived.Test.YtmfoankgfiofdaaPbH
namespace Go.Proofs.Ytmfoankgfiofdaa
open Go.RowKit
set_option linter.unusedVariables false
/-- What is reached so far, j behind it if it is; and how far. -/
def StR (wr : World) (lo : Nat) (R : List Int) (M : Nat) (j : Nat) (b : Bool) (v s : Value) : Prop := ∃ A c, v = .slice A (if b then R.length + 1 else R.length) c ∧ s = .int .i64 (if b then (j : Int) else (M : Int)) ∧ (if b then R.length + 1 else R.length) ≤ c ∧ RdI wr lo wr.heap.size A (if b then R ++ [(j : Int)] else R)
theorem StR.ext {w w' : World} {lo : Nat} {R : List Int} {M j : Nat} {b : Bool} {v s : Value} (h : StR w lo R M j b v s) (hE : Ext w w') : StR w' lo R M j b v s := by
  obtain ⟨A, c, h1, h2, h3, h4⟩ := h
  exact ⟨A, c, h1, h2, h3, RdI.ext6 h4 hE⟩
theorem StR.no {w : World} {lo : Nat} {R : List Int} {M j : Nat} {v s : Value} (h : StR w lo R M j false v s) : ∃ A c, v = .slice A R.length c ∧ s = .int .i64 (M : Int) ∧ R.length ≤ c ∧ RdI w lo w.heap.size A R := h
theorem StR.yes {w : World} {lo : Nat} {R : List Int} {M j : Nat} {v s : Value} (h : StR w lo R M j true v s) : ∃ A c, v = .slice A (R.length + 1) c ∧ s = .int .i64 (j : Int) ∧ R.length + 1 ≤ c ∧ RdI w lo w.heap.size A (R ++ [(j : Int)]) := h
set_option maxHeartbeats 4000000 in
theorem spec_StuckAt (A : Option Addr) (c : Nat) (l : List Int) (r : Rul) (m : Int) (lo hi : Nat) (w : World) (hl : l.length ≤ 1048577) (hcap : l.length ≤ c) (hr : RdI w lo hi A l) :
    Calls Try.prog 33 #[.slice A l.length c, .agg #[.int .i64 r.least, .int .i64 r.normal, .int .i64 r.most], .int .i64 m] w fun e w' => e = .returned (stV l r m) ∧ Ext w w' := by
  cases h1 : asked l r m
  · rw [stV_bad h1]
    go_enter Try.func33, Try.ntmps33
    go_wp2_with ((go_at_call 35; refine (spec_asked A c l r m lo hi _ hl (hr.ext (Ext.alloc w (.cells #[.int .i64 r.least, .int .i64 r.normal, .int .i64 r.most] 28)))).mono ?_; rintro e w1 ⟨rfl, hE1⟩; obtain ⟨hc1, hf1⟩ := bcell hE1; have hs1 := hE1.size; (try simp only [World.size_alloc] at hs1)))
    go_ret2
    exact ⟨rfl, (by repeat (first | exact Ext.refl _ | assumption | refine Ext.trans ?_ (Ext.alloc _ _) | refine Ext.trans ?_ (Ext.drew _) | refine Ext.trans ?_ (Ext.drewN _ _) | refine Ext.trans ?_ (by assumption)))⟩
  · have HH1 := Lib.hid h1
    obtain ⟨hp, ⟨r1, r2, r3, r4⟩, m1, m2⟩ := asked_parts h1
    obtain ⟨P, hP⟩ : ∃ P, P = paOf l r m := ⟨_, rfl⟩
    have hpl := pw_len hp
    have HPM := Lib.hid (pw_mem hp)
    have HPN : Hid (P.n = l.length) := by show _ = _; rw [hP]; rfl
    have HOK : Hid (∀ i j, P.ok i j = lineOk (cutL l i j) r m) := by show ∀ i j, _; rw [hP]; exact fun _ _ => rfl
    have HPP := Lib.hid hP
    clear h1 hp hP
    obtain ⟨_, b, off, _, rfl, _, _, g3, _, _⟩ := RdI.get hr (k := 0) (by omega)
    obtain ⟨w0, hw0⟩ : ∃ w0, w0 = w.alloc (.cells #[.int .i64 r.least, .int .i64 r.normal, .int .i64 r.most] 28) := ⟨_, rfl⟩
    have x0 : w0.cell? ⟨w.heap.size, 0, none⟩ = some (.int .i64 r.least) := by rw [hw0]; exact box_new (Ext.refl _) rfl
    have x1 : w0.cell? ⟨w.heap.size, 1, none⟩ = some (.int .i64 r.normal) := by rw [hw0]; exact box_new (Ext.refl _) rfl
    have x2 : w0.cell? ⟨w.heap.size, 2, none⟩ = some (.int .i64 r.most) := by rw [hw0]; exact box_new (Ext.refl _) rfl
    have hE0 : Ext w w0 := by rw [hw0]; exact Ext.alloc _ _
    have hlt0 : w.heap.size < w0.heap.size := by rw [hw0]; simp
    have HW0 := Lib.hid hw0
    clear hw0
    have hq := hr.ext hE0
    obtain ⟨Z, hZ⟩ : ∃ Z, Z = stV l r m := ⟨_, rfl⟩
    rw [← hZ]
    have HZ := Lib.hid hZ
    clear hZ
    have hfd : ∀ (a b c d : Value) (wx : World), (Instr.field 51 (.agg #[a, b, c, d]) 0).run Try.prog wx = .ok a wx := field_ok
    go_enter Try.func33, Try.ntmps33
    go_wp2_with fail
    have hw0' := HW0.out
    rw [← hw0']
    clear hw0'
    refine (spec_asked _ c l r m lo hi _ hl hq).mono ?_
    rintro e w1 ⟨rfl, hE1⟩
    rw [HH1.out]
    have y0 := hE1.cell x0
    have y1 := hE1.cell x1
    have y2 := hE1.cell x2
    go_wp2_with fail
    clear y0 y1 y2
    refine (spec_paFrom0 _ c l r m lo hi _ HH1.out hcap (hq.ext hE1)).mono ?_
    rintro e w2 ⟨A2, c2, rfl, hc2, hR2, hE2⟩
    rw [← HPP.out]
    clear hc2 hR2
    cases hb : (bA P 0).1 with
    | some y =>
      have hZ2 : Z = .tuple #[.int .i64 0, .bool false] := by rw [HZ.out]; exact stV_some (by rw [← HPP.out]; exact hb)
      have HZ2 := Lib.hid hZ2
      clear hb hZ2
      simp only [Option.isSome_some]
      go_wp2_with fail
      go_ret2
      exact ⟨by rw [HZ2.out]; rfl, (by repeat (first | exact Ext.refl _ | assumption | refine Ext.trans ?_ (Ext.alloc _ _) | refine Ext.trans ?_ (Ext.drew _) | refine Ext.trans ?_ (Ext.drewN _ _) | refine Ext.trans ?_ (by assumption)))⟩
    | none =>
      have hZ2 : Z = .tuple #[.int .i64 (mx (rt P l.length) l.length : Int), .bool true] := by rw [HZ.out, HPP.out]; exact stV_good HH1.out (by rw [← HPP.out]; exact hb)
      have HZ2 := Lib.hid hZ2
      clear hb hZ2
      simp only [Option.isSome_none]
      have hz2 := (hE1.trans hE2).size
      go_wp2_with fail
      clear hfd
      have hR0 : RdI (w2.alloc (.cells #[.int .i64 0] 3)) w0.heap.size (w2.alloc (.cells #[.int .i64 0] 3)).heap.size (some ⟨w2.heap.size, 0, none⟩) (rl P 1) := by
        rw [rl_one]
        exact (Blk.new w2 3 #[.int .i64 0]).rd hz2 (fun j u hu => by simpa using hu)
      have hE3 : Ext w0 (w2.alloc (.cells #[.int .i64 0] 3)) := (hE1.trans hE2).trans (Ext.alloc _ _)
      go_loopw [8, 9, 10] (fun v s jj wr => ∃ (j : Nat) (A' : Option Addr) (c' : Nat), 1 ≤ j ∧ j ≤ l.length ∧ jj = .int .i64 (j : Int) ∧ s = .int .i64 (mx (rt P j) j : Int) ∧ v = .slice A' (rl P j).length c' ∧ (rl P j).length ≤ c' ∧ RdI wr w0.heap.size wr.heap.size A' (rl P j) ∧ Ext w0 wr) (fun _ _ jj _ => l.length - (intOf jj).toNat)
      case atStart => exact ⟨1, _, _, Nat.le_refl _, by omega, rfl, by rw [mx_one]; rfl, by rw [rl_one]; rfl, by rw [rl_one]; exact Nat.le_refl _, hR0, hE3⟩
      case round =>
        clear hR0 hE3 hE1 hE2 hz2
        obtain ⟨j, A', c', hj1, hjl, rfl, rfl, rfl, hc', hR, hE⟩ := hrel
        by_cases hlt : j < l.length
        · have hrl := rl_len P j
          have HMEM : Hid (∀ x ∈ rl P j, ∃ i : Nat, x = i ∧ i < j ∧ rt P j i = true) := fun x hx => rl_mem hx
          have HFE : Hid (fd P j (rl P j).length = rt P j j) := fd_end hj1
          have HRS : Hid (rl P (j + 1) = rl P j ++ (if rt P j j then [(j : Int)] else [])) := rl_succ P j
          have HMS : Hid (mx (rt P (j + 1)) (j + 1) = if rt P j j then j else mx (rt P j) j) := mx_next
          have HFS : Hid (∀ (q : Nat) (x : Int), (rl P j)[q]? = some x → fd P j (q + 1) = (fd P j q || P.ok x.toNat j)) := fun q x h => fd_succ h
          obtain ⟨R, hRR⟩ : ∃ R, R = rl P j := ⟨_, rfl⟩
          obtain ⟨M, hM⟩ : ∃ M, M = mx (rt P j) j := ⟨_, rfl⟩
          rw [← hRR] at hc' hR hrl HMEM HFE HRS HFS ⊢
          rw [← hM] at HMS ⊢
          clear hRR hM
          have HLT : Hid (∀ x ∈ R, x < (j : Int)) := fun x hx => by obtain ⟨i, rfl, h, _⟩ := HMEM.out x hx; omega
          have i1 : (j : Int) < (l.length : Int) := by omega
          go_wp2_with fail
          refine (spec_l1Own A' c' _ R _ _ _ rfl (by omega) (Rd.toA hR)).mono ?_
          rintro e w4 ⟨A4, c4, rfl, hc4, hR4, hE4⟩
          have hR5 : RdI w4 w0.heap.size w4.heap.size A' R := Rd.wide (RdI.ext hR hE4) (Nat.le_refl _) hE4.size (Nat.le_refl _)
          have hE04 := hE.trans hE4
          have hst : StR w4 w0.heap.size R M j (fd P j 0) (.slice A' R.length c') (.int .i64 (M : Int)) := ⟨A', c', rfl, rfl, hc', hR5⟩
          clear hR hc' hE
          go_wp2_with fail
          go_loopw [8, 9, 37] (fun v s q wr => ∃ q' : Nat, q' ≤ R.length ∧ q = .int .i64 (q' : Int) ∧ StR wr w0.heap.size R M j (fd P j q') v s ∧ Ext w4 wr) (fun _ _ q _ => R.length - (intOf q).toNat)
          case atStart => exact ⟨0, Nat.zero_le _, rfl, hst, Ext.refl _⟩
          case round =>
            clear hst hR5
            obtain ⟨q, hq', rfl, hst, hEx⟩ := hrel
            have hE0r := hE04.trans hEx
            have hsr := hE0r.size
            by_cases hql : q < R.length
            · obtain ⟨x, b4, off4, HX, rfl, _, _, hb4, q0, _⟩ := RdI.get (hR4.ext hEx) hql
              obtain ⟨i, hxi, hij, _⟩ := HMEM.out x (List.mem_of_getElem? HX.out)
              subst hxi
              have HFQ : Hid (fd P j (q + 1) = (fd P j q || P.ok i j)) := by show _ = _; rw [HFS.out q _ HX.out]; rfl
              have i2 : (q : Int) < (R.length : Int) := by omega
              have y0 : ∀ x : XW wr, x.v.cell? ⟨w.heap.size, 0, none⟩ = _ := fun x => x.h.cell (hE0r.cell x0)
              have y1 : ∀ x : XW wr, x.v.cell? ⟨w.heap.size, 1, none⟩ = _ := fun x => x.h.cell (hE0r.cell x1)
              have y2 : ∀ x : XW wr, x.v.cell? ⟨w.heap.size, 2, none⟩ = _ := fun x => x.h.cell (hE0r.cell x2)
              have hcF : ¬ c = i := by omega
              have hcut := cutL_len l (i := i) (k := j) (by omega)
              have HC := Lib.hid hcut
              have hRc := (hq.ext hE0r).cut i j
              have HCM : Hid (∀ x ∈ cutL l i j, 1 ≤ x ∧ x ≤ 600) := fun x hx => HPM.out x (cutL_mem hx)
              have hc1 : 1 ≤ (cutL l i j).length := by omega
              have hc2 : (cutL l i j).length ≤ 24 := by omega
              have iij : (i : Int) < (j : Int) := by omega
              clear hcut
              cases hlo : lineOk (cutL l i j) r m
              · have HLO := Lib.hid hlo; clear hlo
                have HS : Hid (fd P j (q + 1) = fd P j q) := by show _ = _; rw [HFQ.out, HOK.out, HLO.out, Bool.or_false]
                go_wp2_with fail
                refine wp_region_xw (w0 := wr) (by kernel_rfl) (by kernel_rfl) (by repeat (first | exact Ext.refl _ | assumption | refine Ext.trans ?_ (Ext.alloc _ _) | refine Ext.trans ?_ (Ext.drew _) | refine Ext.trans ?_ (Ext.drewN _ _) | refine Ext.trans ?_ (by assumption))) ?_; (repeat (go_big_quiet_step ((go_at_call 43; exact XW.call (paLine_v _ (c - i) (j - i) (cutL l i j) r m _ _ _ false false rfl HLO.out HC.out hc1 hc2 HCM.out r1 r2 r3 r4 m1 m2 (hRc.ext (XW.h _))))))); refine wpQuiet_nil ?_; intro w5 hw'; obtain ⟨⟨_, hEw5⟩, hw''⟩ := hw'; subst hw''
                clear y0 y1 y2
                go_wp2_with fail
                go_roundw
                case rel => exact ⟨q + 1, by omega, by go_num, by rw [HS.out]; exact hst.ext hEw5, hEx.trans hEw5⟩
                case measure => (simp [intOf]; try omega)
              · have HLO := Lib.hid hlo; clear hlo
                have HS : Hid (fd P j (q + 1) = true) := by show _ = _; rw [HFQ.out, HOK.out, HLO.out, Bool.or_true]
                cases hf : fd P j q
                · rw [hf] at hst
                  obtain ⟨A5, c5, rfl, rfl, hc5, hR5⟩ := hst.no
                  clear hst hf
                  go_wp2_with fail
                  refine wp_region_xw (w0 := wr) (by kernel_rfl) (by kernel_rfl) (by repeat (first | exact Ext.refl _ | assumption | refine Ext.trans ?_ (Ext.alloc _ _) | refine Ext.trans ?_ (Ext.drew _) | refine Ext.trans ?_ (Ext.drewN _ _) | refine Ext.trans ?_ (by assumption))) ?_; (repeat (go_big_quiet_step ((go_at_call 43; exact XW.call (paLine_v _ (c - i) (j - i) (cutL l i j) r m _ _ _ false true rfl HLO.out HC.out hc1 hc2 HCM.out r1 r2 r3 r4 m1 m2 (hRc.ext (XW.h _))))))); refine wpQuiet_nil ?_; intro w5 hw'; obtain ⟨⟨_, hEw5⟩, hw''⟩ := hw'; subst hw''
                  clear y0 y1 y2
                  go_wp2_with fail
                  refine (put_new A5 c5 R (j : Int) _ _ _ (by omega) hc5 HLT.out (RdI.ext hR5 hEw5)).mono ?_
                  rintro e w7 ⟨A7, c7, rfl, hc7, hR7, hE7⟩
                  rw [List.length_append, List.length_singleton] at hc7 ⊢
                  have hz5 := hEw5.size
                  have hR8 : RdI w7 w0.heap.size w7.heap.size A7 (R ++ [(j : Int)]) := Rd.wide hR7 (by omega) (Nat.le_refl _) (Nat.le_refl _)
                  go_wp2_with fail
                  go_roundw
                  case rel => exact ⟨q + 1, by omega, by go_num, by rw [HS.out]; exact ⟨A7, c7, rfl, rfl, hc7, hR8⟩, (hEx.trans hEw5).trans hE7⟩
                  case measure => (simp [intOf]; try omega)
                · rw [hf] at hst
                  obtain ⟨A5, c5, rfl, rfl, hc5, hR5⟩ := hst.yes
                  clear hst hf
                  go_wp2_with fail
                  refine wp_region_xw (w0 := wr) (by kernel_rfl) (by kernel_rfl) (by repeat (first | exact Ext.refl _ | assumption | refine Ext.trans ?_ (Ext.alloc _ _) | refine Ext.trans ?_ (Ext.drew _) | refine Ext.trans ?_ (Ext.drewN _ _) | refine Ext.trans ?_ (by assumption))) ?_; (repeat (go_big_quiet_step ((go_at_call 43; exact XW.call (paLine_v _ (c - i) (j - i) (cutL l i j) r m _ _ _ false true rfl HLO.out HC.out hc1 hc2 HCM.out r1 r2 r3 r4 m1 m2 (hRc.ext (XW.h _))))))); refine wpQuiet_nil ?_; intro w5 hw'; obtain ⟨⟨_, hEw5⟩, hw''⟩ := hw'; subst hw''
                  clear y0 y1 y2
                  go_wp2_with fail
                  refine (put_old A5 c5 R (j : Int) _ _ _ _ rfl (by omega) hc5 HLT.out (RdI.ext hR5 hEw5)).mono ?_
                  rintro e w7 ⟨rfl, rfl⟩
                  have hR8 : RdI w5 w0.heap.size w5.heap.size A5 (R ++ [(j : Int)]) := RdI.ext6 hR5 hEw5
                  go_wp2_with fail
                  go_roundw
                  case rel => exact ⟨q + 1, by omega, by go_num, by rw [HS.out]; exact ⟨A5, c5, rfl, rfl, hc5, hR8⟩, hEx.trans hEw5⟩
                  case measure => (simp [intOf]; try omega)
            · have hqe : q = R.length := by omega
              subst hqe
              rw [HFE.out] at hst
              clear hql
              cases hf : rt P j j
              · rw [hf] at hst
                obtain ⟨A5, c5, rfl, rfl, hc5, hR5⟩ := hst.no
                have HRS2 : Hid (rl P (j + 1) = R) := by show _ = _; rw [HRS.out, hf]; simp
                have HMS2 : Hid (mx (rt P (j + 1)) (j + 1) = M) := by show _ = _; rw [HMS.out, hf]; rfl
                clear hst hf
                go_wp2_with fail
                go_roundw
                case rel => exact ⟨j + 1, A5, c5, by omega, by omega, by go_num, by rw [HMS2.out], by rw [HRS2.out], by rw [HRS2.out]; exact hc5, by rw [HRS2.out]; exact hR5, hE0r⟩
                case measure => (simp [intOf]; try omega)
              · rw [hf] at hst
                obtain ⟨A5, c5, rfl, rfl, hc5, hR5⟩ := hst.yes
                have HRS2 : Hid (rl P (j + 1) = R ++ [(j : Int)]) := by show _ = _; rw [HRS.out, hf]; simp
                have HMS2 : Hid (mx (rt P (j + 1)) (j + 1) = j) := by show _ = _; rw [HMS.out, hf]; rfl
                clear hst hf
                go_wp2_with fail
                go_roundw
                case rel => exact ⟨j + 1, A5, c5, by omega, by omega, by go_num, by rw [HMS2.out], by rw [HRS2.out, List.length_append]; rfl, by rw [HRS2.out, List.length_append]; exact hc5, by rw [HRS2.out]; exact hR5, hE0r⟩
                case measure => (simp [intOf]; try omega)
        · have hje : j = l.length := by omega
          subst hje
          clear hlt
          go_wp2_with fail
          go_ret2
          exact ⟨by rw [HZ2.out]; rfl, (by repeat (first | exact Ext.refl _ | assumption | refine Ext.trans ?_ (Ext.alloc _ _) | refine Ext.trans ?_ (Ext.drew _) | refine Ext.trans ?_ (Ext.drewN _ _) | refine Ext.trans ?_ (by assumption)))⟩
end Go.Proofs.Ytmfoankgfiofdaa
