/- The walk of NarrowestWay: the program's. -/
import Derived.Test.YtnkkpphjahpadaaNwA
namespace Go.Proofs.Ytnkkpphjahpadaa
open Go.RowKit
set_option linter.unusedVariables false
def RetI3 (w : World) (p : List Int × Int × Bool) (e : Ending) (w' : World) : Prop := ∃ A c, e = .returned (.tuple #[.slice A p.1.length c, .int .i64 p.2.1, .bool p.2.2]) ∧ p.1.length ≤ c ∧ RdI w' w.heap.size w'.heap.size A p.1 ∧ Ext w w'
theorem retI3_lit {w w' : World} {a : Option Addr} {c : Nat} (hE : Ext w w') : RetI3 w ([], 0, false) (.returned (.tuple #[.slice a 0 c, .int .i64 0, .bool false])) w' := ⟨a, c, rfl, Nat.zero_le _, Rd.nil (Nat.le_refl _), hE⟩
theorem cell_app {w w' : World} {o : Obj} {row : Option Nat} {b j : Nat} {v : Value} (hg : (w.alloc o).grownBy w' row) (hb : b < w.heap.size) (hne : row ≠ some b) (hc : w.cell? ⟨b, j, none⟩ = some v) : w'.cell? ⟨b, j, none⟩ = some v :=
  (World.cell?_of_block (a := ⟨b, j, none⟩) (hg.block b (by simp; omega) (fun e => hne e.symm))).trans ((Ext.alloc w o).cell hc)
/-- One step of the way: its first sort, and what is behind it. -/
theorem nw_step {f : List Srt} (hf : font f = true) {r : List UInt8} {L a : Nat} (hr : r.length = L) (ha : a < L) {ys : List Int} (h : nwT f r L (L - a) = some ys) :
    ∃ (i : Nat) (zs : List Int), ys = (i : Int) :: zs ∧ i < f.length ∧ preAt f (r.drop a) i = true ∧ a + cl f i ≤ L ∧ nwT f r L (L - (a + cl f i)) = some zs ∧
      (∀ j us, j < i → preAt f (r.drop a) j = true → nwT f r L (L - (a + cl f j)) = some us → wsum f ys < wsum f ((j : Int) :: us)) := by
  obtain ⟨d, hd⟩ : ∃ d, L = a + d + 1 := ⟨L - a - 1, by omega⟩
  have h1 : nwT f r L (L - a) = bestW f (fun c => nwT f r d (d + 1 - c)) (r.drop a) f.length := by
    rw [show L - a = d + 1 by omega, nwT_later (Nat.le_refl _) (by omega), nwT_new, hr, show L - (d + 1) = a by omega]
  have hrest : ∀ j, preAt f (r.drop a) j = true → a + cl f j ≤ L ∧ nwT f r L (L - (a + cl f j)) = nwT f r d (d + 1 - cl f j) := by
    intro j hj
    obtain ⟨h2, h3⟩ := preAt_cl hj
    rw [List.length_drop, hr] at h3
    have h4 := (cl_pos hf h2).1
    exact ⟨by omega, by rw [show L - (a + cl f j) = d + 1 - cl f j by omega]; exact nwT_later (by omega) (by omega)⟩
  rw [h1] at h
  rcases bestW_spec f (fun c => nwT f r d (d + 1 - c)) (r.drop a) f.length with ⟨h2, _⟩ | ⟨i, xs, h2, hl⟩
  · rw [h2] at h; cases h
  · rw [h2] at h; injection h with h; subst h
    obtain ⟨hp, zs, hz, rfl⟩ := candW_head hl.cand
    obtain ⟨h5, h6⟩ := hrest i hp
    refine ⟨i, zs, rfl, hl.lt, hp, h5, by rw [h6]; exact hz, fun j us hj hpj hus => ?_⟩
    rw [(hrest j hpj).2] at hus
    exact hl.first j _ hj (candW_of hpj hus)
set_option maxRecDepth 20000 in
set_option maxHeartbeats 4000000 in
theorem impl_NarrowestWay (A : Option Addr) (c : Nat) (f : List Srt) (word : ByteArray) (lo hi : Nat) (w : World) (hl : f.length ≤ 1048577) (hb : ∀ s ∈ f, s.code.size ≤ 1048577) (hw : word.size ≤ 1048577) (hr : RdS w lo hi A f) :
    Calls Try.prog 25 #[.slice A f.length c, .string word] w (RetI3 w (nwP f word)) := by
  cases h1 : font f
  · rw [nwP_bad (by simp [asked, h1])]
    go_enter Try.func25, Try.ntmps25
    go_wp2_with (go_at_call 67; refine (impl_IsFont A c f lo hi _ hl hb hr).mono ?_; rintro e w1 ⟨rfl, hE1⟩; obtain ⟨hc1, hf1⟩ := bcell hE1; have hs1 := hE1.size; (try simp only [World.size_alloc] at hs1))
    go_ret3
    exact retI3_lit (by repeat (first | exact Ext.refl _ | assumption | refine Ext.trans ?_ (Ext.alloc _ _) | refine Ext.trans ?_ (Ext.drew _) | refine Ext.trans ?_ (Ext.drewN _ _) | refine Ext.trans ?_ (by assumption)))
  cases h2 : lets word 1 16
  · rw [nwP_bad (by simp [asked, h2])]
    go_enter Try.func25, Try.ntmps25
    go_wp2_with (first | (go_at_call 67; refine (impl_IsFont A c f lo hi _ hl hb hr).mono ?_; rintro e w1 ⟨rfl, hE1⟩; obtain ⟨hc1, hf1⟩ := bcell hE1; have hs1 := hE1.size; (try simp only [World.size_alloc] at hs1)) | (go_at_call 68; refine (impl_isWord word _ hw).mono ?_; rintro e w' ⟨rfl, rfl⟩))
    go_ret3
    exact retI3_lit (by repeat (first | exact Ext.refl _ | assumption | refine Ext.trans ?_ (Ext.alloc _ _) | refine Ext.trans ?_ (Ext.drew _) | refine Ext.trans ?_ (Ext.drewN _ _) | refine Ext.trans ?_ (by assumption)))
  have hask : asked f word = true := by simp [asked, h1, h2]
  obtain ⟨hf, hw1, hw2⟩ := asked_parts hask
  have HFT := Lib.hid hf
  obtain ⟨P, hP⟩ : ∃ P, P = nwTab f word := ⟨_, rfl⟩
  obtain ⟨L, hL⟩ : ∃ L, word.size = L := ⟨_, rfl⟩
  obtain ⟨r, hrr⟩ : ∃ r, r = bl word := ⟨_, rfl⟩
  have hrl : r.length = L := by rw [hrr, bl_len, hL]
  have HRL := Lib.hid hrl; have HRR := Lib.hid hrr
  have HPA : Hid (∀ p, p ≤ L → P[p]? = some (tv f (nwT f r L (L - p)))) := by
    show ∀ p, _
    intro p hp
    rw [hP, nwTab_at (by omega), hrr, hL]
  have hPl : P.length = L + 1 := by rw [hP, nwTab_len, hL]
  have hnB : nwB f word = nwT f r L L := by rw [nwB, hrr, hL]
  obtain ⟨Z, hZ⟩ : ∃ Z, Z = nwP f word := ⟨_, rfl⟩
  rw [← hZ]
  have HZ := Lib.hid hZ; have HNB := Lib.hid hnB; have HP := Lib.hid hP; have HASK := Lib.hid hask
  have HLW := Lib.hid hL
  obtain ⟨hf1, hf2⟩ := font_len hf
  obtain ⟨_, b0, off0, _, eA, _, _, _⟩ := RdS.get hr (k := 0) (by omega)
  subst eA
  have HB := Lib.hid hb
  clear hrl hrr hZ hnB hP hask hf hb
  go_enter Try.func25, Try.ntmps25
  go_wp2_with (first | (go_at_call 67; refine (impl_IsFont _ c f lo hi _ hl HB.out hr).mono ?_; rintro e w1 ⟨rfl, hE1⟩; obtain ⟨hc1, hf1⟩ := bcell hE1; have hs1 := hE1.size; (try simp only [World.size_alloc] at hs1)) | (go_at_call 68; refine (impl_isWord word _ hw).mono ?_; rintro e w' ⟨rfl, rfl⟩))
  refine (impl_narrowestFrom _ c f word lo hi _ HFT.out hw1 hw2 (hr.ext hE1)).mono ?_
  rintro e w2 ⟨A2, c2, rfl, hc2, hR2, hE2⟩
  rw [← HP.out] at hc2 hR2 ⊢
  rw [hPl] at hc2 ⊢
  obtain ⟨hh2, hcell⟩ := hR2
  obtain ⟨b3, off3, rfl, _, hb3, hcs⟩ := hcell (by intro h; have := congrArg List.length h; simp [hPl] at this)
  have HPC : Hid (∀ p, p ≤ L → w2.cell? ⟨b3, off3 + p, none⟩ = some (.int .i64 (tv f (nwT f r L (L - p))))) := by
    show ∀ p, _
    intro p hp
    exact (hcs p _ (by rw [List.getElem?_map, HPA.out p hp]; rfl)).1
  have hb3' : b3 < w2.heap.size := by omega
  have hE12 : Ext w w2 := hE1.trans hE2
  have q0 := HPC.out 0 (by omega)
  rw [Nat.sub_zero, Nat.add_zero] at q0
  clear hcs hcell hh2
  cases hx : nwT f r L L with
  | none =>
    have HZ2 : Hid (Z = ([], 0, false)) := by show _ = _; rw [HZ.out]; exact nwP_none (by rw [HNB.out, hx])
    rw [hx, tv_none] at q0
    go_wp2_with fail
    go_ret3
    rw [HZ2.out]
    exact retI3_lit (by repeat (first | exact Ext.refl _ | assumption | refine Ext.trans ?_ (Ext.alloc _ _) | refine Ext.trans ?_ (Ext.drew _) | refine Ext.trans ?_ (Ext.drewN _ _) | refine Ext.trans ?_ (by assumption)))
  | some xs =>
    have HZ2 : Hid (Z = (xs, wsum f xs, true)) := by show _ = _; rw [HZ.out]; exact nwP_some HASK.out (by rw [HNB.out, hx])
    rw [hx, tv_some] at q0
    obtain ⟨s0, s1⟩ := wsum_in HFT.out xs
    have hxl := (nwT_ok HFT.out r _ _ _ hx).len
    obtain ⟨S, hS⟩ : ∃ S, S = wsum f xs := ⟨_, rfl⟩
    rw [← hS] at q0 s0 s1 HZ2
    have HX0 := Lib.hid hx
    clear hx hS
    go_wp2_with fail
    go_loopw [8, 9] (fun u j wr => ∃ (acc ys : List Int) (a : Nat), a ≤ L ∧ j = .int .i64 a ∧ nwT f r L (L - a) = some ys ∧ acc ++ ys = xs ∧ wr.ownsRow w2.heap.size 3 1 u acc.length (acc.map (Value.int .i64)) ∧ Ext w2 wr) (fun _ j _ => L - (intOf j).toNat)
    case atStart => exact ⟨[], xs, 0, Nat.zero_le _, rfl, HX0.out, rfl, own_lit0 _ _ (Nat.le_refl _) (Ext.refl _), (by repeat (first | exact Ext.refl _ | assumption | refine Ext.trans ?_ (Ext.alloc _ _) | refine Ext.trans ?_ (Ext.drew _) | refine Ext.trans ?_ (Ext.drewN _ _) | refine Ext.trans ?_ (by assumption)))⟩
    case round =>
      obtain ⟨acc, ys, a, ha, rfl, hys, hacc, hown, hE⟩ := hrel
      have hsz := hE.size
      by_cases hlt : a < L
      · obtain ⟨i, zs, hyz, hif, hpi, hai, hzs, hfirst⟩ := nw_step HFT.out HRL.out hlt hys
        have HYZ := Lib.hid hyz; have HPI := Lib.hid hpi; have HZS := Lib.hid hzs; have HFI := Lib.hid hfirst; have HYS := Lib.hid hys; have HAC := Lib.hid hacc
        have hal := (cl_pos HFT.out hif).1
        have hsl : (word.extract a L).size = L - a := by simp [ByteArray.size_extract]; omega
        have hpre : bl (word.extract a L) = r.drop a := by rw [← HLW.out, bl_drop, ← HRR.out]
        have HPRE := Lib.hid hpre
        have q1 := HPC.out a (by omega)
        rw [hys, tv_some] at q1
        have hylen := (nwT_ok HFT.out r _ _ _ hys).len
        obtain ⟨S1, hS1⟩ : ∃ S1, S1 = wsum f ys := ⟨_, rfl⟩
        rw [← hS1] at q1
        have HS1 := Lib.hid hS1
        have hacl : acc.length ≤ 32 := by
          have := congrArg List.length hacc
          rw [List.length_append] at this
          omega
        clear hyz hpi hzs hfirst hys hacc hpre hS1
        have HOWN := Lib.hid hown
        obtain ⟨A', c', rfl, hc', _⟩ := own_form hown
        clear hown
        obtain ⟨wa, rfl⟩ : ∃ x, x = wr := ⟨_, rfl⟩
        go_wp2_with fail
        go_loopw [8, 9, 36] (fun u j q wx => u = .slice A' acc.length c' ∧ j = .int .i64 a ∧ ∃ k : Nat, k ≤ i ∧ q = .int .i64 k ∧ Ext wa wx) (fun _ _ q _ => i + 1 - (intOf q).toNat)
        case atStart => exact ⟨rfl, rfl, 0, Nat.zero_le _, rfl, Ext.refl _⟩
        case round =>
          obtain ⟨rfl, rfl, k, hki, rfl, hEx⟩ := hrel
          have hE3 := hE.trans hEx
          obtain ⟨x, b', off', HX, eA, h3, c0, c1⟩ := RdS.get (hr.ext (hE12.trans hE3)) (k := k) (by omega)
          injection eA with eA; injection eA with eb eo _; subst eb; subst eo
          obtain ⟨_, x1, x2, x3, x4⟩ := font_all HFT.out x (List.mem_of_getElem? HX.out)
          have HCL : Hid (cl f k = x.code.size) := cl_of HX.out
          have HPA2 : Hid (preAt f (r.drop a) k = preB (bl x.code) (r.drop a)) := preAt_of HX.out
          go_wp2_with fail
          obtain ⟨w0, hw0⟩ : ∃ w0, w0 = wr.alloc (.cells #[.string x.code, .int .i64 x.set] 46) := ⟨_, rfl⟩
          have y0 : w0.cell? ⟨wr.heap.size, 0, none⟩ = some (.string x.code) := by rw [hw0]; exact box_new (Ext.refl _) rfl
          have y1 : w0.cell? ⟨wr.heap.size, 1, none⟩ = some (.int .i64 x.set) := by rw [hw0]; exact box_new (Ext.refl _) rfl
          have hE0 : Ext wr w0 := by rw [hw0]; exact Ext.alloc _ _
          rw [← hw0]
          clear hw0
          have hz0 : wr.heap.size < w0.heap.size := World.block_lt_of_cell? w0 _ y0
          have hE4 := hE3.trans hE0
          have e0 : ∀ y : XW w0, y.v.cell? ⟨wr.heap.size, 0, none⟩ = _ := fun y => y.h.cell y0
          have e1 : ∀ y : XW w0, y.v.cell? ⟨wr.heap.size, 1, none⟩ = _ := fun y => y.h.cell y1
          have e2 : ∀ y : XW w0, y.v.cell? ⟨b3, off3 + a, none⟩ = _ := fun y => y.h.cell (hE4.cell q1)
          have hC : ∀ y : XW w0, _ := fun y => strings_HasPrefix (word.extract a L) x.code y.v (by omega) (by omega)
          simp only [HPRE.out] at hC
          cases t1 : preB (bl x.code) (r.drop a)
          · have hne : k ≠ i := fun e => by have := HPI.out; rw [← e, HPA2.out, t1] at this; cases this
            simp only [t1] at hC
            refine wp_region_xw (w0 := w0) (by kernel_rfl) (by kernel_rfl) (by repeat (first | exact Ext.refl _ | assumption | refine Ext.trans ?_ (Ext.alloc _ _) | refine Ext.trans ?_ (Ext.drew _) | refine Ext.trans ?_ (Ext.drewN _ _) | refine Ext.trans ?_ (by assumption))) ?_; (repeat (go_big_quiet_step ((go_at_call 70; with_reducible exact XW.same (hC _))))); refine wpQuiet_nil ?_; intro w4 hw'; obtain ⟨⟨_, hEw4⟩, hw''⟩ := hw'; subst hw''
            clear hC e0 e1 e2
            go_wp2
            go_roundw
            case rel => exact ⟨rfl, rfl, k + 1, by omega, by go_num, (hEx.trans hE0).trans hEw4⟩
            case measure => simp [intOf]; omega
          · have hcl : a + x.code.size ≤ L := by
              have h1 := (preAt_cl (show preAt f (r.drop a) k = true by rw [HPA2.out, t1])).2
              rw [HCL.out, List.length_drop, HRL.out] at h1
              omega
            have q2 := HPC.out (a + x.code.size) hcl
            obtain ⟨V, hV⟩ : ∃ V, V = tv f (nwT f r L (L - (a + x.code.size))) := ⟨_, rfl⟩
            rw [← hV] at q2
            have e3 : ∀ y : XW w0, y.v.cell? ⟨b3, off3 + (a + x.code.size), none⟩ = _ := fun y => y.h.cell (hE4.cell q2)
            simp only [t1] at hC
            by_cases hke : k = i
            · subst hke
              have hV2 : V = wsum f zs := by rw [hV, ← HCL.out, HZS.out]; rfl
              have HSV : Hid (S1 = x.set + V) := by show _ = _; rw [HS1.out, HYZ.out, wsum_cons HX.out, hV2]
              obtain ⟨v0, v1⟩ := wsum_in HFT.out zs
              rw [← hV2] at v0 v1
              have hzl := (nwT_ok HFT.out r _ _ _ HZS.out).len
              have hSV := HSV.out
              rw [hSV] at q1 e2
              have p1 : decide (0 ≤ V) = true := decide_eq_true v0
              have HNE : Hid (Value.ownBlock (.slice A' acc.length c') ≠ some wr.heap.size) := fun e => by
                have := (HOWN.out.lt _ e).2
                have := hEx.size
                omega
              have HZS2 : Hid (nwT f r L (L - (a + x.code.size)) = some zs) := by show _ = _; rw [← HCL.out]; exact HZS.out
              have HAC2 : Hid ((acc ++ [(k : Int)]) ++ zs = xs) := by show _ = _; rw [← HAC.out, HYZ.out, List.append_assoc]; rfl
              clear hV hV2 hSV
              refine wp_region_xw (w0 := w0) (by kernel_rfl) (by kernel_rfl) (by repeat (first | exact Ext.refl _ | assumption | refine Ext.trans ?_ (Ext.alloc _ _) | refine Ext.trans ?_ (Ext.drew _) | refine Ext.trans ?_ (Ext.drewN _ _) | refine Ext.trans ?_ (by assumption))) ?_; (repeat (go_big_quiet_step ((go_at_call 70; with_reducible exact XW.same (hC _))))); refine wpQuiet_nil ?_; intro w4 hw'; obtain ⟨⟨_, hEw4⟩, hw''⟩ := hw'; subst hw''
              clear hC e0 e1 e2 e3
              have hEa : Ext wa w4 := (hEx.trans hE0).trans hEw4
              have hEb : Ext w2 w4 := hE4.trans hEw4
              have y0' := hEw4.cell y0
              have hz4 := hEw4.size
              go_wp2_with (((at_builtin; refine wp_app _ w2 rfl (.tmp 76) (.tmp 78) 34 rfl 3 _ 1 8 Try.underlying34 intInfo0 rfl (by omega) _ _ _ rfl (ownsRow_ext HOWN.out (hEa.trans (Ext.alloc _ _))) (hEb.trans (Ext.alloc _ _)) _ _ _ 1 1 [.int .i64 (k : Int)] rfl rfl (rdA_new rfl (Ext.refl _)) (by simp [Value.oneCell']) (by omega) (by simp) ?_; intro v5 w5 hown5 hE5 hg5 hat5); have y0n := cell_app hg5 (by omega) HNE.out y0'))
              go_roundw
              case rel => exact ⟨acc ++ [(k : Int)], zs, a + x.code.size, hcl, by go_num, HZS2.out, HAC2.out, by rw [List.map_append, List.length_append]; exact hown5, hE5⟩
              case measure => simp [intOf]; omega
            · cases hrest : nwT f r L (L - (a + x.code.size)) with
              | none =>
                rw [hrest, tv_none] at hV
                subst hV
                clear hrest
                refine wp_region_xw (w0 := w0) (by kernel_rfl) (by kernel_rfl) (by repeat (first | exact Ext.refl _ | assumption | refine Ext.trans ?_ (Ext.alloc _ _) | refine Ext.trans ?_ (Ext.drew _) | refine Ext.trans ?_ (Ext.drewN _ _) | refine Ext.trans ?_ (by assumption))) ?_; (repeat (go_big_quiet_step ((go_at_call 70; with_reducible exact XW.same (hC _))))); refine wpQuiet_nil ?_; intro w4 hw'; obtain ⟨⟨_, hEw4⟩, hw''⟩ := hw'; subst hw''
                clear hC e0 e1 e2 e3
                go_wp2
                go_roundw
                case rel => exact ⟨rfl, rfl, k + 1, by omega, by go_num, (hEx.trans hE0).trans hEw4⟩
                case measure => simp [intOf]; omega
              | some us =>
                have h4 := HFI.out k us (by omega) (by rw [HPA2.out, t1]) (by rw [HCL.out]; exact hrest)
                rw [wsum_cons HX.out, ← HS1.out] at h4
                rw [hrest, tv_some] at hV
                rw [← hV] at h4
                obtain ⟨v0, v1⟩ := wsum_in HFT.out us
                rw [← hV] at v0 v1
                have hul := (nwT_ok HFT.out r _ _ _ hrest).len
                have p1 : decide (0 ≤ V) = true := decide_eq_true v0
                have p2 : decide (x.set + V = S1) = false := decide_eq_false (by omega)
                clear hV hrest
                refine wp_region_xw (w0 := w0) (by kernel_rfl) (by kernel_rfl) (by repeat (first | exact Ext.refl _ | assumption | refine Ext.trans ?_ (Ext.alloc _ _) | refine Ext.trans ?_ (Ext.drew _) | refine Ext.trans ?_ (Ext.drewN _ _) | refine Ext.trans ?_ (by assumption))) ?_; (repeat (go_big_quiet_step ((go_at_call 70; with_reducible exact XW.same (hC _))))); refine wpQuiet_nil ?_; intro w4 hw'; obtain ⟨⟨_, hEw4⟩, hw''⟩ := hw'; subst hw''
                clear hC e0 e1 e2 e3
                go_wp2
                go_roundw
                case rel => exact ⟨rfl, rfl, k + 1, by omega, by go_num, (hEx.trans hE0).trans hEw4⟩
                case measure => simp [intOf]; omega
      · have hal : a = L := by omega
        subst hal
        have hy0 : ys = [] := by rw [Nat.sub_self, nwT_zero] at hys; injection hys with hys; exact hys.symm
        subst hy0
        rw [List.append_nil] at hacc
        subst hacc
        clear hlt hys
        obtain ⟨A', c', rfl, hc', _⟩ := own_form hown
        have e1 : ∀ y : XW wr, y.v.cell? ⟨b3, off3, none⟩ = _ := fun y => y.h.cell (hE.cell q0)
        go_wp2_with fail
        refine wp_region_xw (w0 := wr) (by kernel_rfl) (by kernel_rfl) (by repeat (first | exact Ext.refl _ | assumption | refine Ext.trans ?_ (Ext.alloc _ _) | refine Ext.trans ?_ (Ext.drew _) | refine Ext.trans ?_ (Ext.drewN _ _) | refine Ext.trans ?_ (by assumption))) ?_; (repeat (go_big_quiet_step (fail))); refine wpQuiet_nil ?_; intro w9 hw'; obtain ⟨⟨_, hEw9⟩, hw''⟩ := hw'; subst hw''
        clear e1
        go_wp2
        go_ret3
        rw [HZ2.out]
        exact ⟨A', c', rfl, hc', Rd.wide (Rd.ext (Rd.of_own hown) hEw9) (by omega) (hEw9.size) (Nat.le_refl _), (by repeat (first | exact Ext.refl _ | assumption | refine Ext.trans ?_ (Ext.alloc _ _) | refine Ext.trans ?_ (Ext.drew _) | refine Ext.trans ?_ (Ext.drewN _ _) | refine Ext.trans ?_ (by assumption)))⟩
end Go.Proofs.Ytnkkpphjahpadaa
