/- The walks of SortsOfWord: the program's and the reference's. -/
import Derived.Test.YtnkkpphjahpadaaFoA
import Derived.Test.YtnkkpphjahpadaaFoQ
import Derived.Test.YtnkkpphjahpadaaInts
import Derived.Laws.DeepStrings4
namespace Go.Proofs.Ytnkkpphjahpadaa
open Go.RowKit
set_option linter.unusedVariables false
def RetI2 (w : World) (p : List Int × Bool) (e : Ending) (w' : World) : Prop := ∃ A c, e = .returned (.tuple #[.slice A p.1.length c, .bool p.2]) ∧ p.1.length ≤ c ∧ RdI w' w.heap.size w'.heap.size A p.1 ∧ Ext w w'
theorem retI2_lit {w w' : World} {a : Option Addr} {c : Nat} (hE : Ext w w') : RetI2 w ([], false) (.returned (.tuple #[.slice a 0 c, .bool false])) w' := ⟨a, c, rfl, Nat.zero_le _, Rd.nil (Nat.le_refl _), hE⟩
theorem bl_drop (s : ByteArray) (i : Nat) : bl (s.extract i s.size) = (bl s).drop i := by
  rw [bl_extract, List.take_of_length_le]
  rw [List.length_drop, bl_len]; omega
theorem bl_take (s : ByteArray) (j : Nat) : bl (s.extract 0 j) = (bl s).take j := by rw [bl_extract]; simp
theorem lite_HasPrefix (s p : ByteArray) (w : World) (hs : s.size ≤ 1048577) (hp : p.size ≤ 1048577) :
    Calls Try.prog 109 #[.string s, .string p] w fun e w' => e = .returned (.bool (preB (bl p) (bl s))) ∧ w = w' := by
  by_cases h : p.size ≤ s.size
  · have hv : preB (bl p) (bl s) = ((s.extract 0 p.size).toList == p.toList) := by
      rw [bl_toList, bl_toList, bl_take, preB, bl_len, bl_len]; simp [h]
    rw [hv]; clear hv
    go_enter Try.func109, Try.ntmps109
    go_wp2
    go_ret
    exact ⟨rfl, rfl⟩
  · have hv : preB (bl p) (bl s) = false := by simp [preB, bl_len, h]
    rw [hv]; clear hv
    go_enter Try.func109, Try.ntmps109
    go_wp2
    go_ret
    exact ⟨rfl, rfl⟩
theorem strings_HasPrefix (s p : ByteArray) (w : World) (hs : s.size ≤ 1048577) (hp : p.size ≤ 1048577) :
    Calls Try.prog 70 #[.string s, .string p] w fun e w' => e = .returned (.bool (preB (bl p) (bl s))) ∧ w = w' := by
  go_enter Try.func70, Try.ntmps70
  go_wp2_with (go_at_call 109; refine (lite_HasPrefix s p _ hs hp).mono ?_; rintro e w' ⟨rfl, rfl⟩)
  go_ret
  exact ⟨rfl, rfl⟩
def szOf : Value → Nat
  | .string s => s.size
  | _ => 0
theorem bestTo_no {f : List Srt} {r : List UInt8} {k : Nat} (h : preAt f r k = false) : bestTo f r (k + 1) = bestTo f r k := by simp [bestTo, h]
theorem bestTo_first {f : List Srt} {r : List UInt8} {k : Nat} (h : preAt f r k = true) (hb : bestTo f r k = -1) : bestTo f r (k + 1) = k := by simp [bestTo, h, hb]
theorem bestTo_more {f : List Srt} {r : List UInt8} {k i : Nat} (h : preAt f r k = true) (hb : bestTo f r k = i) (hc : cl f i < cl f k) : bestTo f r (k + 1) = k := by simp [bestTo, h, hb, hc]
theorem bestTo_less {f : List Srt} {r : List UInt8} {k i : Nat} (hb : bestTo f r k = i) (hc : ¬ cl f i < cl f k) : bestTo f r (k + 1) = i := by
  have : ¬ ((i : Int) < 0) := by omega
  simp [bestTo, hb, hc, this]
theorem impl_sortsOf (A : Option Addr) (c : Nat) (f : List Srt) (word : ByteArray) (lo hi : Nat) (w : World) (hf : font f = true) (hw : word.size ≤ 16) (hr : RdS w lo hi A f) :
    Calls Try.prog 71 #[.slice A f.length c, .string word] w (RetI2 w (setP f word)) := by
  obtain ⟨hf1, hf2⟩ := font_len hf
  have HF := Lib.hid (font_all hf); have HFT := Lib.hid hf; clear hf
  obtain ⟨_, b0, off0, _, eA, _, _, _⟩ := RdS.get hr (k := 0) (by omega)
  subst eA
  obtain ⟨P, hP⟩ : ∃ P, P = setP f word := ⟨_, rfl⟩
  rw [← hP]
  have HP := Lib.hid hP; clear hP
  go_enter Try.func71, Try.ntmps71
  go_wp2
  go_loopw [1, 6] (fun u v wr => ∃ (s : ByteArray) (acc : List Int) (n : Nat), u = .string s ∧ s.size < n ∧ acc.length + s.size ≤ word.size ∧ setF f n (bl s) acc = setP f word ∧ wr.ownsRow w.heap.size 3 1 v acc.length (acc.map (Value.int .i64)) ∧ Ext w wr) (fun u _ _ => szOf u)
  case atStart => exact ⟨word, [], word.size + 1, rfl, by omega, by simp, rfl, own_lit0 _ _ (Nat.le_refl _) (Ext.refl _), (by repeat (first | exact Ext.refl _ | assumption | refine Ext.trans ?_ (Ext.alloc _ _) | refine Ext.trans ?_ (Ext.drew _) | refine Ext.trans ?_ (Ext.drewN _ _) | refine Ext.trans ?_ (by assumption)))⟩
  case round =>
    obtain ⟨s, acc, n, rfl, hsn, hacc, hg, hown, hE⟩ := hrel
    have HG := Lib.hid hg; clear hg
    have hsz := hE.size
    by_cases hz : 0 < s.size
    · have HNE : Hid (bl s ≠ []) := fun h => by have := bl_len s; rw [h] at this; simp at this; omega
      obtain ⟨wa, rfl⟩ : ∃ x, x = wr := ⟨_, rfl⟩
      go_wp2
      go_loopw [7, 16] (fun u j w2 => ∃ (k : Nat) (z : Int), k ≤ f.length ∧ j = .int .i64 k ∧ u = .int .i64 z ∧ z = bestTo f (bl s) k ∧ Ext wa w2) (fun _ j _ => f.length - (intOf j).toNat)
      case atStart => exact ⟨0, -1, Nat.zero_le _, rfl, rfl, rfl, Ext.refl _⟩
      case round =>
        obtain ⟨k, z, hk, rfl, rfl, hzb, hE2⟩ := hrel
        have HZ := Lib.hid hzb
        by_cases hlk : k < f.length
        · obtain ⟨x, b', off', HX, eA, h3, c0, c1⟩ := RdS.get (hr.ext (hE.trans hE2)) hlk
          injection eA with eA; injection eA with eb eo _; subst eb; subst eo
          obtain ⟨_, x1, x2, _, _⟩ := HF.out x (List.mem_of_getElem? HX.out)
          have hclk := cl_of HX.out
          have HCLK := Lib.hid hclk; clear hclk
          have hpa := preAt_of (r := bl s) HX.out
          have HPA := Lib.hid hpa; clear hpa
          clear hzb
          go_wp2_with fail
          obtain ⟨w0, hw0⟩ : ∃ w0, w0 = wr.alloc (.cells #[.string x.code, .int .i64 x.set] 46) := ⟨_, rfl⟩
          have y0 : w0.cell? ⟨wr.heap.size, 0, none⟩ = some (.string x.code) := by rw [hw0]; exact box_new (Ext.refl _) rfl
          have hE0 : Ext wr w0 := by rw [hw0]; exact Ext.alloc _ _
          rw [← hw0]
          clear hw0
          have hz0 : wr.heap.size < w0.heap.size := World.block_lt_of_cell? w0 _ y0
          have e0 : ∀ y : XW w0, y.v.cell? ⟨wr.heap.size, 0, none⟩ = _ := fun y => y.h.cell y0
          have hC : ∀ y : XW w0, _ := fun y => strings_HasPrefix s x.code y.v (by omega) (by omega)
          have hE3 := hE2.trans hE0
          cases t1 : preB (bl x.code) (bl s)
          · have HS : Hid (bestTo f (bl s) (k + 1) = bestTo f (bl s) k) := bestTo_no (by rw [HPA.out, t1])
            simp only [t1] at hC
            refine wp_region_xw (w0 := w0) (by kernel_rfl) (by kernel_rfl) (by repeat (first | exact Ext.refl _ | assumption | refine Ext.trans ?_ (Ext.alloc _ _) | refine Ext.trans ?_ (Ext.drew _) | refine Ext.trans ?_ (Ext.drewN _ _) | refine Ext.trans ?_ (by assumption))) ?_; (repeat (go_big_quiet_step ((go_at_call 70; with_reducible exact XW.same (hC _))))); refine wpQuiet_nil ?_; intro w1 hw'; obtain ⟨⟨_, hEw1⟩, hw''⟩ := hw'; subst hw''
            clear hC e0
            go_wp2
            go_roundw
            case rel => exact ⟨k + 1, z, by omega, by go_num, rfl, by rw [HS.out]; exact HZ.out, (by repeat (first | exact Ext.refl _ | assumption | refine Ext.trans ?_ (Ext.alloc _ _) | refine Ext.trans ?_ (Ext.drew _) | refine Ext.trans ?_ (Ext.drewN _ _) | refine Ext.trans ?_ (by assumption)))⟩
            case measure => simp [intOf]; omega
          · simp only [t1] at hC
            have hpre : preAt f (bl s) k = true := by rw [HPA.out, t1]
            rcases bestTo_range f (bl s) k with hb | ⟨i, hi', hb⟩
            · have hz1 : z = -1 := by rw [HZ.out, hb]
              subst hz1
              have HS : Hid (bestTo f (bl s) (k + 1) = k) := bestTo_first hpre hb
              clear hb hpre
              refine wp_region_xw (w0 := w0) (by kernel_rfl) (by kernel_rfl) (by repeat (first | exact Ext.refl _ | assumption | refine Ext.trans ?_ (Ext.alloc _ _) | refine Ext.trans ?_ (Ext.drew _) | refine Ext.trans ?_ (Ext.drewN _ _) | refine Ext.trans ?_ (by assumption))) ?_; (repeat (go_big_quiet_step ((go_at_call 70; with_reducible exact XW.same (hC _))))); refine wpQuiet_nil ?_; intro w1 hw'; obtain ⟨⟨_, hEw1⟩, hw''⟩ := hw'; subst hw''
              clear hC e0
              go_wp2
              go_roundw
              case rel => exact ⟨k + 1, k, by omega, by go_num, rfl, HS.out.symm, (by repeat (first | exact Ext.refl _ | assumption | refine Ext.trans ?_ (Ext.alloc _ _) | refine Ext.trans ?_ (Ext.drew _) | refine Ext.trans ?_ (Ext.drewN _ _) | refine Ext.trans ?_ (by assumption)))⟩
              case measure => simp [intOf]; omega
            · have hz1 : z = i := by rw [HZ.out, hb]
              subst hz1
              obtain ⟨x', b', off', HX', eA, _, d0, _⟩ := RdS.get (hr.ext (hE.trans hE3)) (k := i) (by omega)
              injection eA with eA; injection eA with eb eo _; subst eb; subst eo
              obtain ⟨_, x3, x4, _, _⟩ := HF.out x' (List.mem_of_getElem? HX'.out)
              have e1 : ∀ y : XW w0, y.v.cell? ⟨b0, off0 + i * 2, none⟩ = _ := fun y => y.h.cell d0
              have hcli := cl_of HX'.out
              have HCLI := Lib.hid hcli; clear hcli
              have p1 : (0 : Int) ≤ i := by omega
              have p2 : (i : Int) < f.length := by omega
              have p3 : decide ((i : Int) < 0) = false := by simp
              by_cases hcc : x'.code.size < x.code.size
              · have HS : Hid (bestTo f (bl s) (k + 1) = k) := bestTo_more hpre hb (by rw [HCLI.out, HCLK.out]; exact hcc)
                clear hb hpre
                have p4 : decide (x'.code.size < x.code.size) = true := by simp; omega
                refine wp_region_xw (w0 := w0) (by kernel_rfl) (by kernel_rfl) (by repeat (first | exact Ext.refl _ | assumption | refine Ext.trans ?_ (Ext.alloc _ _) | refine Ext.trans ?_ (Ext.drew _) | refine Ext.trans ?_ (Ext.drewN _ _) | refine Ext.trans ?_ (by assumption))) ?_; (repeat (go_big_quiet_step ((go_at_call 70; with_reducible exact XW.same (hC _))))); refine wpQuiet_nil ?_; intro w1 hw'; obtain ⟨⟨_, hEw1⟩, hw''⟩ := hw'; subst hw''
                clear hC e0 e1
                go_wp2
                go_roundw
                case rel => exact ⟨k + 1, k, by omega, by go_num, rfl, HS.out.symm, (by repeat (first | exact Ext.refl _ | assumption | refine Ext.trans ?_ (Ext.alloc _ _) | refine Ext.trans ?_ (Ext.drew _) | refine Ext.trans ?_ (Ext.drewN _ _) | refine Ext.trans ?_ (by assumption)))⟩
                case measure => simp [intOf]; omega
              · have HS : Hid (bestTo f (bl s) (k + 1) = i) := bestTo_less hb (by rw [HCLI.out, HCLK.out]; exact hcc)
                clear hb hpre
                have p4 : decide (x'.code.size < x.code.size) = false := by simp; omega
                refine wp_region_xw (w0 := w0) (by kernel_rfl) (by kernel_rfl) (by repeat (first | exact Ext.refl _ | assumption | refine Ext.trans ?_ (Ext.alloc _ _) | refine Ext.trans ?_ (Ext.drew _) | refine Ext.trans ?_ (Ext.drewN _ _) | refine Ext.trans ?_ (by assumption))) ?_; (repeat (go_big_quiet_step ((go_at_call 70; with_reducible exact XW.same (hC _))))); refine wpQuiet_nil ?_; intro w1 hw'; obtain ⟨⟨_, hEw1⟩, hw''⟩ := hw'; subst hw''
                clear hC e0 e1
                go_wp2
                go_roundw
                case rel => exact ⟨k + 1, i, by omega, by go_num, rfl, HS.out.symm, (by repeat (first | exact Ext.refl _ | assumption | refine Ext.trans ?_ (Ext.alloc _ _) | refine Ext.trans ?_ (Ext.drew _) | refine Ext.trans ?_ (Ext.drewN _ _) | refine Ext.trans ?_ (by assumption)))⟩
                case measure => simp [intOf]; omega
        · have hkl : k = f.length := by omega
          subst hkl
          clear hlk
          obtain ⟨m, hm⟩ : ∃ m, n = m + 1 := ⟨n - 1, by omega⟩
          have HM := Lib.hid hm; clear hm
          have hown2 := ownsRow_ext hown hE2
          have hE3 := hE.trans hE2
          rcases bestTo_range f (bl s) f.length with hb | ⟨i, hi', hb⟩
          · have hz1 : z = -1 := by rw [HZ.out, hb]
            subst hz1
            have HV : Hid (P = ([], false)) := by show _ = _; rw [HP.out, ← HG.out, HM.out]; exact setF_bad HNE.out hb
            clear hb hzb
            go_wp2
            go_ret2
            rw [HV.out]
            exact retI2_lit (by repeat (first | exact Ext.refl _ | assumption | refine Ext.trans ?_ (Ext.alloc _ _) | refine Ext.trans ?_ (Ext.drew _) | refine Ext.trans ?_ (Ext.drewN _ _) | refine Ext.trans ?_ (by assumption)))
          · have hz1 : z = i := by rw [HZ.out, hb]
            subst hz1
            obtain ⟨x, b', off', HX, eA, h3, c0, c1⟩ := RdS.get hr hi'
            injection eA with eA; injection eA with eb eo _; subst eb; subst eo
            obtain ⟨_, x1, x2, _, _⟩ := HF.out x (List.mem_of_getElem? HX.out)
            have hpp := bestP_pre hb
            rw [preAt_of HX.out, preB_iff, bl_len, bl_len] at hpp
            have hle := hpp.1
            have HS : Hid (setF f m (bl (s.extract x.code.size s.size)) (acc ++ [(i : Int)]) = setP f word) := by
              show _ = _
              rw [bl_drop, ← HG.out, HM.out, setF_step HNE.out hb, cl_of HX.out]
            have hsub : (s.extract x.code.size s.size).size = s.size - x.code.size := by simp
            have HSUB := Lib.hid hsub
            clear hb hzb hpp hsub
            have p3 : decide ((i : Int) < 0) = false := by simp
            have p5 : decide ((f.length : Int) < f.length) = false := by simp
            go_wp2_with ((at_builtin; refine wp_app _ w rfl (.tmp 46) (.tmp 48) 34 rfl 3 _ 1 8 Try.underlying34 intInfo0 rfl (by omega) _ _ _ rfl (ownsRow_ext hown2 (Ext.alloc _ _)) (hE3.trans (Ext.alloc _ _)) _ _ _ 1 1 [.int .i64 i] rfl rfl (rdA_new rfl (Ext.refl _)) (by simp [Value.oneCell']) (by omega) (by simp) ?_; intro v4 w4 hown4 hE4 hg4 hat4); have d0 := hE4.cell c0)
            go_roundw
            case rel => exact ⟨s.extract x.code.size s.size, acc ++ [(i : Int)], m, rfl, by have := HM.out; have := HSUB.out; omega, by have := HSUB.out; rw [List.length_append, List.length_singleton]; omega, HS.out, by rw [List.length_append, List.map_append]; exact hown4, hE4⟩
            case measure => simp [szOf]; omega
    · have hz0 : s.size = 0 := by omega
      obtain ⟨m, rfl⟩ : ∃ m, n = m + 1 := ⟨n - 1, by omega⟩
      have HV : Hid (P = (acc, true)) := by
        show _ = _
        rw [HP.out, ← HG.out, show bl s = [] from List.eq_nil_of_length_eq_zero (by rw [bl_len]; exact hz0), setF_nil]
      clear hz0
      obtain ⟨A', c', rfl, hc', _⟩ := own_form hown
      go_wp2
      go_ret2
      rw [HV.out]
      exact ⟨A', c', rfl, hc', (Rd.of_own hown : RdI _ _ _ _ _), hE⟩
theorem impl_SortsOfWord (A : Option Addr) (c : Nat) (f : List Srt) (word : ByteArray) (lo hi : Nat) (w : World) (hl : f.length ≤ 1048577) (hb : ∀ s ∈ f, s.code.size ≤ 1048577) (hw : word.size ≤ 1048577) (hr : RdS w lo hi A f) :
    Calls Try.prog 30 #[.slice A f.length c, .string word] w (RetI2 w (swP f word)) := by
  cases h1 : font f
  · rw [swP_bad (by simp [asked, h1])]
    go_enter Try.func30, Try.ntmps30
    go_wp2_with (go_at_call 67; refine (impl_IsFont A c f lo hi _ hl hb hr).mono ?_; rintro e w1 ⟨rfl, hE1⟩; obtain ⟨hc1, hf1⟩ := bcell hE1; have hs1 := hE1.size; (try simp only [World.size_alloc] at hs1))
    go_ret2
    exact retI2_lit (by repeat (first | exact Ext.refl _ | assumption | refine Ext.trans ?_ (Ext.alloc _ _) | refine Ext.trans ?_ (Ext.drew _) | refine Ext.trans ?_ (Ext.drewN _ _) | refine Ext.trans ?_ (by assumption)))
  cases h2 : lets word 1 16
  · rw [swP_bad (by simp [asked, h2])]
    go_enter Try.func30, Try.ntmps30
    go_wp2_with (first | (go_at_call 67; refine (impl_IsFont A c f lo hi _ hl hb hr).mono ?_; rintro e w1 ⟨rfl, hE1⟩; obtain ⟨hc1, hf1⟩ := bcell hE1; have hs1 := hE1.size; (try simp only [World.size_alloc] at hs1)) | (go_at_call 68; refine (impl_isWord word _ hw).mono ?_; rintro e w' ⟨rfl, rfl⟩))
    go_ret2
    exact retI2_lit (by repeat (first | exact Ext.refl _ | assumption | refine Ext.trans ?_ (Ext.alloc _ _) | refine Ext.trans ?_ (Ext.drew _) | refine Ext.trans ?_ (Ext.drewN _ _) | refine Ext.trans ?_ (by assumption)))
  have hask : asked f word = true := by simp [asked, h1, h2]
  rw [swP_good hask]
  obtain ⟨_, hw1, hw2⟩ := asked_parts hask
  clear hask
  go_enter Try.func30, Try.ntmps30
  go_wp2_with (first | (go_at_call 67; refine (impl_IsFont A c f lo hi _ hl hb hr).mono ?_; rintro e w1 ⟨rfl, hE1⟩; obtain ⟨hc1, hf1⟩ := bcell hE1; have hs1 := hE1.size; (try simp only [World.size_alloc] at hs1)) | (go_at_call 68; refine (impl_isWord word _ hw).mono ?_; rintro e w' ⟨rfl, rfl⟩))
  refine (impl_sortsOf A c f word lo hi _ h1 hw2 (hr.ext hE1)).mono ?_
  rintro e w2 ⟨A2, c2, rfl, hc2, hR2, hE2⟩
  go_wp2_with fail
  go_ret2
  exact ⟨A2, c2, rfl, hc2, hR2.wide (by omega) (Nat.le_refl _) (Nat.le_refl _), (by repeat (first | exact Ext.refl _ | assumption | refine Ext.trans ?_ (Ext.alloc _ _) | refine Ext.trans ?_ (Ext.drew _) | refine Ext.trans ?_ (Ext.drewN _ _) | refine Ext.trans ?_ (by assumption)))⟩
theorem least_any (x : Int) (m : Nat) (w : World) (h : x = m) (hm : m ≤ 4611686018427387904) : Calls Try.prog 107 #[.int .i64 3, .int .i64 x] w fun e w' => e = .returned (.int .i64 ((min 3 m : Nat) : Int)) ∧ w = w' := by
  subst h
  by_cases h3 : 3 < m
  · rw [Nat.min_eq_left (by omega)]
    go_enter Try.func107, Try.ntmps107
    go_wp2
    go_ret
    exact ⟨rfl, rfl⟩
  · rw [Nat.min_eq_right (by omega)]
    go_enter Try.func107, Try.ntmps107
    go_wp2
    go_ret
    exact ⟨rfl, rfl⟩
def Srch (f : List Srt) (r : List UInt8) (n : Nat) (z : Int) : Prop := (z = -1 ∧ noLong f r n) ∨ ∃ i : Nat, z = i ∧ bestP f r = i
theorem srch_down {f : List Srt} {r : List UInt8} {n : Nat} {c : ByteArray} (hc : c.toList = r.take (n + 1)) (hn : n + 1 ≤ r.length) (h : noLong f r (n + 1)) : Srch f r n (findP f c) := by
  rcases findP_cases f c with ⟨h1, _⟩ | ⟨k, s, hk, _⟩
  · exact .inl ⟨h1, noLong_down hc h h1⟩
  · exact .inr ⟨k, hk, by rw [found_best hc hn h (by omega)]; exact hk⟩
theorem spec_tySet (A : Option Addr) (c : Nat) (f : List Srt) (word : ByteArray) (lo hi : Nat) (w : World) (hf : font f = true) (hw : word.size ≤ 16) (hr : RdS w lo hi A f) :
    Calls Try.prog 62 #[.slice A f.length c, .string word] w (RetI2 w (setP f word)) := by
  obtain ⟨hf1, hf2⟩ := font_len hf
  have HF := Lib.hid (font_all hf); clear hf
  obtain ⟨_, b0, off0, _, eA, _, _, _⟩ := RdS.get hr (k := 0) (by omega)
  subst eA
  obtain ⟨P, hP⟩ : ∃ P, P = setP f word := ⟨_, rfl⟩
  rw [← hP]
  have HP := Lib.hid hP; clear hP
  go_enter Try.func62, Try.ntmps62
  go_wp2
  go_loopw [6, 7] (fun v j wr => ∃ (a : Nat) (acc : List Int) (n : Nat), j = .int .i64 a ∧ a ≤ word.size ∧ word.size - a < n ∧ acc.length + (word.size - a) ≤ word.size ∧ setF f n ((bl word).drop a) acc = setP f word ∧ wr.ownsRow w.heap.size 3 1 v acc.length (acc.map (Value.int .i64)) ∧ Ext w wr) (fun _ j _ => word.size - (intOf j).toNat)
  case atStart => exact ⟨0, [], word.size + 1, rfl, Nat.zero_le _, by omega, by simp, rfl, own_nil _ _ _ _, (by repeat (first | exact Ext.refl _ | assumption | refine Ext.trans ?_ (Ext.alloc _ _) | refine Ext.trans ?_ (Ext.drew _) | refine Ext.trans ?_ (Ext.drewN _ _) | refine Ext.trans ?_ (by assumption)))⟩
  case round =>
    obtain ⟨a, acc, n, rfl, ha, hsn, hacc, hg, hown, hE⟩ := hrel
    have HG := Lib.hid hg; clear hg
    have hsz := hE.size
    by_cases hz : a < word.size
    · obtain ⟨r, hr0⟩ : ∃ r, r = (bl word).drop a := ⟨_, rfl⟩
      have hrl : r.length = word.size - a := by rw [hr0, List.length_drop, bl_len]
      have HRL := Lib.hid hrl
      have HR0 := Lib.hid hr0
      have HNE : Hid (r ≠ []) := fun h => by rw [h] at hrl; simp at hrl; omega
      obtain ⟨wa, rfl⟩ : ∃ x, x = wr := ⟨_, rfl⟩
      have HTOP : Hid (noLong f r (min 3 (word.size - a))) := by show noLong _ _ _; rw [← hrl]; exact noLong_top (fun s hs => (HF.out s hs).2.2.1)
      clear hr0 hrl
      go_wp2_with (go_at_call 107; refine (least_any _ (word.size - a) _ (by omega) (by omega)).mono ?_; rintro e w' ⟨rfl, rfl⟩)
      go_loopw [8, 9] (fun u j w2 => ∃ (n : Nat) (z : Int), n ≤ 3 ∧ n ≤ word.size - a ∧ j = .int .i64 n ∧ u = .int .i64 z ∧ Srch f r n z ∧ Ext wa w2) (fun _ j _ => (intOf j).toNat)
      case atStart => exact ⟨min 3 (word.size - a), -1, by omega, by omega, rfl, rfl, .inl ⟨rfl, HTOP.out⟩, Ext.refl _⟩
      case round =>
        obtain ⟨q, z, hq3, hqw, rfl, rfl, hs, hE2⟩ := hrel
        have hown2 := ownsRow_ext hown hE2
        have hE3 := hE.trans hE2
        obtain ⟨m, hm⟩ : ∃ m, n = m + 1 := ⟨n - 1, by omega⟩
        have HM := Lib.hid hm; clear hm
        rcases hs with ⟨rfl, hnl⟩ | ⟨i, rfl, hb⟩
        · by_cases hq0 : 0 < q
          · obtain ⟨q', rfl⟩ : ∃ q', q = q' + 1 := ⟨q - 1, by omega⟩
            have hct : (word.extract a (a + (q' + 1))).toList = r.take (q' + 1) := by
              rw [bl_toList, bl_extract, HR0.out, show a + (q' + 1) - a = q' + 1 by omega]
            have HS : Hid (Srch f r q' (findP f (word.extract a (a + (q' + 1))))) := srch_down hct (by rw [HRL.out]; exact hqw) hnl
            have HNL := Lib.hid hnl
            clear hnl hct
            have p1 : (0 : Int) ≤ a := by omega
            have p2 : (a : Int) + (q' + 1) ≤ word.size := by omega
            go_wp2_with fail
            refine (spec_tyFind _ c f _ lo hi _ (by omega) (hr.ext hE3)).mono ?_
            rintro e w5 ⟨rfl, hE5⟩
            go_wp2
            go_roundw
            case rel => exact ⟨q', _, by omega, by omega, by go_num, rfl, HS.out, (by repeat (first | exact Ext.refl _ | assumption | refine Ext.trans ?_ (Ext.alloc _ _) | refine Ext.trans ?_ (Ext.drew _) | refine Ext.trans ?_ (Ext.drewN _ _) | refine Ext.trans ?_ (by assumption)))⟩
            case measure => (simp [intOf]) <;> omega
          · have hq : q = 0 := by omega
            subst hq
            have HV : Hid (P = ([], false)) := by show _ = _; rw [HP.out, ← HG.out, HM.out, ← HR0.out]; exact setF_bad HNE.out (noLong_zero (fun s hs => (HF.out s hs).2.1) hnl)
            clear hnl hq0
            go_wp2
            go_ret2
            rw [HV.out]
            exact retI2_lit (by repeat (first | exact Ext.refl _ | assumption | refine Ext.trans ?_ (Ext.alloc _ _) | refine Ext.trans ?_ (Ext.drew _) | refine Ext.trans ?_ (Ext.drewN _ _) | refine Ext.trans ?_ (by assumption)))
        · have hi' := bestP_lt hb
          obtain ⟨x, b', off', HX, eA, h3, c0, c1⟩ := RdS.get hr hi'
          injection eA with eA; injection eA with eb eo _; subst eb; subst eo
          obtain ⟨_, x1, x2, _, _⟩ := HF.out x (List.mem_of_getElem? HX.out)
          have hpp := bestP_pre hb
          rw [preAt_of HX.out, preB_iff, bl_len, HRL.out] at hpp
          have hle := hpp.1
          have HS : Hid (setF f m ((bl word).drop (a + x.code.size)) (acc ++ [(i : Int)]) = setP f word) := by
            show _ = _
            rw [← List.drop_drop, ← HR0.out, ← HG.out, HM.out, ← HR0.out, setF_step HNE.out hb, cl_of HX.out]
          clear hb hpp
          have p3 : decide ((i : Int) < 0) = false := by simp
          have p5 : (0 : Int) ≤ i := by omega
          have hqc : q = 0 ∨ 0 < q := by omega
          rcases hqc with rfl | hq0
          all_goals
            go_wp2_with ((at_builtin; refine wp_app _ w rfl (.tmp 37) (.tmp 39) 34 rfl 3 _ 1 8 Try.underlying34 intInfo0 rfl (by omega) _ _ _ rfl (ownsRow_ext hown2 (Ext.alloc _ _)) (hE3.trans (Ext.alloc _ _)) _ _ _ 1 1 [.int .i64 i] rfl rfl (rdA_new rfl (Ext.refl _)) (by simp [Value.oneCell']) (by omega) (by simp) ?_; intro v4 w4 hown4 hE4 hg4 hat4); have d0 := hE4.cell c0)
            go_roundw
            case rel => exact ⟨a + x.code.size, acc ++ [(i : Int)], m, by go_num, by omega, by have := HM.out; omega, by rw [List.length_append, List.length_singleton]; omega, HS.out, by rw [List.length_append, List.map_append]; exact hown4, hE4⟩
            case measure => simp [intOf]; omega
    · have hz0 : a = word.size := by omega
      obtain ⟨m, rfl⟩ : ∃ m, n = m + 1 := ⟨n - 1, by omega⟩
      have HV : Hid (P = (acc, true)) := by
        show _ = _
        rw [HP.out, ← HG.out, show (bl word).drop a = [] from List.drop_eq_nil_of_le (by rw [bl_len]; omega), setF_nil]
      clear hz0
      obtain ⟨A', c', rfl, hc', _⟩ := own_form hown
      go_wp2
      go_ret2
      rw [HV.out]
      exact ⟨A', c', rfl, hc', (Rd.of_own hown : RdI _ _ _ _ _), hE⟩
theorem spec_tyAsked (A : Option Addr) (c : Nat) (f : List Srt) (word : ByteArray) (lo hi : Nat) (w : World) (hl : f.length ≤ 1048577) (hb : ∀ s ∈ f, s.code.size ≤ 1048577) (hw : word.size ≤ 1048577) (hr : RdS w lo hi A f) :
    Calls Try.prog 61 #[.slice A f.length c, .string word] w fun e w' => e = .returned (.bool (asked f word)) ∧ Ext w w' := by
  cases h1 : font f
  · rw [show asked f word = false by simp [asked, h1]]
    go_enter Try.func61, Try.ntmps61
    go_wp2_with (go_at_call 72; refine (spec_tyFont A c f lo hi _ hl hb hr).mono ?_; rintro e w1 ⟨rfl, hE1⟩; obtain ⟨hc1, hf1⟩ := bcell hE1; have hs1 := hE1.size; (try simp only [World.size_alloc] at hs1))
    go_ret
    exact ⟨rfl, (by repeat (first | exact Ext.refl _ | assumption | refine Ext.trans ?_ (Ext.alloc _ _) | refine Ext.trans ?_ (Ext.drew _) | refine Ext.trans ?_ (Ext.drewN _ _) | refine Ext.trans ?_ (by assumption)))⟩
  · rw [show asked f word = lets word 1 16 by simp [asked, h1]]
    go_enter Try.func61, Try.ntmps61
    go_wp2_with (first | (go_at_call 72; refine (spec_tyFont A c f lo hi _ hl hb hr).mono ?_; rintro e w1 ⟨rfl, hE1⟩; obtain ⟨hc1, hf1⟩ := bcell hE1; have hs1 := hE1.size; (try simp only [World.size_alloc] at hs1)) | (go_at_call 93; refine (spec_tyWord word _ hw).mono ?_; rintro e w' ⟨rfl, rfl⟩))
    go_ret
    exact ⟨rfl, (by repeat (first | exact Ext.refl _ | assumption | refine Ext.trans ?_ (Ext.alloc _ _) | refine Ext.trans ?_ (Ext.drew _) | refine Ext.trans ?_ (Ext.drewN _ _) | refine Ext.trans ?_ (by assumption)))⟩
theorem spec_SortsOfWord (A : Option Addr) (c : Nat) (f : List Srt) (word : ByteArray) (lo hi : Nat) (w : World) (hl : f.length ≤ 1048577) (hb : ∀ s ∈ f, s.code.size ≤ 1048577) (hw : word.size ≤ 1048577) (hr : RdS w lo hi A f) :
    Calls Try.prog 29 #[.slice A f.length c, .string word] w (RetI2 w (swP f word)) := by
  cases h : asked f word
  · rw [swP_bad h]
    go_enter Try.func29, Try.ntmps29
    go_wp2_with (go_at_call 61; refine (spec_tyAsked A c f word lo hi _ hl hb hw hr).mono ?_; rintro e w1 ⟨rfl, hE1⟩; obtain ⟨hc1, hf1⟩ := bcell hE1; have hs1 := hE1.size; (try simp only [World.size_alloc] at hs1))
    go_ret2
    exact retI2_lit (by repeat (first | exact Ext.refl _ | assumption | refine Ext.trans ?_ (Ext.alloc _ _) | refine Ext.trans ?_ (Ext.drew _) | refine Ext.trans ?_ (Ext.drewN _ _) | refine Ext.trans ?_ (by assumption)))
  rw [swP_good h]
  obtain ⟨h1, hw1, hw2⟩ := asked_parts h
  go_enter Try.func29, Try.ntmps29
  go_wp2_with (go_at_call 61; refine (spec_tyAsked A c f word lo hi _ hl hb hw hr).mono ?_; rintro e w1 ⟨rfl, hE1⟩; obtain ⟨hc1, hf1⟩ := bcell hE1; have hs1 := hE1.size; (try simp only [World.size_alloc] at hs1))
  refine (spec_tySet A c f word lo hi _ h1 hw2 (hr.ext hE1)).mono ?_
  rintro e w2 ⟨A2, c2, rfl, hc2, hR2, hE2⟩
  go_wp2_with fail
  go_ret2
  exact ⟨A2, c2, rfl, hc2, hR2.wide (by omega) (Nat.le_refl _) (Nat.le_refl _), (by repeat (first | exact Ext.refl _ | assumption | refine Ext.trans ?_ (Ext.alloc _ _) | refine Ext.trans ?_ (Ext.drew _) | refine Ext.trans ?_ (Ext.drewN _ _) | refine Ext.trans ?_ (by assumption)))⟩
end Go.Proofs.Ytnkkpphjahpadaa
