/- The walks of SpacesFor: the program's and the reference's. -/
import Derived.Test.YtnkkpphjahpadaaFoJ
namespace Go.Proofs.Ytnkkpphjahpadaa
open Go.RowKit
set_option linter.unusedVariables false
def setAt (f : List Srt) (x : Int) : Int := match f[x.toNat]? with | some s => s.set | none => 0
def wsum (f : List Srt) (xs : List Int) : Int := (xs.map (setAt f)).sum
theorem wsum_succ {f : List Srt} {xs : List Int} {k i : Nat} {s : Srt} (hx : xs[k]? = some (i : Int)) (hs : f[i]? = some s) : wsum f (xs.take (k + 1)) = wsum f (xs.take k) + s.set := by
  rw [wsum, take_snoc hx, List.map_append, List.sum_append]; simp [wsum, setAt, hs]
theorem wsum_bound {f : List Srt} (hf : font f = true) (xs : List Int) (k : Nat) : 0 ≤ wsum f (xs.take k) ∧ wsum f (xs.take k) ≤ 54 * k := by
  induction k with
  | zero => simp [wsum]
  | succ k ih =>
    by_cases hk : k < xs.length
    · have hx := List.getElem?_eq_getElem hk
      rw [wsum, take_snoc hx, List.map_append, List.sum_append]
      have : 0 ≤ setAt f xs[k] ∧ setAt f xs[k] ≤ 54 := by
        unfold setAt
        split
        · rename_i s hs
          have := srtOk_parts (font_at hf hs)
          omega
        · omega
      simp only [List.map_cons, List.map_nil, List.sum_cons, List.sum_nil]
      unfold wsum at ih
      omega
    · have e : xs.take (k + 1) = xs.take k := by rw [List.take_of_length_le (by omega), List.take_of_length_le (by omega)]
      rw [e]; omega
def wd (f : List Srt) (s : ByteArray) : Int := wsum f (setP f s).1
def wOk (f : List Srt) (s : ByteArray) : Bool := asked f s && setOk f s
def sfP (f : List Srt) (ws : List ByteArray) (r : Rul) (m : Int) : List Int × Bool := if font f && ws.all (wOk f) then jlP (ws.map (wd f)) r m else ([], false)
theorem sfP_bad {f : List Srt} {ws : List ByteArray} {r : Rul} {m : Int} (h : (font f && ws.all (wOk f)) = false) : sfP f ws r m = ([], false) := by simp only [sfP, h]; rfl
theorem sfP_good {f : List Srt} {ws : List ByteArray} {r : Rul} {m : Int} (h1 : font f = true) (h2 : ws.all (wOk f) = true) : sfP f ws r m = jlP (ws.map (wd f)) r m := by simp [sfP, h1, h2]
theorem sfP_len (f : List Srt) (ws : List ByteArray) (r : Rul) (m : Int) : (sfP f ws r m).1.length ≤ 4000000 := by
  cases h : font f && ws.all (wOk f)
  · rw [sfP_bad h]; simp
  · simp only [Bool.and_eq_true] at h
    rw [sfP_good h.1 h.2]; exact jlP_len _ _ _
theorem sfP_long {f : List Srt} {ws : List ByteArray} {r : Rul} {m : Int} (h : inB ws.length 1 20 = false) : sfP f ws r m = ([], false) := by
  cases h1 : font f && ws.all (wOk f)
  · exact sfP_bad h1
  · simp only [Bool.and_eq_true] at h1
    rw [sfP_good h1.1 h1.2]
    refine jlP_bad ?_
    have : lnOk (ws.map (wd f)) = false := by rw [lnOk, List.length_map, h]; simp
    simp [jlB, this]
theorem sfP_words {f : List Srt} {ws : List ByteArray} {r : Rul} {m : Int} (h : wordsOk ws = false) : sfP f ws r m = ([], false) := by
  cases h1 : ws.all fun s => lets s 1 16
  · refine sfP_bad ?_
    have : ws.all (wOk f) = false := by
      rw [List.all_eq_false] at h1 ⊢
      obtain ⟨s, hs, hn⟩ := h1
      exact ⟨s, hs, by simp only [Bool.not_eq_true] at hn; simp [wOk, asked, hn]⟩
    rw [this]; simp
  · have : ¬ ws.length ≤ 40 := by
      intro h2
      rw [wordsOk, h1] at h
      simp at h
      omega
    exact sfP_long (by cases e : inB ws.length 1 20; rfl; have := inB_iff.1 e; omega)
theorem wAll_of {f : List Srt} {ws : List ByteArray} (hf : font f = true) (hw : wordsOk ws = true) : ws.all (wOk f) = ws.all (setOk f) := by
  simp only [wordsOk, Bool.and_eq_true, List.all_eq_true] at hw
  rw [Bool.eq_iff_iff, List.all_eq_true, List.all_eq_true]
  constructor
  · intro h s hs; have := h s hs; simp only [wOk, Bool.and_eq_true] at this; exact this.2
  · intro h s hs; simp only [wOk, asked, hf, hw.1 s hs, h s hs, Bool.and_self]
theorem impl_widthOf (A B : Option Addr) (c d n : Nat) (f : List Srt) (xs : List Int) (lo hi lo' hi' : Nat) (w : World) (hn : xs.length = n) (hf : font f = true) (hx : n ≤ 40) (hin : ∀ x ∈ xs, 0 ≤ x ∧ x < f.length) (hr : RdS w lo hi A f) (hr' : RdI w lo' hi' B xs) :
    Calls Try.prog 118 #[.slice A f.length c, .slice B n d] w fun e w' => e = .returned (.int .i64 (wsum f xs)) ∧ w = w' := by
  subst hn
  have HF := Lib.hid hf; have HIN := Lib.hid hin
  clear hf hin
  go_enter Try.func118, Try.ntmps118
  go_wp2
  go_loop [5, 10] (fun s i => ∃ (k : Nat) (v : Int), k ≤ xs.length ∧ i = .int .i64 k ∧ s = .int .i64 v ∧ v = wsum f (xs.take k)) (fun _ i => xs.length - (intOf i).toNat)
  case atStart => exact ⟨0, 0, Nat.zero_le _, rfl, rfl, by simp [wsum]⟩
  case round =>
    obtain ⟨k, v, hk, rfl, rfl, hv⟩ := hrel
    have HV := Lib.hid hv
    obtain ⟨v1, v2⟩ := wsum_bound HF.out xs k
    rw [← hv] at v1 v2
    clear hv
    by_cases hlt : k < xs.length
    · obtain ⟨x, b, off, HX, rfl, _, _, h3, c0, _⟩ := RdI.get hr' hlt
      obtain ⟨x1, x2⟩ := HIN.out x (List.mem_of_getElem? HX.out)
      obtain ⟨i, rfl⟩ : ∃ i : Nat, x = i := ⟨x.toNat, by omega⟩
      obtain ⟨s, b', off', HS, eA, h4, d0, d1⟩ := RdS.get hr (k := i) (by omega)
      subst eA
      obtain ⟨_, _, _, t1, t2⟩ := srtOk_parts (font_at HF.out HS.out)
      have HW : Hid (wsum f (xs.take (k + 1)) = v + s.set) := by show _ = _; rw [wsum_succ HX.out HS.out, HV.out]
      go_wp2
      go_round
      case rel => exact ⟨k + 1, v + s.set, by omega, by go_num, rfl, HW.out.symm⟩
      case measure => simp [intOf]; omega
    · have hkl : k = xs.length := by omega
      subst hkl
      clear hlt
      have HW : Hid (v = wsum f xs) := by have := HV.out; rwa [List.take_of_length_le (Nat.le_refl _)] at this
      go_wp2
      go_ret
      exact ⟨ret_int HW.out, rfl⟩
theorem spec_tyWide (A B : Option Addr) (c d n : Nat) (f : List Srt) (xs : List Int) (lo hi lo' hi' : Nat) (w : World) (hn : xs.length = n) (hf : font f = true) (hx : n ≤ 40) (hin : ∀ x ∈ xs, 0 ≤ x ∧ x < f.length) (hr : RdS w lo hi A f) (hr' : RdI w lo' hi' B xs) :
    Calls Try.prog 65 #[.slice A f.length c, .slice B n d] w fun e w' => e = .returned (.int .i64 (wsum f xs)) ∧ w = w' := by
  subst hn
  have HF := Lib.hid hf; have HIN := Lib.hid hin
  clear hf hin
  go_enter Try.func65, Try.ntmps65
  go_wp2
  go_loop [5, 10] (fun s i => ∃ (k : Nat) (v : Int), k ≤ xs.length ∧ i = .int .i64 k ∧ s = .int .i64 v ∧ v = wsum f (xs.take k)) (fun _ i => xs.length - (intOf i).toNat)
  case atStart => exact ⟨0, 0, Nat.zero_le _, rfl, rfl, by simp [wsum]⟩
  case round =>
    obtain ⟨k, v, hk, rfl, rfl, hv⟩ := hrel
    have HV := Lib.hid hv
    obtain ⟨v1, v2⟩ := wsum_bound HF.out xs k
    rw [← hv] at v1 v2
    clear hv
    by_cases hlt : k < xs.length
    · obtain ⟨x, b, off, HX, rfl, _, _, h3, c0, _⟩ := RdI.get hr' hlt
      obtain ⟨x1, x2⟩ := HIN.out x (List.mem_of_getElem? HX.out)
      obtain ⟨i, rfl⟩ : ∃ i : Nat, x = i := ⟨x.toNat, by omega⟩
      obtain ⟨s, b', off', HS, eA, h4, d0, d1⟩ := RdS.get hr (k := i) (by omega)
      subst eA
      obtain ⟨_, _, _, t1, t2⟩ := srtOk_parts (font_at HF.out HS.out)
      have HW : Hid (wsum f (xs.take (k + 1)) = v + s.set) := by show _ = _; rw [wsum_succ HX.out HS.out, HV.out]
      go_wp2
      go_round
      case rel => exact ⟨k + 1, v + s.set, by omega, by go_num, rfl, HW.out.symm⟩
      case measure => simp [intOf]; omega
    · have hkl : k = xs.length := by omega
      subst hkl
      clear hlt
      have HW : Hid (v = wsum f xs) := by have := HV.out; rwa [List.take_of_length_le (Nat.le_refl _)] at this
      go_wp2
      go_ret
      exact ⟨ret_int HW.out, rfl⟩
theorem impl_WidthOfWord (A : Option Addr) (c : Nat) (f : List Srt) (word : ByteArray) (lo hi : Nat) (w : World) (hl : f.length ≤ 1048577) (hb : ∀ s ∈ f, s.code.size ≤ 1048577) (hw : word.size ≤ 1048577) (hr : RdS w lo hi A f) :
    Calls Try.prog 90 #[.slice A f.length c, .string word] w fun e w' => e = .returned (.tuple #[.int .i64 (if wOk f word then wd f word else 0), .bool (wOk f word)]) ∧ Ext w w' := by
  have h0 := impl_SortsOfWord A c f word lo hi w hl hb hw hr
  cases h : wOk f word
  · have hv : swP f word = ([], false) := by
      cases h1 : asked f word
      · exact swP_bad h1
      · have h2 : (setP f word).2 = false := by simpa [wOk, h1, setOk] using h
        rw [swP_good h1]
        exact Prod.ext (setF_false f _ _ _ h2) h2
    rw [hv] at h0
    rw [if_neg (by simp)]
    clear hv h
    go_enter Try.func90, Try.ntmps90
    go_wp2_with fail
    refine h0.mono ?_
    rintro e w1 ⟨A1, c1, rfl, hc1, hR1, hE1⟩
    go_wp2_with fail
    go_ret2
    exact ⟨rfl, (by repeat (first | exact Ext.refl _ | assumption | refine Ext.trans ?_ (Ext.alloc _ _) | refine Ext.trans ?_ (Ext.drew _) | refine Ext.trans ?_ (Ext.drewN _ _) | refine Ext.trans ?_ (by assumption)))⟩
  · simp only [wOk, Bool.and_eq_true] at h
    obtain ⟨hf, hw1, hw2⟩ := asked_parts h.1
    have hok : (setP f word).2 = true := h.2
    obtain ⟨xs, hxs⟩ : ∃ xs, xs = (setP f word).1 := ⟨_, rfl⟩
    have hxl : xs.length ≤ 16 := by rw [hxs]; have := setP_len hf word; omega
    have HIN : Hid (∀ x ∈ xs, 0 ≤ x ∧ x < f.length) := by show ∀ x ∈ xs, _; rw [hxs]; exact setP_in f word
    have HP : Hid (swP f word = (xs, true)) := by show _ = _; rw [swP_good h.1, hxs, ← hok]
    rw [HP.out] at h0
    rw [if_pos rfl, wd, ← hxs]
    clear hxs hok h HP
    go_enter Try.func90, Try.ntmps90
    go_wp2_with fail
    refine h0.mono ?_
    rintro e w1 ⟨A1, c1, rfl, hc1, hR1, hE1⟩
    simp only at hc1 hR1
    go_wp2_with (go_at_call 118; refine (impl_widthOf A A1 c c1 _ f xs lo hi _ _ _ rfl hf (by omega) HIN.out (hr.ext hE1) hR1).mono ?_; rintro e w' ⟨rfl, rfl⟩)
    go_ret2
    exact ⟨rfl, hE1⟩
theorem spec_tyWidth (A : Option Addr) (c : Nat) (f : List Srt) (word : ByteArray) (lo hi : Nat) (w : World) (hf : font f = true) (hw : word.size ≤ 16) (hr : RdS w lo hi A f) :
    Calls Try.prog 114 #[.slice A f.length c, .string word] w fun e w' => e = .returned (.tuple #[.int .i64 (wd f word), .bool (setOk f word)]) ∧ Ext w w' := by
  have h0 := spec_tySet A c f word lo hi w hf hw hr
  obtain ⟨xs, hxs⟩ : ∃ xs, xs = (setP f word).1 := ⟨_, rfl⟩
  obtain ⟨ok, hok⟩ : ∃ ok, ok = (setP f word).2 := ⟨_, rfl⟩
  have hp : setP f word = (xs, ok) := by rw [hxs, hok]
  have hxl : xs.length ≤ 16 := by rw [hxs]; have := setP_len hf word; omega
  have HIN : Hid (∀ x ∈ xs, 0 ≤ x ∧ x < f.length) := by show ∀ x ∈ xs, _; rw [hxs]; exact setP_in f word
  rw [hp] at h0
  rw [wd, setOk, ← hxs, ← hok]
  clear hxs hok hp
  go_enter Try.func114, Try.ntmps114
  go_wp2_with fail
  refine h0.mono ?_
  rintro e w1 ⟨A1, c1, rfl, hc1, hR1, hE1⟩
  simp only at hc1 hR1
  go_wp2_with (go_at_call 65; refine (spec_tyWide A A1 c c1 _ f xs lo hi _ _ _ rfl hf (by omega) HIN.out (hr.ext hE1) hR1).mono ?_; rintro e w' ⟨rfl, rfl⟩)
  go_ret2
  exact ⟨rfl, hE1⟩
def wdL (f : List Srt) (ws : List ByteArray) (k : Nat) : List Int := (ws.take k).map (wd f)
theorem wdL_succ {f : List Srt} {ws : List ByteArray} {k : Nat} {s : ByteArray} (h : ws[k]? = some s) : wdL f ws (k + 1) = wdL f ws k ++ [wd f s] := by
  rw [wdL, take_snoc h, List.map_append]; rfl
theorem wdL_len (f : List Srt) (ws : List ByteArray) (k : Nat) : (wdL f ws k).length ≤ k := by simp [wdL]; omega
theorem wdL_all (f : List Srt) (ws : List ByteArray) : wdL f ws ws.length = ws.map (wd f) := by rw [wdL, List.take_of_length_le (Nat.le_refl _)]
set_option maxRecDepth 40000 in
set_option maxHeartbeats 2000000 in
theorem impl_SpacesFor (A B : Option Addr) (c d : Nat) (f : List Srt) (ws : List ByteArray) (r : Rul) (m : Int) (lo hi lo' hi' : Nat) (w : World) (hl : f.length ≤ 1048577) (hb : ∀ s ∈ f, s.code.size ≤ 1048577) (hl' : ws.length ≤ 1048577) (hb' : ∀ s ∈ ws, s.size ≤ 1048577) (hr : RdS w lo hi A f) (hr' : RdT w lo' hi' B ws) :
    Calls Try.prog 47 #[.slice A f.length c, .slice B ws.length d, .agg #[.int .i64 r.least, .int .i64 r.normal, .int .i64 r.most], .int .i64 m] w (RetI2 w (sfP f ws r m)) := by
  have HB := Lib.hid hb; have HB' := Lib.hid hb'
  clear hb hb'
  obtain ⟨P, hP⟩ : ∃ P, P = sfP f ws r m := ⟨_, rfl⟩
  rw [← hP]
  have HP := Lib.hid hP; clear hP
  go_enter Try.func47, Try.ntmps47
  go_wp2_with fail
  obtain ⟨wB, hwB⟩ : ∃ wB, wB = w.alloc (.cells #[.int .i64 r.least, .int .i64 r.normal, .int .i64 r.most] 59) := ⟨_, rfl⟩
  have x0 : wB.cell? ⟨w.heap.size, 0, none⟩ = some (.int .i64 r.least) := by rw [hwB]; exact box_new (Ext.refl _) rfl
  have x1 : wB.cell? ⟨w.heap.size, 1, none⟩ = some (.int .i64 r.normal) := by rw [hwB]; exact box_new (Ext.refl _) rfl
  have x2 : wB.cell? ⟨w.heap.size, 2, none⟩ = some (.int .i64 r.most) := by rw [hwB]; exact box_new (Ext.refl _) rfl
  have hE0 : Ext w wB := by rw [hwB]; exact Ext.alloc _ _
  have hzB : wB.heap.size = w.heap.size + 1 := by rw [hwB]; simp
  have own0 : (wB.alloc (.cells #[] 3)).ownsRow wB.heap.size 3 1 (.slice (some ⟨w.heap.size + 1, 0, none⟩) 0 0) 0 [] := by
    have h := own_lit0 (w := wB) (base := wB.heap.size) 3 1 (Nat.le_refl _) (Ext.refl _)
    rw [hzB] at h ⊢
    exact h
  rw [← hwB]
  have HZB := Lib.hid hzB
  have hzB1 : w.heap.size ≤ wB.heap.size := by omega
  clear hwB hzB
  go_loopw [10, 18] (fun v j wr => ∃ k : Nat, k ≤ ws.length ∧ j = .int .i64 k ∧ (ws.take k).all (wOk f) = true ∧ wr.ownsRow wB.heap.size 3 1 v (wdL f ws k).length ((wdL f ws k).map (Value.int .i64)) ∧ Ext wB wr) (fun _ j _ => ws.length - (intOf j).toNat)
  case atStart => exact ⟨0, Nat.zero_le _, rfl, rfl, own0, Ext.alloc _ _⟩
  case round =>
    clear own0
    obtain ⟨k, hk, rfl, ha, hown, hE⟩ := hrel
    have HA := Lib.hid ha; clear ha
    have hll := wdL_len f ws k
    by_cases hlt : k < ws.length
    · obtain ⟨s, b, off, HX, rfl, h3, c0⟩ := RdT.get (hr'.ext (hE0.trans hE)) hlt
      have hs := HB'.out s (List.mem_of_getElem? HX.out)
      cases t1 : wOk f s
      · have HV : Hid (P = ([], false)) := by show _ = _; rw [HP.out]; exact sfP_bad (by rw [all_no HX.out t1]; simp)
        have H0 : Hid (∀ W, Ext w W → Calls Try.prog 90 #[.slice A f.length c, .string s] W fun e w' => e = .returned (.tuple #[.int .i64 0, .bool false]) ∧ Ext W w') := fun W hW => by
          have h := impl_WidthOfWord A c f s lo hi W hl HB.out hs (hr.ext hW)
          rw [t1, if_neg (by simp)] at h
          exact h
        go_wp2_with fail
        refine (H0.out _ (hE0.trans hE)).mono ?_
        rintro e w5 ⟨rfl, hE5⟩
        go_wp2_with fail
        go_ret2
        rw [HV.out]
        exact retI2_lit (by repeat (first | exact Ext.refl _ | assumption | refine Ext.trans ?_ (Ext.alloc _ _) | refine Ext.trans ?_ (Ext.drew _) | refine Ext.trans ?_ (Ext.drewN _ _) | refine Ext.trans ?_ (by assumption)))
      · have HA2 : Hid ((ws.take (k + 1)).all (wOk f) = true) := by show _ = _; rw [all_take _ HX.out, HA.out, t1]; rfl
        have HS : Hid (wdL f ws (k + 1) = wdL f ws k ++ [wd f s]) := wdL_succ HX.out
        have H0 : Hid (∀ W, Ext w W → Calls Try.prog 90 #[.slice A f.length c, .string s] W fun e w' => e = .returned (.tuple #[.int .i64 (wd f s), .bool true]) ∧ Ext W w') := fun W hW => by
          have h := impl_WidthOfWord A c f s lo hi W hl HB.out hs (hr.ext hW)
          rw [t1, if_pos rfl] at h
          exact h
        go_wp2_with fail
        refine (H0.out _ (hE0.trans hE)).mono ?_
        rintro e w5 ⟨rfl, hE5⟩
        go_wp2_with (first | (at_builtin; refine wp_app _ wB rfl (.tmp 31) (.tmp 33) 34 rfl 3 _ 1 8 Try.underlying34 intInfo0 rfl (by omega) _ _ _ rfl (ownsRow_ext hown (hE5.trans (Ext.alloc _ _))) ((hE.trans hE5).trans (Ext.alloc _ _)) _ _ _ 1 1 [.int .i64 (wd f s)] rfl rfl (rdA_new rfl (Ext.refl _)) (by simp [Value.oneCell']) (by omega) (by simp) ?_; intro v4 w4 hown4 hE4 hg4 hat4))
        go_roundw
        case rel => exact ⟨k + 1, by omega, by go_num, HA2.out, by rw [HS.out, List.length_append, List.map_append]; exact hown4, hE4⟩
        case measure => simp [intOf]; omega
    · have hkl : k = ws.length := by omega
      subst hkl
      clear hlt hk
      have HAL : Hid (ws.all (wOk f) = true) := by have := HA.out; rwa [List.take_of_length_le (Nat.le_refl _)] at this
      rw [wdL_all] at hown hll
      obtain ⟨L, hL⟩ : ∃ L, L = ws.map (wd f) := ⟨_, rfl⟩
      rw [← hL] at hown hll
      have HL := Lib.hid hL; clear hL
      obtain ⟨A', c', rfl, hc', _⟩ := own_form hown
      have hRR : RdI wr wB.heap.size wr.heap.size A' L := Rd.of_own hown
      have hEw := hE0.trans hE
      cases t1 : font f
      · have HV : Hid (P = ([], false)) := by show _ = _; rw [HP.out]; exact sfP_bad (by rw [t1]; rfl)
        go_wp2_with fail
        refine (impl_IsFont A c f lo hi _ hl HB.out (hr.ext hEw)).mono ?_
        rw [t1]
        rintro e w5 ⟨rfl, hE5⟩
        go_wp2_with fail
        go_ret2
        rw [HV.out]
        exact retI2_lit (by repeat (first | exact Ext.refl _ | assumption | refine Ext.trans ?_ (Ext.alloc _ _) | refine Ext.trans ?_ (Ext.drew _) | refine Ext.trans ?_ (Ext.drewN _ _) | refine Ext.trans ?_ (by assumption)))
      · have HV : Hid (P = jlP L r m) := by show _ = _; rw [HP.out, HL.out]; exact sfP_good t1 HAL.out
        go_wp2_with fail
        refine (impl_IsFont A c f lo hi _ hl HB.out (hr.ext hEw)).mono ?_
        rw [t1]
        rintro e w5 ⟨rfl, hE5⟩
        have y0 := (hE.trans hE5).cell x0
        have y1 := (hE.trans hE5).cell x1
        have y2 := (hE.trans hE5).cell x2
        have hzz := World.block_lt_of_cell? w5 _ y0
        go_wp2_with fail
        refine (impl_JustifyLine A' c' _ L r m _ _ _ rfl (by omega) (hRR.ext hE5)).mono ?_
        rw [← HV.out]
        rintro e w6 ⟨A6, c6, rfl, hc6, hR6, hE6⟩
        have hz6 := (hEw.trans hE5).size
        go_wp2_with fail
        go_ret2
        exact ⟨A6, c6, rfl, hc6, hR6.wide hz6 (Nat.le_refl _) (Nat.le_refl _), (hEw.trans hE5).trans hE6⟩
theorem spec_juWidths (A B : Option Addr) (c d : Nat) (f : List Srt) (ws : List ByteArray) (lo hi lo' hi' : Nat) (w : World) (hf : font f = true) (hw : wordsOk ws = true) (hr : RdS w lo hi A f) (hr' : RdT w lo' hi' B ws) :
    Calls Try.prog 88 #[.slice A f.length c, .slice B ws.length d] w (RetI2 w (if ws.all (setOk f) then (ws.map (wd f), true) else ([], false))) := by
  have hwl := wordsOk_len hw
  have HF := Lib.hid hf; have HW := Lib.hid hw
  clear hf hw
  obtain ⟨P, hP⟩ : ∃ P, P = (if ws.all (setOk f) then (ws.map (wd f), true) else (([] : List Int), false)) := ⟨_, rfl⟩
  rw [← hP]
  have HP := Lib.hid hP; clear hP
  go_enter Try.func88, Try.ntmps88
  go_wp2
  go_loopw [6, 13] (fun v j wr => ∃ k : Nat, k ≤ ws.length ∧ j = .int .i64 k ∧ (ws.take k).all (setOk f) = true ∧ wr.ownsRow w.heap.size 3 1 v (wdL f ws k).length ((wdL f ws k).map (Value.int .i64)) ∧ Ext w wr) (fun _ j _ => ws.length - (intOf j).toNat)
  case atStart => exact ⟨0, Nat.zero_le _, rfl, rfl, own_nil _ _ _ _, Ext.refl _⟩
  case round =>
    obtain ⟨k, hk, rfl, ha, hown, hE⟩ := hrel
    have HA := Lib.hid ha; clear ha
    have hll := wdL_len f ws k
    by_cases hlt : k < ws.length
    · obtain ⟨s, b, off, HX, eA, h3, c0⟩ := RdT.get (hr'.ext hE) hlt
      subst eA
      have hs := (wordsOk_at HW.out (List.mem_of_getElem? HX.out)).2
      have h0 := spec_tyWidth A c f s lo hi wr HF.out hs (hr.ext hE)
      cases t1 : setOk f s
      · have HV : Hid (P = ([], false)) := by show _ = _; rw [HP.out, all_no HX.out t1]; rfl
        rw [t1] at h0
        have H0 := Lib.hid h0; clear h0
        go_wp2_with fail
        refine H0.out.mono ?_
        rintro e w5 ⟨rfl, hE5⟩
        go_wp2_with fail
        go_ret2
        rw [HV.out]
        exact retI2_lit (by repeat (first | exact Ext.refl _ | assumption | refine Ext.trans ?_ (Ext.alloc _ _) | refine Ext.trans ?_ (Ext.drew _) | refine Ext.trans ?_ (Ext.drewN _ _) | refine Ext.trans ?_ (by assumption)))
      · have HA2 : Hid ((ws.take (k + 1)).all (setOk f) = true) := by show _ = _; rw [all_take _ HX.out, HA.out, t1]; rfl
        have HS : Hid (wdL f ws (k + 1) = wdL f ws k ++ [wd f s]) := wdL_succ HX.out
        rw [t1] at h0
        have H0 := Lib.hid h0; clear h0
        go_wp2_with fail
        refine H0.out.mono ?_
        rintro e w5 ⟨rfl, hE5⟩
        go_wp2_with (first | (at_builtin; refine wp_app _ w rfl (.tmp 25) (.tmp 27) 34 rfl 3 _ 1 8 Try.underlying34 intInfo0 rfl (by omega) _ _ _ rfl (ownsRow_ext hown (hE5.trans (Ext.alloc _ _))) ((hE.trans hE5).trans (Ext.alloc _ _)) _ _ _ 1 1 [.int .i64 (wd f s)] rfl rfl (rdA_new rfl (Ext.refl _)) (by simp [Value.oneCell']) (by omega) (by simp) ?_; intro v4 w4 hown4 hE4 hg4 hat4))
        go_roundw
        case rel => exact ⟨k + 1, by omega, by go_num, HA2.out, by rw [HS.out, List.length_append, List.map_append]; exact hown4, hE4⟩
        case measure => simp [intOf]; omega
    · have hkl : k = ws.length := by omega
      subst hkl
      clear hlt hk
      have HAL : Hid (ws.all (setOk f) = true) := by have := HA.out; rwa [List.take_of_length_le (Nat.le_refl _)] at this
      rw [wdL_all] at hown hll
      obtain ⟨L, hL⟩ : ∃ L, L = ws.map (wd f) := ⟨_, rfl⟩
      rw [← hL] at hown hll
      have HV : Hid (P = (L, true)) := by show _ = _; rw [HP.out, HAL.out, hL]; rfl
      clear hL
      obtain ⟨A', c', rfl, hc', _⟩ := own_form hown
      have hRR : RdI wr w.heap.size wr.heap.size A' L := Rd.of_own hown
      go_wp2
      go_ret2
      rw [HV.out]
      exact ⟨A', c', rfl, hc', hRR, hE⟩
set_option maxRecDepth 40000 in
set_option maxHeartbeats 2000000 in
theorem spec_SpacesFor (A B : Option Addr) (c d : Nat) (f : List Srt) (ws : List ByteArray) (r : Rul) (m : Int) (lo hi lo' hi' : Nat) (w : World) (hl : f.length ≤ 1048577) (hb : ∀ s ∈ f, s.code.size ≤ 1048577) (hl' : ws.length ≤ 1048577) (hb' : ∀ s ∈ ws, s.size ≤ 1048577) (hr0 : RdS w lo hi A f) (hr0' : RdT w lo' hi' B ws) :
    Calls Try.prog 45 #[.slice A f.length c, .slice B ws.length d, .agg #[.int .i64 r.least, .int .i64 r.normal, .int .i64 r.most], .int .i64 m] w (RetI2 w (sfP f ws r m)) := by
  obtain ⟨o, ho⟩ : ∃ o : Obj, o = .cells #[.int .i64 r.least, .int .i64 r.normal, .int .i64 r.most] 59 := ⟨_, rfl⟩
  have hr := hr0.ext (Ext.alloc w (.cells #[.int .i64 r.least, .int .i64 r.normal, .int .i64 r.most] 59))
  have hr' := hr0'.ext (Ext.alloc w (.cells #[.int .i64 r.least, .int .i64 r.normal, .int .i64 r.most] 59))
  clear ho o
  cases h1 : font f
  · rw [sfP_bad (by simp [h1])]
    go_enter Try.func45, Try.ntmps45
    go_wp2_with (go_at_call 72; refine (spec_tyFont A c f lo hi _ hl hb hr).mono ?_; rintro e w1 ⟨rfl, hE1⟩; obtain ⟨hc1, hf1⟩ := bcell hE1; have hs1 := hE1.size; (try simp only [World.size_alloc] at hs1))
    go_ret2
    exact retI2_lit (by repeat (first | exact Ext.refl _ | assumption | refine Ext.trans ?_ (Ext.alloc _ _) | refine Ext.trans ?_ (Ext.drew _) | refine Ext.trans ?_ (Ext.drewN _ _) | refine Ext.trans ?_ (by assumption)))
  cases h2 : wordsOk ws
  · rw [sfP_words h2]
    go_enter Try.func45, Try.ntmps45
    go_wp2_with (first | (go_at_call 72; refine (spec_tyFont A c f lo hi _ hl hb hr).mono ?_; rintro e w1 ⟨rfl, hE1⟩; obtain ⟨hc1, hf1⟩ := bcell hE1; have hs1 := hE1.size; (try simp only [World.size_alloc] at hs1)) | (go_at_call 87; refine (spec_tyWords B d ws lo' hi' _ hl' hb' (hr'.ext hE1)).mono ?_; rintro e w' ⟨rfl, rfl⟩))
    go_ret2
    exact retI2_lit (by repeat (first | exact Ext.refl _ | assumption | refine Ext.trans ?_ (Ext.alloc _ _) | refine Ext.trans ?_ (Ext.drew _) | refine Ext.trans ?_ (Ext.drewN _ _) | refine Ext.trans ?_ (by assumption)))
  cases h3 : inB ws.length 1 20
  · rw [sfP_long h3]
    go_enter Try.func45, Try.ntmps45
    go_wp2_with (first | (go_at_call 72; refine (spec_tyFont A c f lo hi _ hl hb hr).mono ?_; rintro e w1 ⟨rfl, hE1⟩; obtain ⟨hc1, hf1⟩ := bcell hE1; have hs1 := hE1.size; (try simp only [World.size_alloc] at hs1)) | (go_at_call 87; refine (spec_tyWords B d ws lo' hi' _ hl' hb' (hr'.ext hE1)).mono ?_; rintro e w' ⟨rfl, rfl⟩) | (go_at_call 81; refine (l1In_any _ _ _ _).mono ?_; rintro e w' ⟨rfl, rfl⟩))
    go_ret2
    exact retI2_lit (by repeat (first | exact Ext.refl _ | assumption | refine Ext.trans ?_ (Ext.alloc _ _) | refine Ext.trans ?_ (Ext.drew _) | refine Ext.trans ?_ (Ext.drewN _ _) | refine Ext.trans ?_ (by assumption)))
  have hwl := wordsOk_len h2
  have h0 := fun W hf' => spec_juWidths A B c d f ws lo hi lo' hi' W h1 h2 (hr.ext hf') (hr'.ext hf')
  obtain ⟨P, hP⟩ : ∃ P, P = sfP f ws r m := ⟨_, rfl⟩
  rw [← hP]
  have hwa := wAll_of h1 h2
  cases h4 : ws.all (setOk f)
  · have HV : Hid (P = ([], false)) := by show _ = _; rw [hP]; exact sfP_bad (by rw [hwa, h4]; simp)
    rw [h4] at h0
    have H0 := Lib.hid h0
    clear h0 hP hwa h4
    go_enter Try.func45, Try.ntmps45
    go_wp2_with (first | (go_at_call 72; refine (spec_tyFont A c f lo hi _ hl hb hr).mono ?_; rintro e w1 ⟨rfl, hE1⟩; obtain ⟨hc1, hf1⟩ := bcell hE1; have hs1 := hE1.size; (try simp only [World.size_alloc] at hs1)) | (go_at_call 87; refine (spec_tyWords B d ws lo' hi' _ hl' hb' (hr'.ext hE1)).mono ?_; rintro e w' ⟨rfl, rfl⟩) | (go_at_call 81; refine (l1In_any _ _ _ _).mono ?_; rintro e w' ⟨rfl, rfl⟩))
    refine (H0.out _ hE1).mono ?_
    rintro e w5 ⟨A5, c5, rfl, hc5, hR5, hE5⟩
    go_wp2_with fail
    go_ret2
    rw [HV.out]
    exact retI2_lit (by repeat (first | exact Ext.refl _ | assumption | refine Ext.trans ?_ (Ext.alloc _ _) | refine Ext.trans ?_ (Ext.drew _) | refine Ext.trans ?_ (Ext.drewN _ _) | refine Ext.trans ?_ (by assumption)))
  · obtain ⟨L, hL⟩ : ∃ L, L = ws.map (wd f) := ⟨_, rfl⟩
    have hLl : L.length ≤ 40 := by rw [hL, List.length_map]; exact hwl
    have HV : Hid (P = jlP L r m) := by show _ = _; rw [hP, hL]; exact sfP_good h1 (by rw [hwa, h4])
    have h0' : ∀ W (hE : Ext _ W), Calls Try.prog 88 #[.slice A f.length c, .slice B ws.length d] W (RetI2 W (L, true)) := fun W hf' => by
      have h := h0 W hf'
      rw [h4, if_pos rfl, ← hL] at h
      exact h
    have H0 := Lib.hid h0'
    clear h0 h0' hP hwa h4 hL
    go_enter Try.func45, Try.ntmps45
    go_wp2_with (first | (go_at_call 72; refine (spec_tyFont A c f lo hi _ hl hb hr).mono ?_; rintro e w1 ⟨rfl, hE1⟩; obtain ⟨hc1, hf1⟩ := bcell hE1; have hs1 := hE1.size; (try simp only [World.size_alloc] at hs1)) | (go_at_call 87; refine (spec_tyWords B d ws lo' hi' _ hl' hb' (hr'.ext hE1)).mono ?_; rintro e w' ⟨rfl, rfl⟩) | (go_at_call 81; refine (l1In_any _ _ _ _).mono ?_; rintro e w' ⟨rfl, rfl⟩))
    refine (H0.out _ hE1).mono ?_
    rintro e w5 ⟨A5, c5, rfl, hc5, hR5, hE5⟩
    simp only at hc5 hR5
    have x0 := (hE1.trans hE5).cell (box_new (j := 0) (Ext.refl _) rfl)
    have x1 := (hE1.trans hE5).cell (box_new (j := 1) (Ext.refl _) rfl)
    have x2 := (hE1.trans hE5).cell (box_new (j := 2) (Ext.refl _) rfl)
    have hzz := World.block_lt_of_cell? w5 _ x0
    go_wp2_with fail
    refine (spec_JustifyLine A5 c5 _ L r m _ _ _ rfl (by omega) hR5).mono ?_
    rw [← HV.out]
    rintro e w6 ⟨A6, c6, rfl, hc6, hR6, hE6⟩
    go_wp2_with fail
    go_ret2
    exact ⟨A6, c6, rfl, hc6, hR6.wide (by omega) (Nat.le_refl _) (Nat.le_refl _), (((Ext.alloc _ _).trans hE1).trans hE5).trans hE6⟩
end Go.Proofs.Ytnkkpphjahpadaa
