/- The walks of the laws' own helpers over cut-ins. -/
import Derived.Test.YtllgjgoimnimaaaCutA
import Derived.Laws.MakeOwn
import Derived.Deep.RegionHeld3
namespace Go.Proofs.Ytllgjgoimnimaaa
open Go.RowKit
set_option linter.unusedVariables false

theorem szCutInS_small (A : Option Addr) (n c : Nat) (left : Int) (w : World) (h : (n : Int) ≤ left) (h0 : 0 ≤ left) (h1 : left ≤ 1048576) :
    Calls Try.prog 16 #[.slice A n c, .int .i64 left] w fun e w' => e = .returned (.int .i64 (left - n)) ∧ w = w' := by
  go_enter Try.func16, Try.ntmps16
  go_wp2
  go_ret
  exact ⟨rfl, rfl⟩
theorem szCutInS_big (A : Option Addr) (n c : Nat) (left : Int) (w : World) (hn : n ≤ 9223372036854775807) (h : left < n) (h0 : 0 ≤ left) (h1 : left ≤ 1048576) :
    Calls Try.prog 16 #[.slice A n c, .int .i64 left] w fun e w' => e = .returned (.int .i64 (-1)) ∧ w = w' := by
  go_enter Try.func16, Try.ntmps16
  go_wp2
  go_ret
  exact ⟨rfl, rfl⟩

theorem toCutIn_any (x : Cut) (w : World) : Calls Try.prog 24 #[.agg #[.int .i64 x.line, .int .i64 x.lines, .int .i64 x.wide, .int .i64 x.side]] w fun e w' => e = .returned (.agg #[.int .i64 x.line, .int .i64 x.lines, .int .i64 x.wide, .int .i64 x.side]) ∧ Ext w w' := by
  go_enter Try.func24, Try.ntmps24
  go_wp2
  exact bodyPost_ret (v := .agg #[.int .i64 x.line, .int .i64 x.lines, .int .i64 x.wide, .int .i64 x.side]) (by simp [results, Try.results24, go_sem]) rfl ⟨rfl, (by repeat (first | exact Ext.refl _ | assumption | refine Ext.trans ?_ (Ext.alloc _ _) | refine Ext.trans ?_ (Ext.drew _) | refine Ext.trans ?_ (Ext.drewN _ _) | refine Ext.trans ?_ (by assumption)))⟩

theorem eqCutIn_same (x : Cut) (w : World) : Calls Try.prog 55 #[.agg #[.int .i64 x.line, .int .i64 x.lines, .int .i64 x.wide, .int .i64 x.side], .agg #[.int .i64 x.line, .int .i64 x.lines, .int .i64 x.wide, .int .i64 x.side]] w fun e w' => e = .returned (.bool true) ∧ Ext w w' := by
  go_enter Try.func55, Try.ntmps55
  go_wp2
  go_ret
  exact ⟨rfl, (by repeat (first | exact Ext.refl _ | assumption | refine Ext.trans ?_ (Ext.alloc _ _) | refine Ext.trans ?_ (Ext.drew _) | refine Ext.trans ?_ (Ext.drewN _ _) | refine Ext.trans ?_ (by assumption)))⟩

theorem cutInfo : (Try.prog.info? 38).map (fun i => (i.zero, i.size, i.bytes)) = some (some (.agg #[.int .i64 0, .int .i64 0, .int .i64 0, .int .i64 0]), 4, 32) := by kernel_rfl

/-- The first k elements of the block are those of l. -/
def Filled (cur : Array Value) (l : List Cut) (k : Nat) : Prop := cur.size = l.length * 4 ∧ ∀ (j : Nat) u, ((l.take k).flatMap Cut.enc)[j]? = some u → cur[j]? = some u
theorem Filled.full {cur : Array Value} {l : List Cut} (h : Filled cur l l.length) : ∀ (j : Nat) u, (l.flatMap Cut.enc)[j]? = some u → cur[j]? = some u := by
  have := h.2
  rwa [List.take_of_length_le (Nat.le_refl _)] at this
theorem Filled.zero {cur : Array Value} {l : List Cut} (h : cur.size = l.length * 4) : Filled cur l 0 := ⟨h, fun j u hu => by simp at hu⟩
theorem Filled.step {cur : Array Value} {l : List Cut} {k : Nat} {x : Cut} (h : Filled cur l k) (hx : l[k]? = some x) :
    Filled ((((cur.setIfInBounds (k * 4) (.int .i64 x.line)).setIfInBounds (k * 4 + 1) (.int .i64 x.lines)).setIfInBounds (k * 4 + 2) (.int .i64 x.wide)).setIfInBounds (k * 4 + 3) (.int .i64 x.side)) l (k + 1) := by
  have hk : k < l.length := (List.getElem?_eq_some_iff.1 hx).1
  obtain ⟨hs, hc⟩ := h
  refine ⟨by simpa using hs, fun j u hu => ?_⟩
  rw [take_snoc hx, List.flatMap_append] at hu
  have hl : ((l.take k).flatMap Cut.enc).length = k * 4 := by rw [len4, List.length_take]; omega
  simp only [Array.getElem?_setIfInBounds]
  by_cases hj : j < k * 4
  · rw [List.getElem?_append_left (by omega)] at hu
    rw [if_neg (by omega), if_neg (by omega), if_neg (by omega), if_neg (by omega)]
    exact hc j u hu
  · rw [List.getElem?_append_right (by omega), hl] at hu
    have hj2 : j - k * 4 < 4 := by
      have := (List.getElem?_eq_some_iff.1 hu).1
      simpa [Cut.enc] using this
    have : j = k * 4 ∨ j = k * 4 + 1 ∨ j = k * 4 + 2 ∨ j = k * 4 + 3 := by omega
    rcases this with rfl | rfl | rfl | rfl
    · rw [Nat.sub_self] at hu
      simp [Cut.enc] at hu
      simp [hu]; omega
    · rw [show k * 4 + 1 - k * 4 = 1 by omega] at hu
      simp [Cut.enc] at hu
      simp [hu]; omega
    · rw [show k * 4 + 2 - k * 4 = 2 by omega] at hu
      simp [Cut.enc] at hu
      simp [hu]; omega
    · rw [show k * 4 + 3 - k * 4 = 3 by omega] at hu
      simp [Cut.enc] at hu
      simp [hu]; omega

theorem toCutInS_any (A : Option Addr) (c : Nat) (l : List Cut) (lo hi : Nat) (w : World) (hl : l.length ≤ 1048577) (hr : RdA w lo hi A (l.flatMap Cut.enc)) :
    Calls Try.prog 18 #[.slice A l.length c] w fun e w' => ∃ g, e = .returned (.slice (some ⟨g, 0, none⟩) l.length l.length) ∧ RdC w' w.heap.size w'.heap.size (some ⟨g, 0, none⟩) l ∧ Ext w w' := by
  obtain ⟨i0, hi0, hz0, hz1, hz2⟩ := info_parts cutInfo
  have hmk := fun W => run_make_rowN (P := Try.prog) 28 38 i0 _ Try.underlying28 hi0 hz0 l.length l.length (Nat.le_refl _) (by rw [hz2]; omega) (by omega) W
  rw [hz1] at hmk
  generalize hcs : madeCells (Value.agg #[.int .i64 0, .int .i64 0, .int .i64 0, .int .i64 0]).cells (l.length * 4) = cs0 at hmk
  have hsz : cs0.size = l.length * 4 := by rw [← hcs, size_madeCells]
  have HSZ := Lib.hid hsz
  clear hcs hsz hi0 hz0 hz1 hz2
  go_enter Try.func18, Try.ntmps18
  go_wp2
  clear hmk
  go_loopw [4] (fun i wr => ∃ (k : Nat) (cur : Array Value), k ≤ l.length ∧ i = .int .i64 k ∧ Blk wr w.heap.size 38 cur ∧ Filled cur l k ∧ Ext w wr) (fun i _ => l.length - (intOf i).toNat)
  case atStart => exact ⟨0, cs0, Nat.zero_le _, rfl, Blk.new _ _ _, Filled.zero HSZ.out, (by repeat (first | exact Ext.refl _ | assumption | refine Ext.trans ?_ (Ext.alloc _ _) | refine Ext.trans ?_ (Ext.drew _) | refine Ext.trans ?_ (Ext.drewN _ _) | refine Ext.trans ?_ (by assumption)))⟩
  case round =>
    obtain ⟨k, cur, hk, rfl, hB, hF, hE⟩ := hrel
    by_cases hlt : k < l.length
    · obtain ⟨x, b, off, HX, rfl, h1, h2, h3, c0, c1, c2, c3⟩ := getC (hr.ext hE) hlt
      have hcs := hF.1
      have HCS := Lib.hid hcs
      obtain ⟨v0, hv0⟩ : ∃ v, cur[k * 4]? = some v := ⟨_, Array.getElem?_eq_getElem (by omega)⟩
      obtain ⟨v1, hv1⟩ : ∃ v, cur[k * 4 + 1]? = some v := ⟨_, Array.getElem?_eq_getElem (by omega)⟩
      obtain ⟨v2, hv2⟩ : ∃ v, cur[k * 4 + 2]? = some v := ⟨_, Array.getElem?_eq_getElem (by omega)⟩
      obtain ⟨v3, hv3⟩ : ∃ v, cur[k * 4 + 3]? = some v := ⟨_, Array.getElem?_eq_getElem (by omega)⟩
      have q0 := hB.cell hv0
      have q1 := hB.cell hv1
      have q2 := hB.cell hv2
      have q3 := hB.cell hv3
      have r0 := hB.frozen (k * 4)
      have r1 := hB.frozen (k * 4 + 1)
      have r2 := hB.frozen (k * 4 + 2)
      have r3 := hB.frozen (k * 4 + 3)
      have hgl := hB.lt
      clear hcs hv0 hv1 hv2 hv3
      go_wp2_with (go_at_call 24; refine (toCutIn_any x _).mono ?_; rintro e w1 ⟨rfl, hE1⟩; obtain ⟨hc1, hf1⟩ := bcell hE1; have hs1 := hE1.size; (try simp only [World.size_alloc] at hs1))
      go_roundw
      case rel => exact ⟨k + 1, _, by omega, by go_num, ((((hB.ext hE1).set_ _ _).set_ _ _).set_ _ _).set_ _ _, hF.step HX.out, Ext.setCell (Ext.setCell (Ext.setCell (Ext.setCell (hE.trans hE1) (Nat.le_refl _) _) (Nat.le_refl _) _) (Nat.le_refl _) _) (Nat.le_refl _) _⟩
      case measure => simp [intOf]; omega
    · have hkl : k = l.length := by omega
      subst hkl
      clear hlt
      go_wp2
      go_ret
      exact ⟨_, rfl, hB.rd (Nat.le_refl _) hF.full, hE⟩

theorem eqCutInS_same (A B : Option Addr) (c d : Nat) (l : List Cut) (lo hi lo' hi' : Nat) (w : World) (hl : l.length ≤ 4611686018427387904) (hr : RdC w lo hi A l) (hr' : RdC w lo' hi' B l) :
    Calls Try.prog 20 #[.slice A l.length c, .slice B l.length d] w fun e w' => e = .returned (.bool true) ∧ Ext w w' := by
  go_enter Try.func20, Try.ntmps20
  go_wp2
  go_loopw [5] (fun i wr => ∃ k : Nat, k ≤ l.length ∧ i = .int .i64 k ∧ Ext w wr) (fun i _ => l.length - (intOf i).toNat)
  case atStart => exact ⟨0, Nat.zero_le _, rfl, Ext.refl _⟩
  case round =>
    obtain ⟨k, hk, rfl, hE⟩ := hrel
    by_cases hlt : k < l.length
    · obtain ⟨x, b, off, HX, rfl, h1, h2, h3, c0, c1, c2, c3⟩ := RdC.get (hr.ext hE) hlt
      obtain ⟨x', b', off', HX', rfl, h1', h2', h3', d0, d1, d2, d3⟩ := RdC.get (hr'.ext hE) hlt
      obtain rfl : x = x' := by have := HX.out.symm.trans HX'.out; injection this
      have hi0 : (0 : Int) ≤ k := by omega
      have hi1 : (k : Int) < l.length := by omega
      have e0 : ∀ w', Ext wr w' → w'.cell? ⟨b, off + k * 4, none⟩ = _ := fun _ h => h.cell c0
      have e1 : ∀ w', Ext wr w' → w'.cell? ⟨b, off + k * 4 + 1, none⟩ = _ := fun _ h => h.cell c1
      have e2 : ∀ w', Ext wr w' → w'.cell? ⟨b, off + k * 4 + 2, none⟩ = _ := fun _ h => h.cell c2
      have e3 : ∀ w', Ext wr w' → w'.cell? ⟨b, off + k * 4 + 3, none⟩ = _ := fun _ h => h.cell c3
      have e4 : ∀ w', Ext wr w' → w'.cell? ⟨b', off' + k * 4, none⟩ = _ := fun _ h => h.cell d0
      have e5 : ∀ w', Ext wr w' → w'.cell? ⟨b', off' + k * 4 + 1, none⟩ = _ := fun _ h => h.cell d1
      have e6 : ∀ w', Ext wr w' → w'.cell? ⟨b', off' + k * 4 + 2, none⟩ = _ := fun _ h => h.cell d2
      have e7 : ∀ w', Ext wr w' → w'.cell? ⟨b', off' + k * 4 + 3, none⟩ = _ := fun _ h => h.cell d3
      go_wp2_with fail
      go_region_held3 (fun w' => Ext wr w') (exact (by repeat (first | exact Ext.refl _ | assumption | refine Ext.trans ?_ (Ext.alloc _ _) | refine Ext.trans ?_ (Ext.drew _) | refine Ext.trans ?_ (Ext.drewN _ _) | refine Ext.trans ?_ (by assumption))))
        (first | (go_at_call 55; refine (eqCutIn_same x _).mono ?_; rintro e w1 ⟨rfl, hE1⟩))
      go_wp2
      go_roundw
      case rel => exact ⟨k + 1, by omega, by go_num, (by repeat (first | exact Ext.refl _ | assumption | refine Ext.trans ?_ (Ext.alloc _ _) | refine Ext.trans ?_ (Ext.drew _) | refine Ext.trans ?_ (Ext.drewN _ _) | refine Ext.trans ?_ (by assumption)))⟩
      case measure => simp [intOf]; omega
    · go_wp2
      go_ret
      exact ⟨rfl, hE⟩

theorem RdC.ints {w : World} {lo hi : Nat} {A : Option Addr} {l : List Cut} (h : RdC w lo hi A l) : ∃ xs : List Int, xs.length = l.length * 4 ∧ RdI w lo hi A xs := by
  refine ⟨l.flatMap fun x => [x.line, x.lines, x.wide, x.side], ?_, ?_⟩
  · have := len4 l
    rw [← this]
    have e : l.flatMap Cut.enc = (l.flatMap fun x => [x.line, x.lines, x.wide, x.side]).map (Value.int .i64) := by rw [List.map_flatMap]; rfl
    rw [e, List.length_map]
  · unfold RdI
    rw [List.map_flatMap]
    exact h
theorem markCutInS_any (A : Option Addr) (c n : Nat) (xs : List Int) (k : Int) (lo hi : Nat) (w : World) (hx : xs.length = n * 4) (hl : n ≤ 1152921504606846976) (hk0 : 0 ≤ k) (hk1 : k ≤ 1152921504606846976) (hr : RdI w lo hi A xs) :
    Calls Try.prog 32 #[.slice A n c, .int .i64 k] w fun e w' => e = .returned (.int .i64 (k + n * 4)) ∧ RdI w' lo hi A (marksI k (n * 4)) ∧ Out lo hi w w' := by
  have HN := Lib.hid hx; clear hx
  go_enter Try.func32, Try.ntmps32
  go_wp2
  go_loopw [1, 5] (fun kk i wr => ∃ (j : Nat) (ls : List Int), j ≤ n ∧ i = .int .i64 j ∧ kk = .int .i64 (k + j * 4) ∧ ls.length = n * 4 ∧ (∀ i : Nat, i < j * 4 → ls[i]? = some (k + i)) ∧ RdI wr lo hi A ls ∧ Out lo hi w wr) (fun _ i _ => n - (intOf i).toNat)
  case atStart => exact ⟨0, xs, Nat.zero_le _, rfl, by simp, HN.out, fun i hi => absurd hi (by omega), hr, Out.refl _ _ _⟩
  case round =>
    obtain ⟨j, ls, hj, rfl, rfl, hls, hm, hR, hO⟩ := hrel
    have HLS := Lib.hid hls
    have HM := Lib.hid hm; clear hm
    by_cases hlt : j < n
    · obtain ⟨x, b, off, HX, rfl, h1, h2, h3, c0, f0⟩ := RdI.get hR (k := j * 4) (by omega)
      obtain ⟨x1, b', off', HX1, eA, _, _, _, c1, f1⟩ := RdI.get hR (k := j * 4 + 1) (by omega)
      injection eA with eA; injection eA with eb eo _; subst eb; subst eo
      obtain ⟨x2, b', off', HX2, eA, _, _, _, c2, f2⟩ := RdI.get hR (k := j * 4 + 2) (by omega)
      injection eA with eA; injection eA with eb eo _; subst eb; subst eo
      obtain ⟨x3, b', off', HX3, eA, _, _, _, c3, f3⟩ := RdI.get hR (k := j * 4 + 3) (by omega)
      injection eA with eA; injection eA with eb eo _; subst eb; subst eo
      clear hls
      rw [← Nat.add_assoc] at c1 c2 c3 f1 f2 f3
      go_wp2
      go_roundw
      case rel =>
        have r1 := Rd.set_ (Rd.set_ (Rd.set_ (Rd.set_ hR (j * 4) (.int .i64 (k + j * 4))) (j * 4 + 1) (.int .i64 (k + j * 4 + 1))) (j * 4 + 2) (.int .i64 (k + j * 4 + 1 + 1))) (j * 4 + 3) (.int .i64 (k + j * 4 + 1 + 1 + 1))
        simp only [← Nat.add_assoc] at r1
        simp only [← List.map_set] at r1
        refine ⟨j + 1, (((ls.set (j * 4) (k + j * 4)).set (j * 4 + 1) (k + j * 4 + 1)).set (j * 4 + 2) (k + j * 4 + 1 + 1)).set (j * 4 + 3) (k + j * 4 + 1 + 1 + 1), by omega, by go_num, val_int (by omega), by simp only [List.length_set]; exact HLS.out, fun i hi => ?_, ?_, (((hO.setCell (.inl ⟨h1, h2⟩) _).setCell (.inl ⟨h1, h2⟩) _).setCell (.inl ⟨h1, h2⟩) _).setCell (.inl ⟨h1, h2⟩) _⟩
        · have hq := HLS.out
          simp only [List.getElem?_set, List.length_set]
          by_cases h4 : i < j * 4
          · rw [if_neg (by omega), if_neg (by omega), if_neg (by omega), if_neg (by omega)]; exact HM.out i h4
          · have : i = j * 4 ∨ i = j * 4 + 1 ∨ i = j * 4 + 2 ∨ i = j * 4 + 3 := by omega
            rcases this with rfl | rfl | rfl | rfl
            · rw [if_neg (by omega), if_neg (by omega), if_neg (by omega), if_pos rfl, if_pos (by omega)]; exact congrArg some (by omega)
            · rw [if_neg (by omega), if_neg (by omega), if_pos rfl, if_pos (by omega)]; exact congrArg some (by omega)
            · rw [if_neg (by omega), if_pos rfl, if_pos (by omega)]; exact congrArg some (by omega)
            · rw [if_pos rfl, if_pos (by omega)]; exact congrArg some (by omega)
        · exact r1
      case measure => simp [intOf]; omega
    · have hjl : j = n := by omega
      subst hjl
      clear hls hlt
      go_wp2
      go_ret
      refine ⟨rfl, ?_, hO⟩
      have e := marksI_of (k := k) (l := ls) (fun i hi => HM.out i (by have := HLS.out; omega))
      rw [HLS.out] at e
      rw [← e]
      exact hR

theorem heldCutInS_any (A : Option Addr) (c : Nat) (n : Nat) (k : Int) (lo hi : Nat) (w : World) (hl : n ≤ 1152921504606846976) (hk0 : 0 ≤ k) (hk1 : k ≤ 1152921504606846976) (hr : RdI w lo hi A (marksI k (n * 4))) :
    Calls Try.prog 33 #[.slice A n c, .int .i64 k] w fun e w' => e = .returned (.int .i64 (k + n * 4)) ∧ w = w' := by
  go_enter Try.func33, Try.ntmps33
  go_wp2
  go_loop [1, 5] (fun kk i => ∃ j : Nat, j ≤ n ∧ i = .int .i64 j ∧ kk = .int .i64 (k + j * 4)) (fun _ i => n - (intOf i).toNat)
  case atStart => exact ⟨0, Nat.zero_le _, rfl, by simp⟩
  case round =>
    obtain ⟨j, hj, rfl, rfl⟩ := hrel
    by_cases hlt : j < n
    · obtain ⟨x, b, off, HX, rfl, h1, h2, h3, c0, _⟩ := RdI.get hr (k := j * 4) (by rw [marksI_len]; omega)
      obtain rfl := marksI_at HX.out
      obtain ⟨x1, b', off', HX1, eA, _, _, _, c1, _⟩ := RdI.get hr (k := j * 4 + 1) (by rw [marksI_len]; omega)
      injection eA with eA; injection eA with eb eo _; subst eb; subst eo
      obtain rfl := marksI_at HX1.out
      obtain ⟨x2, b', off', HX2, eA, _, _, _, c2, _⟩ := RdI.get hr (k := j * 4 + 2) (by rw [marksI_len]; omega)
      injection eA with eA; injection eA with eb eo _; subst eb; subst eo
      obtain rfl := marksI_at HX2.out
      obtain ⟨x3, b', off', HX3, eA, _, _, _, c3, _⟩ := RdI.get hr (k := j * 4 + 3) (by rw [marksI_len]; omega)
      injection eA with eA; injection eA with eb eo _; subst eb; subst eo
      obtain rfl := marksI_at HX3.out
      clear HX HX1 HX2 HX3
      rw [← Nat.add_assoc] at c1 c2 c3
      simp only [Int.natCast_add, Int.natCast_mul, ← Int.add_assoc] at c0 c1 c2 c3
      go_wp2
      go_round
      case rel => exact ⟨j + 1, by omega, by go_num, val_int (by omega)⟩
      case measure => simp [intOf]; omega
    · have hjl : j = n := by omega
      subst hjl
      clear hlt
      go_wp2
      go_ret
      exact ⟨rfl, rfl⟩
end Go.Proofs.Ytllgjgoimnimaaa
