/- The walks of the laws' own helpers over cut-ins. -/
import Derived.Test.YtllgjgoimnimaaaCutA
import Derived.Laws.MakeOwn
import Derived.Deep.RegionHeld3
namespace Go.Proofs.Ytllgjgoimnimaaa
open Go.RowKit

theorem sz_small (A : Option Addr) (n c : Nat) (w : World) (h : n ≤ 1048576) :
    Calls Try.prog 16 #[.slice A n c, .int .i64 1048576] w fun e w' => e = .returned (.int .i64 (1048576 - n)) ∧ w = w' := by
  go_enter Try.func16, Try.ntmps16
  go_wp2
  go_ret
  exact ⟨rfl, rfl⟩
theorem sz_big (A : Option Addr) (n c : Nat) (w : World) (hn : n ≤ 9223372036854775807) (h : 1048576 < n) :
    Calls Try.prog 16 #[.slice A n c, .int .i64 1048576] w fun e w' => e = .returned (.int .i64 (-1)) ∧ w = w' := by
  go_enter Try.func16, Try.ntmps16
  go_wp2
  go_ret
  exact ⟨rfl, rfl⟩

theorem toCutIn_any (x : Cut) (w : World) : Calls Try.prog 24 #[.agg #[.int .i64 x.line, .int .i64 x.lines, .int .i64 x.wide, .int .i64 x.side]] w fun e w' => e = .returned (.agg #[.int .i64 x.line, .int .i64 x.lines, .int .i64 x.wide, .int .i64 x.side]) ∧ Ext w w' := by
  go_enter Try.func24, Try.ntmps24
  go_wp2
  exact bodyPost_ret (v := .agg #[.int .i64 x.line, .int .i64 x.lines, .int .i64 x.wide, .int .i64 x.side]) (by simp [results, Try.results24, go_sem]) rfl ⟨rfl, (by repeat (first | exact Ext.refl _ | assumption | refine Ext.trans ?_ (Ext.alloc _ _) | refine Ext.trans ?_ (Ext.drew _) | refine Ext.trans ?_ (Ext.drewN _ _) | refine Ext.trans ?_ (by assumption)))⟩

theorem eqCutIn_same (x : Cut) (w : World) : Calls Try.prog 55 #[.agg #[.int .i64 x.line, .int .i64 x.lines, .int .i64 x.wide, .int .i64 x.side], .agg #[.int .i64 x.line, .int .i64 x.lines, .int .i64 x.wide, .int .i64 x.side]] w fun e w' => e = .returned (.bool true) ∧ Ext w w' := by
  go_enter Try.func55, Try.ntmps55
  go_wp2
  go_ret
  exact ⟨rfl, (by repeat (first | exact Ext.refl _ | assumption | refine Ext.trans ?_ (Ext.alloc _ _) | refine Ext.trans ?_ (Ext.drew _) | refine Ext.trans ?_ (Ext.drewN _ _) | refine Ext.trans ?_ (by assumption)))⟩

theorem cutInfo : (Try.prog.info? 38).map (fun i => (i.zero, i.size, i.bytes)) = some (some (.agg #[.int .i64 0, .int .i64 0, .int .i64 0, .int .i64 0]), 4, 32) := by kernel_rfl

/-- The first k elements of the block are those of l. -/
def Filled (cur : Array Value) (l : List Cut) (k : Nat) : Prop := cur.size = l.length * 4 ∧ ∀ (j : Nat) u, ((l.take k).flatMap Cut.enc)[j]? = some u → cur[j]? = some u
theorem Filled.full {cur : Array Value} {l : List Cut} (h : Filled cur l l.length) : ∀ (j : Nat) u, (l.flatMap Cut.enc)[j]? = some u → cur[j]? = some u := by
  have := h.2
  rwa [List.take_of_length_le (Nat.le_refl _)] at this
theorem Filled.zero {cur : Array Value} {l : List Cut} (h : cur.size = l.length * 4) : Filled cur l 0 := ⟨h, fun j u hu => by simp at hu⟩
theorem Filled.step {cur : Array Value} {l : List Cut} {k : Nat} {x : Cut} (h : Filled cur l k) (hx : l[k]? = some x) :
    Filled ((((cur.setIfInBounds (k * 4) (.int .i64 x.line)).setIfInBounds (k * 4 + 1) (.int .i64 x.lines)).setIfInBounds (k * 4 + 2) (.int .i64 x.wide)).setIfInBounds (k * 4 + 3) (.int .i64 x.side)) l (k + 1) := by
  have hk : k < l.length := (List.getElem?_eq_some_iff.1 hx).1
  obtain ⟨hs, hc⟩ := h
  refine ⟨by simpa using hs, fun j u hu => ?_⟩
  rw [take_snoc hx, List.flatMap_append] at hu
  have hl : ((l.take k).flatMap Cut.enc).length = k * 4 := by rw [len4, List.length_take]; omega
  simp only [Array.getElem?_setIfInBounds]
  by_cases hj : j < k * 4
  · rw [List.getElem?_append_left (by omega)] at hu
    rw [if_neg (by omega), if_neg (by omega), if_neg (by omega), if_neg (by omega)]
    exact hc j u hu
  · rw [List.getElem?_append_right (by omega), hl] at hu
    have hj2 : j - k * 4 < 4 := by
      have := (List.getElem?_eq_some_iff.1 hu).1
      simpa [Cut.enc] using this
    have : j = k * 4 ∨ j = k * 4 + 1 ∨ j = k * 4 + 2 ∨ j = k * 4 + 3 := by omega
    rcases this with rfl | rfl | rfl | rfl
    · rw [Nat.sub_self] at hu
      simp [Cut.enc] at hu
      simp [hu]; omega
    · rw [show k * 4 + 1 - k * 4 = 1 by omega] at hu
      simp [Cut.enc] at hu
      simp [hu]; omega
    · rw [show k * 4 + 2 - k * 4 = 2 by omega] at hu
      simp [Cut.enc] at hu
      simp [hu]; omega
    · rw [show k * 4 + 3 - k * 4 = 3 by omega] at hu
      simp [Cut.enc] at hu
      simp [hu]; omega

theorem toCutInS_any (A : Option Addr) (c : Nat) (l : List Cut) (lo hi : Nat) (w : World) (hl : l.length ≤ 1048577) (hr : RdA w lo hi A (l.flatMap Cut.enc)) :
    Calls Try.prog 18 #[.slice A l.length c] w fun e w' => ∃ g, e = .returned (.slice (some ⟨g, 0, none⟩) l.length l.length) ∧ RdC w' w.heap.size w'.heap.size (some ⟨g, 0, none⟩) l ∧ Ext w w' := by
  obtain ⟨i0, hi0, hz0, hz1, hz2⟩ := info_parts cutInfo
  have hmk := fun W => run_make_rowN (P := Try.prog) 28 38 i0 _ Try.underlying28 hi0 hz0 l.length l.length (Nat.le_refl _) (by rw [hz2]; omega) (by omega) W
  rw [hz1] at hmk
  generalize hcs : madeCells (Value.agg #[.int .i64 0, .int .i64 0, .int .i64 0, .int .i64 0]).cells (l.length * 4) = cs0 at hmk
  have hsz : cs0.size = l.length * 4 := by rw [← hcs, size_madeCells]
  have HSZ := Lib.hid hsz
  clear hcs hsz hi0 hz0 hz1 hz2
  go_enter Try.func18, Try.ntmps18
  go_wp2
  clear hmk
  go_loopw [4] (fun i wr => ∃ (k : Nat) (cur : Array Value), k ≤ l.length ∧ i = .int .i64 k ∧ Blk wr w.heap.size 38 cur ∧ Filled cur l k ∧ Ext w wr) (fun i _ => l.length - (intOf i).toNat)
  case atStart => exact ⟨0, cs0, Nat.zero_le _, rfl, Blk.new _ _ _, Filled.zero HSZ.out, (by repeat (first | exact Ext.refl _ | assumption | refine Ext.trans ?_ (Ext.alloc _ _) | refine Ext.trans ?_ (Ext.drew _) | refine Ext.trans ?_ (Ext.drewN _ _) | refine Ext.trans ?_ (by assumption)))⟩
  case round =>
    obtain ⟨k, cur, hk, rfl, hB, hF, hE⟩ := hrel
    by_cases hlt : k < l.length
    · obtain ⟨x, b, off, HX, rfl, h1, h2, h3, c0, c1, c2, c3⟩ := getC (hr.ext hE) hlt
      have hcs := hF.1
      have HCS := Lib.hid hcs
      obtain ⟨v0, hv0⟩ : ∃ v, cur[k * 4]? = some v := ⟨_, Array.getElem?_eq_getElem (by omega)⟩
      obtain ⟨v1, hv1⟩ : ∃ v, cur[k * 4 + 1]? = some v := ⟨_, Array.getElem?_eq_getElem (by omega)⟩
      obtain ⟨v2, hv2⟩ : ∃ v, cur[k * 4 + 2]? = some v := ⟨_, Array.getElem?_eq_getElem (by omega)⟩
      obtain ⟨v3, hv3⟩ : ∃ v, cur[k * 4 + 3]? = some v := ⟨_, Array.getElem?_eq_getElem (by omega)⟩
      have q0 := hB.cell hv0
      have q1 := hB.cell hv1
      have q2 := hB.cell hv2
      have q3 := hB.cell hv3
      have r0 := hB.frozen (k * 4)
      have r1 := hB.frozen (k * 4 + 1)
      have r2 := hB.frozen (k * 4 + 2)
      have r3 := hB.frozen (k * 4 + 3)
      have hgl := hB.lt
      clear hcs hv0 hv1 hv2 hv3
      go_wp2_with (go_at_call 24; refine (toCutIn_any x _).mono ?_; rintro e w1 ⟨rfl, hE1⟩; obtain ⟨hc1, hf1⟩ := bcell hE1; have hs1 := hE1.size; (try simp only [World.size_alloc] at hs1))
      go_roundw
      case rel => exact ⟨k + 1, _, by omega, by go_num, ((((hB.ext hE1).set_ _ _).set_ _ _).set_ _ _).set_ _ _, hF.step HX.out, Ext.setCell (Ext.setCell (Ext.setCell (Ext.setCell (hE.trans hE1) (Nat.le_refl _) _) (Nat.le_refl _) _) (Nat.le_refl _) _) (Nat.le_refl _) _⟩
      case measure => simp [intOf]; omega
    · have hkl : k = l.length := by omega
      subst hkl
      clear hlt
      go_wp2
      go_ret
      exact ⟨_, rfl, hB.rd (Nat.le_refl _) hF.full, hE⟩

theorem eqCutInS_same (A B : Option Addr) (c d : Nat) (l : List Cut) (lo hi lo' hi' : Nat) (w : World) (hl : l.length ≤ 1048577) (hr : RdC w lo hi A l) (hr' : RdC w lo' hi' B l) :
    Calls Try.prog 20 #[.slice A l.length c, .slice B l.length d] w fun e w' => e = .returned (.bool true) ∧ Ext w w' := by
  go_enter Try.func20, Try.ntmps20
  go_wp2
  go_loopw [5] (fun i wr => ∃ k : Nat, k ≤ l.length ∧ i = .int .i64 k ∧ Ext w wr) (fun i _ => l.length - (intOf i).toNat)
  case atStart => exact ⟨0, Nat.zero_le _, rfl, Ext.refl _⟩
  case round =>
    obtain ⟨k, hk, rfl, hE⟩ := hrel
    by_cases hlt : k < l.length
    · obtain ⟨x, b, off, HX, rfl, h1, h2, h3, c0, c1, c2, c3⟩ := RdC.get (hr.ext hE) hlt
      obtain ⟨x', b', off', HX', rfl, h1', h2', h3', d0, d1, d2, d3⟩ := RdC.get (hr'.ext hE) hlt
      obtain rfl : x = x' := by have := HX.out.symm.trans HX'.out; injection this
      have hi0 : (0 : Int) ≤ k := by omega
      have hi1 : (k : Int) < l.length := by omega
      have e0 : ∀ w', Ext wr w' → w'.cell? ⟨b, off + k * 4, none⟩ = _ := fun _ h => h.cell c0
      have e1 : ∀ w', Ext wr w' → w'.cell? ⟨b, off + k * 4 + 1, none⟩ = _ := fun _ h => h.cell c1
      have e2 : ∀ w', Ext wr w' → w'.cell? ⟨b, off + k * 4 + 2, none⟩ = _ := fun _ h => h.cell c2
      have e3 : ∀ w', Ext wr w' → w'.cell? ⟨b, off + k * 4 + 3, none⟩ = _ := fun _ h => h.cell c3
      have e4 : ∀ w', Ext wr w' → w'.cell? ⟨b', off' + k * 4, none⟩ = _ := fun _ h => h.cell d0
      have e5 : ∀ w', Ext wr w' → w'.cell? ⟨b', off' + k * 4 + 1, none⟩ = _ := fun _ h => h.cell d1
      have e6 : ∀ w', Ext wr w' → w'.cell? ⟨b', off' + k * 4 + 2, none⟩ = _ := fun _ h => h.cell d2
      have e7 : ∀ w', Ext wr w' → w'.cell? ⟨b', off' + k * 4 + 3, none⟩ = _ := fun _ h => h.cell d3
      go_wp2_with fail
      go_region_held3 (fun w' => Ext wr w') (exact (by repeat (first | exact Ext.refl _ | assumption | refine Ext.trans ?_ (Ext.alloc _ _) | refine Ext.trans ?_ (Ext.drew _) | refine Ext.trans ?_ (Ext.drewN _ _) | refine Ext.trans ?_ (by assumption))))
        (first | (go_at_call 55; refine (eqCutIn_same x _).mono ?_; rintro e w1 ⟨rfl, hE1⟩))
      go_wp2
      go_roundw
      case rel => exact ⟨k + 1, by omega, by go_num, (by repeat (first | exact Ext.refl _ | assumption | refine Ext.trans ?_ (Ext.alloc _ _) | refine Ext.trans ?_ (Ext.drew _) | refine Ext.trans ?_ (Ext.drewN _ _) | refine Ext.trans ?_ (by assumption)))⟩
      case measure => simp [intOf]; omega
    · go_wp2
      go_ret
      exact ⟨rfl, hE⟩
end Go.Proofs.Ytllgjgoimnimaaa
