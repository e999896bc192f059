/- The walks of the laws' own helpers over marks. -/
import Derived.Test.YtclcclhdmciggaaMkP
import Derived.Test.YtclcclhdmciggaaStr
import Derived.Test.YtclcclhdmciggaaXw
namespace Go.Proofs.Ytclcclhdmciggaa
open Go.RowKit
set_option linter.unusedVariables false
def Mrk.val (m : Mrk) : Value := .agg #[.int .i64 m.line, .int .i64 m.place, .int .i64 m.kind, .string m.text]
def mkTot (l : List Mrk) (k : Nat) : Nat := ((l.take k).map fun m => m.text.size).sum
theorem mkTot_succ {l : List Mrk} {k : Nat} {m : Mrk} (h : l[k]? = some m) : mkTot l (k + 1) = mkTot l k + m.text.size := by
  rw [mkTot, take_snoc h]; simp [mkTot]
theorem mkTot_mono (l : List Mrk) {k : Nat} : ∀ n, k ≤ n → n ≤ l.length → mkTot l k ≤ mkTot l n := by
  intro n hk
  induction n with
  | zero => intro _; rw [show k = 0 by omega]; exact Nat.le_refl _
  | succ n ih =>
    intro hn
    by_cases e : k = n + 1
    · subst e; exact Nat.le_refl _
    · obtain ⟨s, hs⟩ : ∃ s, l[n]? = some s := ⟨_, List.getElem?_eq_getElem (by omega)⟩
      rw [mkTot_succ hs]
      have := ih (by omega) (by omega)
      omega
def bulkM (l : List Mrk) : Nat := l.length + mkTot l l.length
theorem mark_le {l : List Mrk} {m : Mrk} (h : m ∈ l) : m.text.size ≤ mkTot l l.length := by
  obtain ⟨i, hi, rfl⟩ := List.mem_iff_getElem.1 h
  have h1 := mkTot_succ (List.getElem?_eq_getElem hi)
  have h2 := mkTot_mono l (k := i + 1) l.length (by omega) (Nat.le_refl _)
  omega
def szM (l : List Mrk) (left : Int) : Int := if (bulkM l : Int) ≤ left then left - bulkM l else -1
theorem szM_yes {l : List Mrk} {left : Int} (h : (bulkM l : Int) ≤ left) : szM l left = left - bulkM l := if_pos h
theorem szM_no {l : List Mrk} {left : Int} (h : ¬ (bulkM l : Int) ≤ left) : szM l left = -1 := if_neg h
theorem szMark_yes (m : Mrk) (left : Int) (w : World) (h0 : 0 ≤ left) (h1 : left ≤ 1048576) (h : (m.text.size : Int) ≤ left) :
    Calls Try.prog 10 #[.agg #[.int .i64 m.line, .int .i64 m.place, .int .i64 m.kind, .string m.text], .int .i64 left] w fun e w' => e = .returned (.int .i64 (left - m.text.size)) ∧ Ext w w' := by
  go_enter Try.func10, Try.ntmps10
  go_wp2
  go_ret
  exact ⟨rfl, (by repeat (first | exact Ext.refl _ | assumption | refine Ext.trans ?_ (Ext.alloc _ _) | refine Ext.trans ?_ (Ext.drew _) | refine Ext.trans ?_ (Ext.drewN _ _) | refine Ext.trans ?_ (by assumption)))⟩
theorem szMark_no (m : Mrk) (left : Int) (w : World) (h0 : 0 ≤ left) (h1 : left ≤ 1048576) (h2 : m.text.size ≤ maxLen) (h : left < (m.text.size : Int)) :
    Calls Try.prog 10 #[.agg #[.int .i64 m.line, .int .i64 m.place, .int .i64 m.kind, .string m.text], .int .i64 left] w fun e w' => e = .returned (.int .i64 (-1)) ∧ Ext w w' := by
  unfold maxLen at h2
  go_enter Try.func10, Try.ntmps10
  go_wp2
  go_ret
  exact ⟨rfl, (by repeat (first | exact Ext.refl _ | assumption | refine Ext.trans ?_ (Ext.alloc _ _) | refine Ext.trans ?_ (Ext.drew _) | refine Ext.trans ?_ (Ext.drewN _ _) | refine Ext.trans ?_ (by assumption)))⟩
theorem szMarkS_any (A : Option Addr) (c : Nat) (l : List Mrk) (lo hi : Nat) (left : Int) (w : World) (hl : l.length ≤ 9223372036854775807) (hb : ∀ m ∈ l, m.text.size ≤ maxLen) (h0 : 0 ≤ left) (h1 : left ≤ 1048576) (hr : RdA w lo hi A (l.flatMap Mrk.enc)) :
    Calls Try.prog 9 #[.slice A l.length c, .int .i64 left] w fun e w' => e = .returned (.int .i64 (szM l left)) ∧ Ext w w' := by
  have HB := Lib.hid hb; clear hb
  by_cases hlen : (l.length : Int) ≤ left
  case neg =>
    go_enter Try.func9, Try.ntmps9
    go_wp2
    go_ret
    exact ⟨ret_int (szM_no (by unfold bulkM; omega)).symm, (by repeat (first | exact Ext.refl _ | assumption | refine Ext.trans ?_ (Ext.alloc _ _) | refine Ext.trans ?_ (Ext.drew _) | refine Ext.trans ?_ (Ext.drewN _ _) | refine Ext.trans ?_ (by assumption)))⟩
  go_enter Try.func9, Try.ntmps9
  go_wp2
  go_loopw [1, 5] (fun s i wr => ∃ (k t : Nat), k ≤ l.length ∧ i = .int .i64 k ∧ s = .int .i64 (left - l.length - t) ∧ t = mkTot l k ∧ (l.length : Int) + t ≤ left ∧ Ext w wr) (fun _ i _ => l.length - (intOf i).toNat)
  case atStart => exact ⟨0, 0, Nat.zero_le _, rfl, by simp, by simp [mkTot], by omega, Ext.refl _⟩
  case round =>
    obtain ⟨k, t, hk, rfl, rfl, ht, htl, hE⟩ := hrel
    have HT := Lib.hid ht; clear ht
    by_cases hlt : k < l.length
    · obtain ⟨m, b, off, HX, rfl, h3, c0, c1, c2, c3⟩ := getM (hr.ext hE) hlt
      have hll := HB.out m (List.mem_of_getElem? HX.out)
      have hs := mkTot_succ HX.out
      have hm := mkTot_mono l (k := k + 1) l.length (by omega) (Nat.le_refl _)
      have HS := Lib.hid hs; have HM := Lib.hid hm
      clear hs hm
      by_cases hsm : (m.text.size : Int) ≤ left - l.length - t
      · go_wp2_with (go_at_call 10; refine (szMark_yes m _ _ (by omega) (by omega) hsm).mono ?_; rintro e w2 ⟨rfl, hE2⟩; obtain ⟨hc2, hf2⟩ := bcell hE2; have hs2 := hE2.size; (try simp only [World.size_alloc] at hs2))
        go_roundw
        case rel => exact ⟨k + 1, t + m.text.size, by omega, by go_num, val_int (by omega), by rw [HS.out, HT.out], by omega, (by repeat (first | exact Ext.refl _ | assumption | refine Ext.trans ?_ (Ext.alloc _ _) | refine Ext.trans ?_ (Ext.drew _) | refine Ext.trans ?_ (Ext.drewN _ _) | refine Ext.trans ?_ (by assumption)))⟩
        case measure => simp [intOf]; omega
      · go_wp2_with (go_at_call 10; refine (szMark_no m _ _ (by omega) (by omega) hll (by omega)).mono ?_; rintro e w2 ⟨rfl, hE2⟩; obtain ⟨hc2, hf2⟩ := bcell hE2; have hs2 := hE2.size; (try simp only [World.size_alloc] at hs2))
        go_ret
        have q1 := HS.out; have q2 := HM.out; have q3 := HT.out
        exact ⟨ret_int (szM_no (by unfold bulkM; omega)).symm, (by repeat (first | exact Ext.refl _ | assumption | refine Ext.trans ?_ (Ext.alloc _ _) | refine Ext.trans ?_ (Ext.drew _) | refine Ext.trans ?_ (Ext.drewN _ _) | refine Ext.trans ?_ (by assumption)))⟩
    · have hkl : k = l.length := by omega
      subst hkl
      clear hlt
      go_wp2
      go_ret
      have q3 := HT.out
      exact ⟨ret_int (by rw [szM_yes (by unfold bulkM; omega)]; unfold bulkM; omega), hE⟩
theorem toMark_any (x : Mrk) (w : World) : Calls Try.prog 14 #[.agg #[.int .i64 x.line, .int .i64 x.place, .int .i64 x.kind, .string x.text]] w fun e w' => e = .returned (.agg #[.int .i64 x.line, .int .i64 x.place, .int .i64 x.kind, .string x.text]) ∧ Ext w w' := by
  go_enter Try.func14, Try.ntmps14
  go_wp2
  exact bodyPost_ret (v := .agg #[.int .i64 x.line, .int .i64 x.place, .int .i64 x.kind, .string x.text]) (by simp [results, Try.results14, go_sem]) rfl ⟨rfl, (by repeat (first | exact Ext.refl _ | assumption | refine Ext.trans ?_ (Ext.alloc _ _) | refine Ext.trans ?_ (Ext.drew _) | refine Ext.trans ?_ (Ext.drewN _ _) | refine Ext.trans ?_ (by assumption)))⟩
theorem eqMark_same (x : Mrk) (w : World) : Calls Try.prog 33 #[.agg #[.int .i64 x.line, .int .i64 x.place, .int .i64 x.kind, .string x.text], .agg #[.int .i64 x.line, .int .i64 x.place, .int .i64 x.kind, .string x.text]] w fun e w' => e = .returned (.bool true) ∧ Ext w w' := by
  go_enter Try.func33, Try.ntmps33
  go_wp2
  go_ret
  exact ⟨rfl, (by repeat (first | exact Ext.refl _ | assumption | refine Ext.trans ?_ (Ext.alloc _ _) | refine Ext.trans ?_ (Ext.drew _) | refine Ext.trans ?_ (Ext.drewN _ _) | refine Ext.trans ?_ (by assumption)))⟩
theorem markInfo : (Try.prog.info? 34).map (fun i => (i.zero, i.size, i.bytes)) = some (some (.agg #[.int .i64 0, .int .i64 0, .int .i64 0, .string ByteArray.empty]), 4, 40) := by kernel_rfl
/-- The first k elements of the block are those of l. -/
def FilledM (cur : Array Value) (l : List Mrk) (k : Nat) : Prop := cur.size = l.length * 4 ∧ ∀ (j : Nat) u, ((l.take k).flatMap Mrk.enc)[j]? = some u → cur[j]? = some u
theorem FilledM.full {cur : Array Value} {l : List Mrk} (h : FilledM cur l l.length) : ∀ (j : Nat) u, (l.flatMap Mrk.enc)[j]? = some u → cur[j]? = some u := by
  have := h.2
  rwa [List.take_of_length_le (Nat.le_refl _)] at this
theorem FilledM.zero {cur : Array Value} {l : List Mrk} (h : cur.size = l.length * 4) : FilledM cur l 0 := ⟨h, fun j u hu => by simp at hu⟩
theorem FilledM.step {cur : Array Value} {l : List Mrk} {k : Nat} {x : Mrk} (h : FilledM cur l k) (hx : l[k]? = some x) :
    FilledM ((((cur.setIfInBounds (k * 4) (.int .i64 x.line)).setIfInBounds (k * 4 + 1) (.int .i64 x.place)).setIfInBounds (k * 4 + 2) (.int .i64 x.kind)).setIfInBounds (k * 4 + 3) (.string x.text)) l (k + 1) := by
  have hk : k < l.length := (List.getElem?_eq_some_iff.1 hx).1
  obtain ⟨hs, hc⟩ := h
  refine ⟨by simpa using hs, fun j u hu => ?_⟩
  rw [take_snoc hx, List.flatMap_append] at hu
  have hl : ((l.take k).flatMap Mrk.enc).length = k * 4 := by rw [lenM, List.length_take]; omega
  simp only [Array.getElem?_setIfInBounds]
  by_cases hj : j < k * 4
  · rw [List.getElem?_append_left (by omega)] at hu
    rw [if_neg (by omega), if_neg (by omega), if_neg (by omega), if_neg (by omega)]
    exact hc j u hu
  · rw [List.getElem?_append_right (by omega), hl] at hu
    have hj2 : j - k * 4 < 4 := by
      have := (List.getElem?_eq_some_iff.1 hu).1
      simpa [Mrk.enc] using this
    have : j = k * 4 ∨ j = k * 4 + 1 ∨ j = k * 4 + 2 ∨ j = k * 4 + 3 := by omega
    rcases this with rfl | rfl | rfl | rfl
    · rw [Nat.sub_self] at hu
      simp [Mrk.enc] at hu
      simp [hu]; omega
    · rw [show k * 4 + 1 - k * 4 = 1 by omega] at hu
      simp [Mrk.enc] at hu
      simp [hu]; omega
    · rw [show k * 4 + 2 - k * 4 = 2 by omega] at hu
      simp [Mrk.enc] at hu
      simp [hu]; omega
    · rw [show k * 4 + 3 - k * 4 = 3 by omega] at hu
      simp [Mrk.enc] at hu
      simp [hu]; omega
theorem toMarkS_any (A : Option Addr) (c : Nat) (l : List Mrk) (lo hi : Nat) (w : World) (hl : l.length ≤ 1048577) (hr : RdA w lo hi A (l.flatMap Mrk.enc)) :
    Calls Try.prog 13 #[.slice A l.length c] w fun e w' => ∃ g, e = .returned (.slice (some ⟨g, 0, none⟩) l.length l.length) ∧ RdM w' w.heap.size w'.heap.size (some ⟨g, 0, none⟩) l ∧ Ext w w' := by
  obtain ⟨i0, hi0, hz0, hz1, hz2⟩ := info_parts markInfo
  have hmk := fun W => run_make_rowN (P := Try.prog) 29 34 i0 _ Try.underlying29 hi0 hz0 l.length l.length (Nat.le_refl _) (by rw [hz2]; omega) (by omega) W
  rw [hz1] at hmk
  generalize hcs : madeCells (Value.agg #[.int .i64 0, .int .i64 0, .int .i64 0, .string ByteArray.empty]).cells (l.length * 4) = cs0 at hmk
  have hsz : cs0.size = l.length * 4 := by rw [← hcs, size_madeCells]
  have HSZ := Lib.hid hsz
  clear hcs hsz hi0 hz0 hz1 hz2
  go_enter Try.func13, Try.ntmps13
  go_wp2
  clear hmk
  go_loopw [4] (fun i wr => ∃ (k : Nat) (cur : Array Value), k ≤ l.length ∧ i = .int .i64 k ∧ Blk wr w.heap.size 34 cur ∧ FilledM cur l k ∧ Ext w wr) (fun i _ => l.length - (intOf i).toNat)
  case atStart => exact ⟨0, cs0, Nat.zero_le _, rfl, Blk.new _ _ _, FilledM.zero HSZ.out, (by repeat (first | exact Ext.refl _ | assumption | refine Ext.trans ?_ (Ext.alloc _ _) | refine Ext.trans ?_ (Ext.drew _) | refine Ext.trans ?_ (Ext.drewN _ _) | refine Ext.trans ?_ (by assumption)))⟩
  case round =>
    obtain ⟨k, cur, hk, rfl, hB, hF, hE⟩ := hrel
    by_cases hlt : k < l.length
    · obtain ⟨x, b, off, HX, rfl, h3, c0, c1, c2, c3⟩ := getM (hr.ext hE) hlt
      have hcs := hF.1
      have HCS := Lib.hid hcs
      obtain ⟨v0, hv0⟩ : ∃ v, cur[k * 4]? = some v := ⟨_, Array.getElem?_eq_getElem (by omega)⟩
      obtain ⟨v1, hv1⟩ : ∃ v, cur[k * 4 + 1]? = some v := ⟨_, Array.getElem?_eq_getElem (by omega)⟩
      obtain ⟨v2, hv2⟩ : ∃ v, cur[k * 4 + 2]? = some v := ⟨_, Array.getElem?_eq_getElem (by omega)⟩
      obtain ⟨v3, hv3⟩ : ∃ v, cur[k * 4 + 3]? = some v := ⟨_, Array.getElem?_eq_getElem (by omega)⟩
      have q0 := hB.cell hv0
      have q1 := hB.cell hv1
      have q2 := hB.cell hv2
      have q3 := hB.cell hv3
      have r0 := hB.frozen (k * 4)
      have r1 := hB.frozen (k * 4 + 1)
      have r2 := hB.frozen (k * 4 + 2)
      have r3 := hB.frozen (k * 4 + 3)
      have hgl := hB.lt
      clear hcs hv0 hv1 hv2 hv3
      go_wp2_with (go_at_call 14; refine (toMark_any x _).mono ?_; rintro e w1 ⟨rfl, hE1⟩; obtain ⟨hc1, hf1⟩ := bcell hE1; have hs1 := hE1.size; (try simp only [World.size_alloc] at hs1))
      go_roundw
      case rel => exact ⟨k + 1, _, by omega, by go_num, ((((hB.ext hE1).set_ _ _).set_ _ _).set_ _ _).set_ _ _, hF.step HX.out, Ext.setCell (Ext.setCell (Ext.setCell (Ext.setCell (hE.trans hE1) (Nat.le_refl _) _) (Nat.le_refl _) _) (Nat.le_refl _) _) (Nat.le_refl _) _⟩
      case measure => simp [intOf]; omega
    · have hkl : k = l.length := by omega
      subst hkl
      clear hlt
      go_wp2
      go_ret
      exact ⟨_, rfl, hB.rd (Nat.le_refl _) hF.full, hE⟩
theorem eqMarkS_same (A B : Option Addr) (c d : Nat) (l : List Mrk) (lo hi lo' hi' : Nat) (w : World) (hl : l.length ≤ 4611686018427387904) (hr : RdM w lo hi A l) (hr' : RdM w lo' hi' B l) :
    Calls Try.prog 16 #[.slice A l.length c, .slice B l.length d] w fun e w' => e = .returned (.bool true) ∧ Ext w w' := by
  go_enter Try.func16, Try.ntmps16
  go_wp2
  go_loopw [5] (fun i wr => ∃ k : Nat, k ≤ l.length ∧ i = .int .i64 k ∧ Ext w wr) (fun i _ => l.length - (intOf i).toNat)
  case atStart => exact ⟨0, Nat.zero_le _, rfl, Ext.refl _⟩
  case round =>
    obtain ⟨k, hk, rfl, hE⟩ := hrel
    by_cases hlt : k < l.length
    · obtain ⟨x, b, off, HX, rfl, h3, c0, c1, c2, c3⟩ := RdM.get (hr.ext hE) hlt
      obtain ⟨x', b', off', HX', rfl, h3', d0, d1, d2, d3⟩ := RdM.get (hr'.ext hE) hlt
      obtain rfl : x = x' := by have := HX.out.symm.trans HX'.out; injection this
      have hi0 : (0 : Int) ≤ k := by omega
      have hi1 : (k : Int) < l.length := by omega
      have e0 : ∀ y : XW wr, y.v.cell? ⟨b, off + k * 4, none⟩ = _ := fun y => y.h.cell c0
      have e1 : ∀ y : XW wr, y.v.cell? ⟨b, off + k * 4 + 1, none⟩ = _ := fun y => y.h.cell c1
      have e2 : ∀ y : XW wr, y.v.cell? ⟨b, off + k * 4 + 2, none⟩ = _ := fun y => y.h.cell c2
      have e3 : ∀ y : XW wr, y.v.cell? ⟨b, off + k * 4 + 3, none⟩ = _ := fun y => y.h.cell c3
      have e4 : ∀ y : XW wr, y.v.cell? ⟨b', off' + k * 4, none⟩ = _ := fun y => y.h.cell d0
      have e5 : ∀ y : XW wr, y.v.cell? ⟨b', off' + k * 4 + 1, none⟩ = _ := fun y => y.h.cell d1
      have e6 : ∀ y : XW wr, y.v.cell? ⟨b', off' + k * 4 + 2, none⟩ = _ := fun y => y.h.cell d2
      have e7 : ∀ y : XW wr, y.v.cell? ⟨b', off' + k * 4 + 3, none⟩ = _ := fun y => y.h.cell d3
      go_wp2_with fail
      refine wp_region_xw (w0 := wr) (by kernel_rfl) (by kernel_rfl) (by repeat (first | exact Ext.refl _ | assumption | refine Ext.trans ?_ (Ext.alloc _ _) | refine Ext.trans ?_ (Ext.drew _) | refine Ext.trans ?_ (Ext.drewN _ _) | refine Ext.trans ?_ (by assumption))) ?_; (repeat (go_big_quiet_step ((go_at_call 33; exact XW.call (eqMark_same x _))))); refine wpQuiet_nil ?_; intro _ hw'; obtain ⟨⟨w1, hEw1⟩, hw''⟩ := hw'; subst hw''
      clear e0 e1 e2 e3 e4 e5 e6 e7
      go_wp2
      go_roundw
      case rel => exact ⟨k + 1, by omega, by go_num, (by repeat (first | exact Ext.refl _ | assumption | refine Ext.trans ?_ (Ext.alloc _ _) | refine Ext.trans ?_ (Ext.drew _) | refine Ext.trans ?_ (Ext.drewN _ _) | refine Ext.trans ?_ (by assumption)))⟩
      case measure => simp [intOf]; omega
    · go_wp2
      go_ret
      exact ⟨rfl, hE⟩
end Go.Proofs.Ytclcclhdmciggaa
