/- The walks of the laws' helpers over slices of strings. -/
import Derived.Test.YtnkkpphjahpadaaProg
import Derived.Test.YtnkkpphjahpadaaFill
import Derived.Outline
import Derived.Deep.RegionHeld3
namespace Go.Proofs.Ytnkkpphjahpadaa
open Go.RowKit
set_option linter.unusedVariables false
/-- A slice of strings. -/
def RdT (w : World) (lo hi : Nat) (A : Option Addr) (l : List ByteArray) : Prop := Rd w lo hi A (l.map Value.string)
section
variable {w w' : World} {lo hi : Nat} {A : Option Addr} {l : List ByteArray}
theorem RdT.ext (h : RdT w lo hi A l) (hb : Ext w w') : RdT w' lo hi A l := Rd.ext h hb
theorem RdT.out {lo' hi' : Nat} (h : RdT w lo hi A l) (ho : Out lo' hi' w w') (hd : hi ≤ lo' ∨ hi' ≤ lo) : RdT w' lo hi A l := Rd.out h ho hd
theorem getT (h : RdA w lo hi A (l.map Value.string)) {k : Nat} (hk : k < l.length) :
    ∃ s b off, Hid (l[k]? = some s) ∧ A = some ⟨b, off, none⟩ ∧ b < w.heap.size ∧ w.cell? ⟨b, off + k, none⟩ = some (.string s) := by
  obtain ⟨b, off, e, _, _, h3, hc⟩ := h.at_ (k := k) (by simpa using hk)
  exact ⟨l[k], b, off, List.getElem?_eq_getElem hk, e, h3, hc k _ (by rw [List.getElem?_map, List.getElem?_eq_getElem hk]; rfl)⟩
theorem RdT.get (h : RdT w lo hi A l) {k : Nat} (hk : k < l.length) :
    ∃ s b off, Hid (l[k]? = some s) ∧ A = some ⟨b, off, none⟩ ∧ b < w.heap.size ∧ w.cell? ⟨b, off + k, none⟩ = some (.string s) := getT (Rd.toA h) hk
end
def strTot (l : List ByteArray) (k : Nat) : Nat := ((l.take k).map ByteArray.size).sum
theorem strTot_succ {l : List ByteArray} {k : Nat} {s : ByteArray} (h : l[k]? = some s) : strTot l (k + 1) = strTot l k + s.size := by
  rw [strTot, take_snoc h]; simp [strTot]
theorem strTot_mono (l : List ByteArray) {k : Nat} : ∀ n, k ≤ n → n ≤ l.length → strTot l k ≤ strTot l n := by
  intro n hk
  induction n with
  | zero => intro _; rw [show k = 0 by omega]; exact Nat.le_refl _
  | succ n ih =>
    intro hn
    by_cases e : k = n + 1
    · subst e; exact Nat.le_refl _
    · obtain ⟨s, hs⟩ : ∃ s, l[n]? = some s := ⟨_, List.getElem?_eq_getElem (by omega)⟩
      rw [strTot_succ hs]
      have := ih (by omega) (by omega)
      omega
def bulkT (l : List ByteArray) : Nat := l.length + strTot l l.length
theorem str_le {l : List ByteArray} {s : ByteArray} (h : s ∈ l) : s.size ≤ strTot l l.length := by
  obtain ⟨i, hi, rfl⟩ := List.mem_iff_getElem.1 h
  have h1 := strTot_succ (List.getElem?_eq_getElem hi)
  have h2 := strTot_mono l (k := i + 1) l.length (by omega) (Nat.le_refl _)
  omega
def szT (l : List ByteArray) (left : Int) : Int := if (bulkT l : Int) ≤ left then left - bulkT l else -1
theorem szT_yes {l : List ByteArray} {left : Int} (h : (bulkT l : Int) ≤ left) : szT l left = left - bulkT l := if_pos h
theorem szT_no {l : List ByteArray} {left : Int} (h : ¬ (bulkT l : Int) ≤ left) : szT l left = -1 := if_neg h
theorem szStringS_any (A : Option Addr) (c : Nat) (l : List ByteArray) (lo hi : Nat) (left : Int) (w : World) (hl : l.length ≤ 9223372036854775807) (hb : ∀ s ∈ l, s.size ≤ maxLen) (h0 : 0 ≤ left) (h1 : left ≤ 1048576) (hr : RdA w lo hi A (l.map Value.string)) :
    Calls Try.prog 38 #[.slice A l.length c, .int .i64 left] w fun e w' => e = .returned (.int .i64 (szT l left)) ∧ w = w' := by
  unfold maxLen at hb
  have HB := Lib.hid hb; clear hb
  by_cases hlen : (l.length : Int) ≤ left
  case neg =>
    go_enter Try.func38, Try.ntmps38
    go_wp2
    go_ret
    exact ⟨ret_int (szT_no (by unfold bulkT; omega)).symm, rfl⟩
  go_enter Try.func38, Try.ntmps38
  go_wp2
  go_loop [1, 5] (fun s i => ∃ (k t : Nat), k ≤ l.length ∧ i = .int .i64 k ∧ s = .int .i64 (left - l.length - t) ∧ t = strTot l k ∧ (l.length : Int) + t ≤ left) (fun _ i => l.length - (intOf i).toNat)
  case atStart => exact ⟨0, 0, Nat.zero_le _, rfl, by simp, by simp [strTot], by omega⟩
  case round =>
    obtain ⟨k, t, hk, rfl, rfl, ht, htl⟩ := hrel
    have HT := Lib.hid ht; clear ht
    by_cases hlt : k < l.length
    · obtain ⟨s, b, off, HX, rfl, h3, c0⟩ := getT hr hlt
      have hll := HB.out s (List.mem_of_getElem? HX.out)
      have hs := strTot_succ HX.out
      have hm := strTot_mono l (k := k + 1) l.length (by omega) (Nat.le_refl _)
      have HS := Lib.hid hs; have HM := Lib.hid hm
      clear hs hm
      by_cases hsm : (s.size : Int) ≤ left - l.length - t
      · go_wp2
        go_round
        case rel => exact ⟨k + 1, t + s.size, by omega, by go_num, val_int (by omega), by rw [HS.out, HT.out], by omega⟩
        case measure => simp [intOf]; omega
      · go_wp2
        go_ret
        have q1 := HS.out; have q2 := HM.out; have q3 := HT.out
        exact ⟨ret_int (szT_no (by unfold bulkT; omega)).symm, rfl⟩
    · have hkl : k = l.length := by omega
      subst hkl
      clear hlt
      go_wp2
      go_ret
      have q3 := HT.out
      exact ⟨ret_int (by rw [szT_yes (by unfold bulkT; omega)]; unfold bulkT; omega), rfl⟩
/-- The block's cells are the values f 0 .. f (N - 1). -/
def FillV (cur : Array Value) (N : Nat) (f : Nat → Value) : Prop := cur.size = N ∧ ∀ i, i < N → cur[i]? = some (f i)
theorem FillV.congr {cur : Array Value} {N : Nat} {f g : Nat → Value} (h : FillV cur N f) (he : ∀ i, i < N → g i = f i) : FillV cur N g := ⟨h.1, fun i hi => by rw [he i hi]; exact h.2 i hi⟩
theorem FillV.set_ {cur : Array Value} {N : Nat} {f : Nat → Value} (h : FillV cur N f) (k : Nat) (v : Value) : FillV (cur.setIfInBounds k v) N (fun i => if i = k then v else f i) := by
  refine ⟨by simpa using h.1, fun i hi => ?_⟩
  rw [Array.getElem?_setIfInBounds]
  by_cases e : k = i
  · subst e; rw [if_pos rfl, if_pos (by rw [h.1]; exact hi)]; simp
  · have e' : ¬ i = k := fun h => e h.symm
    rw [if_neg e, h.2 i hi]; simp [e']
theorem FillV.cell {w : World} {g : Nat} {t : TypeId} {cur : Array Value} {N : Nat} {f : Nat → Value} (h : FillV cur N f) (hB : Blk w g t cur) {k : Nat} (hk : k < N) : w.cell? ⟨g, k, none⟩ = some (f k) ∧ w.frozen? ⟨g, k, none⟩ = false := ⟨hB.cell (h.2 k hk), hB.frozen k⟩
theorem strInfo : (Try.prog.info? 9).map (fun i => (i.zero, i.size, i.bytes)) = some (some (.string ByteArray.empty), 1, 16) := by kernel_rfl
theorem toStringS_any (A : Option Addr) (c : Nat) (l : List ByteArray) (lo hi : Nat) (w : World) (hl : l.length ≤ 1048577) (hr : RdA w lo hi A (l.map Value.string)) :
    Calls Try.prog 40 #[.slice A l.length c] w fun e w' => ∃ g, e = .returned (.slice (some ⟨g, 0, none⟩) l.length l.length) ∧ RdT w' w.heap.size w'.heap.size (some ⟨g, 0, none⟩) l ∧ Ext w w' := by
  obtain ⟨i0, hi0, hz0, hz1, hz2⟩ := info_parts strInfo
  have hmk := fun W => run_make_rowN (P := Try.prog) 24 9 i0 _ Try.underlying24 hi0 hz0 l.length l.length (Nat.le_refl _) (by rw [hz2]; omega) (by omega) W
  rw [hz1] at hmk
  generalize hcs : madeCells (Value.string ByteArray.empty).cells (l.length * 1) = cs0 at hmk
  have hsz : cs0.size = l.length := by rw [← hcs, size_madeCells]; omega
  have HSZ := Lib.hid hsz
  clear hcs hsz hi0 hz0 hz1 hz2
  go_enter Try.func40, Try.ntmps40
  go_wp2
  clear hmk
  go_loopw [4] (fun i wr => ∃ (k : Nat) (cur : Array Value), k ≤ l.length ∧ i = .int .i64 k ∧ Blk wr w.heap.size 9 cur ∧ cur.size = l.length ∧ (∀ (j : Nat) s, j < k → l[j]? = some s → cur[j]? = some (.string s)) ∧ Ext w wr) (fun i _ => l.length - (intOf i).toNat)
  case atStart => exact ⟨0, cs0, Nat.zero_le _, rfl, Blk.new _ _ _, HSZ.out, fun j s hj => absurd hj (by omega), (by repeat (first | exact Ext.refl _ | assumption | refine Ext.trans ?_ (Ext.alloc _ _) | refine Ext.trans ?_ (Ext.drew _) | refine Ext.trans ?_ (Ext.drewN _ _) | refine Ext.trans ?_ (by assumption)))⟩
  case round =>
    obtain ⟨k, cur, hk, rfl, hB, hsz, hF, hE⟩ := hrel
    have HSZ := Lib.hid hsz
    have HF := Lib.hid hF
    by_cases hlt : k < l.length
    · obtain ⟨s, b, off, HX, rfl, h3, c0⟩ := getT (hr.ext hE) hlt
      obtain ⟨v0, hv0⟩ : ∃ v, cur[k]? = some v := ⟨_, Array.getElem?_eq_getElem (by omega)⟩
      have q0 := hB.cell hv0
      have r0 := hB.frozen k
      have hgl := hB.lt
      clear hv0 hsz hF
      go_wp2
      go_roundw
      case rel => exact ⟨k + 1, _, by omega, by go_num, hB.set_ k _, by simpa using HSZ.out, fun j t hj ht => by
          rw [Array.getElem?_setIfInBounds]
          by_cases e : k = j
          · subst e; rw [if_pos rfl, if_pos (by have := HSZ.out; omega)]; have := HX.out.symm.trans ht; injection this with this; rw [this]
          · rw [if_neg e]; exact HF.out j t (by omega) ht, Ext.setCell hE (Nat.le_refl _) _⟩
      case measure => simp [intOf]; omega
    · have hkl : k = l.length := by omega
      subst hkl
      clear hlt hsz hF
      go_wp2
      go_ret
      refine ⟨_, rfl, hB.rd (Nat.le_refl _) (fun j u hu => ?_), hE⟩
      rw [List.getElem?_map, Option.map_eq_some_iff] at hu
      obtain ⟨s, hs, rfl⟩ := hu
      exact HF.out j s (List.getElem?_eq_some_iff.1 hs).1 hs
theorem eqStringS_same (A B : Option Addr) (c d : Nat) (l : List ByteArray) (lo hi lo' hi' : Nat) (w : World) (hl : l.length ≤ 4611686018427387904) (hr : RdT w lo hi A l) (hr' : RdT w lo' hi' B l) :
    Calls Try.prog 19 #[.slice A l.length c, .slice B l.length d] w fun e w' => e = .returned (.bool true) ∧ Ext w w' := by
  go_enter Try.func19, Try.ntmps19
  go_wp2
  go_loopw [5] (fun i wr => ∃ k : Nat, k ≤ l.length ∧ i = .int .i64 k ∧ Ext w wr) (fun i _ => l.length - (intOf i).toNat)
  case atStart => exact ⟨0, Nat.zero_le _, rfl, Ext.refl _⟩
  case round =>
    obtain ⟨k, hk, rfl, hE⟩ := hrel
    by_cases hlt : k < l.length
    · obtain ⟨x, b, off, HX, rfl, h3, c0⟩ := RdT.get (hr.ext hE) hlt
      obtain ⟨x', b', off', HX', rfl, h3', d0⟩ := RdT.get (hr'.ext hE) hlt
      obtain rfl : x = x' := by have := HX.out.symm.trans HX'.out; injection this
      have hi0 : (0 : Int) ≤ k := by omega
      have hi1 : (k : Int) < l.length := by omega
      have e0 : ∀ w', Ext wr w' → w'.cell? ⟨b, off + k, none⟩ = _ := fun _ h => h.cell c0
      have e4 : ∀ w', Ext wr w' → w'.cell? ⟨b', off' + k, none⟩ = _ := fun _ h => h.cell d0
      go_wp2_with fail
      go_region_held3 (fun w' => Ext wr w') (exact (by repeat (first | exact Ext.refl _ | assumption | refine Ext.trans ?_ (Ext.alloc _ _) | refine Ext.trans ?_ (Ext.drew _) | refine Ext.trans ?_ (Ext.drewN _ _) | refine Ext.trans ?_ (by assumption)))) (fail)
      go_wp2
      go_roundw
      case rel => exact ⟨k + 1, by omega, by go_num, (by repeat (first | exact Ext.refl _ | assumption | refine Ext.trans ?_ (Ext.alloc _ _) | refine Ext.trans ?_ (Ext.drew _) | refine Ext.trans ?_ (Ext.drewN _ _) | refine Ext.trans ?_ (by assumption)))⟩
      case measure => simp [intOf]; omega
    · go_wp2
      go_ret
      exact ⟨rfl, hE⟩
end Go.Proofs.Ytnkkpphjahpadaa
