/- The walk of the laws' markText, and the marks over slices of strings. -/
import Derived.Test.YtnkkpphjahpadaaStr
import Derived.Test.YtnkkpphjahpadaaXw
import Derived.Laws.IdiomStrings
namespace Go.Proofs.Ytnkkpphjahpadaa
open Go.RowKit
set_option linter.unusedVariables false
theorem Rd.getV {w : World} {lo hi : Nat} {A : Option Addr} {xs : List Value} (h : Rd w lo hi A xs) {k : Nat} (hk : k < xs.length) :
    ∃ x b off, Hid (xs[k]? = some x) ∧ A = some ⟨b, off, none⟩ ∧ lo ≤ b ∧ b < hi ∧ b < w.heap.size ∧ w.cell? ⟨b, off + k, none⟩ = some x ∧ w.frozen? ⟨b, off + k, none⟩ = false := by
  obtain ⟨b, off, e, h1, h2, h3, hc⟩ := Rd.at_ h hk
  have h4 := hc k _ (List.getElem?_eq_getElem hk)
  exact ⟨xs[k], b, off, List.getElem?_eq_getElem hk, e, h1, h2, h3, h4.1, h4.2⟩
def mtGo (n : Nat) (acc : ByteArray) : ByteArray := if n = 0 then acc else mtGo (n / 10) (⟨#[UInt8.ofNat (48 + n % 10)]⟩ ++ acc)
termination_by n
decreasing_by omega
theorem mtGo_zero (acc : ByteArray) : mtGo 0 acc = acc := by rw [mtGo]; simp
theorem mtGo_pos {n : Nat} (h : 0 < n) (acc : ByteArray) : mtGo n acc = mtGo (n / 10) (⟨#[UInt8.ofNat (48 + n % 10)]⟩ ++ acc) := by
  rw [mtGo, if_neg (by omega)]
def mtext (k : Int) : ByteArray := ⟨#[109]⟩ ++ mtGo k.toNat ⟨#[]⟩
set_option maxRecDepth 20000 in
theorem markText_any (k : Int) (w : World) (h1 : 1 ≤ k) (h2 : k ≤ 4611686018427387904) :
    Calls Try.prog 64 #[.int .i64 k] w fun e w' => e = .returned (.string (mtext k)) ∧ Ext w w' := by
  go_enter Try.func64, Try.ntmps64
  go_wp2
  go_loopw [0, 3] (fun n s wr => ∃ (m : Nat) (acc : ByteArray), n = .int .i64 m ∧ s = .string acc ∧ acc.size + m ≤ 4611686018427387904 ∧ mtGo m acc = mtGo k.toNat ⟨#[]⟩ ∧ Ext w wr) (fun n _ _ => (intOf n).toNat)
  case atStart => exact ⟨k.toNat, ⟨#[]⟩, val_int (by omega), rfl, by show 0 + _ ≤ _; omega, rfl, Ext.refl _⟩
  case round =>
    obtain ⟨m, acc, rfl, rfl, hm, hg, hE⟩ := hrel
    have HG := Lib.hid hg; clear hg
    by_cases hz : 0 < m
    · have HS := mtGo_pos hz acc
      have hu : (UInt8.ofNat (48 + m % 10)).toNat = 48 + m % 10 := by
        simp only [UInt8.toNat_ofNat']
        omega
      obtain ⟨u, hu'⟩ : ∃ u, u = UInt8.ofNat (48 + m % 10) := ⟨_, rfl⟩
      rw [← hu'] at hu HS
      clear hu'
      have hcv := run_convert_bytes_back (P := Try.prog) (wr.alloc (.cells #[.int .u8 (48 + (m : Int) % 10)] 5)) 109 9 5 ⟨wr.heap.size, 0, none⟩ 1 [u] Try.underlying109 Try.underlying5 Try.underlying9 (fun j hj => by
        have h0 : j = 0 := by simpa using hj
        subst h0
        refine box_new (j := 0) (Ext.refl _) ?_
        simp [hu])
      simp only [List.length_cons, List.length_nil, Nat.zero_add] at hcv
      have w8 : IntKind.u8.wrap (48 + (m : Int) % 10) = 48 + (m : Int) % 10 := by
        unfold IntKind.wrap; simp [IntKind.bits, IntKind.signed]; omega
      have HS' := Lib.hid HS; clear hu HS
      go_wp2
      go_roundw
      case rel => exact ⟨m / 10, ⟨#[u]⟩ ++ acc, val_int (by omega), rfl, by rw [ByteArray.size_append]; show 1 + _ + _ ≤ _; omega, by rw [← HS'.out]; exact HG.out, (by repeat (first | exact Ext.refl _ | assumption | refine Ext.trans ?_ (Ext.alloc _ _) | refine Ext.trans ?_ (Ext.drew _) | refine Ext.trans ?_ (Ext.drewN _ _) | refine Ext.trans ?_ (by assumption)))⟩
      case measure => simp [intOf]; omega
    · have hz0 : m = 0 := by omega
      subst hz0
      clear hz
      go_wp2
      go_ret
      have q := HG.out
      rw [mtGo_zero] at q
      exact ⟨by rw [q]; rfl, hE⟩
def mksT (k : Int) (n : Nat) : List ByteArray := (List.range n).map fun (i : Nat) => mtext (k + i)
theorem mksT_len (k : Int) (n : Nat) : (mksT k n).length = n := by simp [mksT]
theorem mksT_at {k : Int} {n i : Nat} {x : ByteArray} (h : (mksT k n)[i]? = some x) : x = mtext (k + i) := by
  simp only [mksT, List.getElem?_map, Option.map_eq_some_iff] at h
  obtain ⟨a, ha, rfl⟩ := h
  have := (List.getElem?_eq_some_iff.1 ha).2
  simp at this
  subst this
  rfl
theorem mksT_of {k : Int} {l : List ByteArray} (h : ∀ i : Nat, i < l.length → l[i]? = some (mtext (k + i))) : l = mksT k l.length := by
  apply List.ext_getElem?
  intro i
  by_cases hi : i < l.length
  · rw [h i hi]; simp [mksT, hi]
  · rw [List.getElem?_eq_none (by omega), List.getElem?_eq_none (by rw [mksT_len]; omega)]
theorem RdT.getF {w : World} {lo hi : Nat} {A : Option Addr} {l : List ByteArray} (h : RdT w lo hi A l) {k : Nat} (hk : k < l.length) :
    ∃ x b off, Hid (l[k]? = some x) ∧ A = some ⟨b, off, none⟩ ∧ lo ≤ b ∧ b < hi ∧ b < w.heap.size ∧ w.cell? ⟨b, off + k, none⟩ = some (.string x) ∧ w.frozen? ⟨b, off + k, none⟩ = false := by
  obtain ⟨b, off, e, h1, h2, h3, hc⟩ := Rd.at_ h (k := k) (by simpa using hk)
  have h4 := hc k (.string l[k]) (by rw [List.getElem?_map, List.getElem?_eq_getElem hk]; rfl)
  exact ⟨l[k], b, off, List.getElem?_eq_getElem hk, e, h1, h2, h3, h4.1, h4.2⟩
theorem markStringS_any (A : Option Addr) (c : Nat) (l : List ByteArray) (k : Int) (lo hi : Nat) (w : World) (hl : l.length ≤ 1152921504606846) (hk0 : 1 ≤ k) (hk1 : k ≤ 1152921504606846976) (hr : RdT w lo hi A l) :
    Calls Try.prog 22 #[.slice A l.length c, .int .i64 k] w fun e w' => e = .returned (.int .i64 (k + l.length)) ∧ RdT w' lo hi A (mksT k l.length) ∧ Out lo hi w w' := by
  go_enter Try.func22, Try.ntmps22
  go_wp2
  go_loopw [1, 5] (fun kk i wr => ∃ (j : Nat) (ls : List ByteArray), j ≤ l.length ∧ i = .int .i64 j ∧ kk = .int .i64 (k + j) ∧ ls.length = l.length ∧ (∀ i : Nat, i < j → ls[i]? = some (mtext (k + i))) ∧ RdT wr lo hi A ls ∧ Out lo hi w wr) (fun _ i _ => l.length - (intOf i).toNat)
  case atStart => exact ⟨0, l, Nat.zero_le _, rfl, by simp, rfl, fun i hi => absurd hi (by omega), hr, Out.refl _ _ _⟩
  case round =>
    obtain ⟨j, ls, hj, rfl, rfl, hls, hm, hR, hO⟩ := hrel
    have HLS := Lib.hid hls
    have HM := Lib.hid hm; clear hm
    by_cases hlt : j < l.length
    · obtain ⟨x, b, off, HX, rfl, h1, h2, h3, c0, f0⟩ := RdT.getF hR (k := j) (by omega)
      clear hls
      go_wp2_with (go_at_call 64; refine (markText_any _ _ (by omega) (by omega)).mono ?_; rintro e w2 ⟨rfl, hE2⟩; obtain ⟨hc2, hf2⟩ := bcell hE2; have hs2 := hE2.size; (try simp only [World.size_alloc] at hs2))
      go_roundw
      case rel =>
        refine ⟨j + 1, ls.set j (mtext (k + j)), by omega, by go_num, val_int (by omega), by rw [List.length_set]; exact HLS.out, fun i hi => ?_, ?_, (hO.trans (Out.of_ext hE2)).setCell (.inl ⟨h1, h2⟩) _⟩
        · by_cases hij : i = j
          · subst hij; rw [List.getElem?_set_self (by rw [HLS.out]; exact hlt)]
          · rw [List.getElem?_set_ne (fun h => hij h.symm)]; exact HM.out i (by omega)
        · unfold RdT
          rw [List.map_set]
          exact Rd.set_ (Rd.ext hR hE2) j _
      case measure => simp [intOf]; omega
    · have hjl : j = l.length := by omega
      subst hjl
      clear hls hlt
      go_wp2
      go_ret
      refine ⟨rfl, ?_, hO⟩
      have e := mksT_of (k := k) (l := ls) (fun i hi => HM.out i (by have := HLS.out; omega))
      rw [HLS.out] at e
      rw [← e]
      exact hR
theorem heldStringS_any (A : Option Addr) (c : Nat) (n : Nat) (k : Int) (lo hi : Nat) (w : World) (hl : n ≤ 1152921504606846) (hk0 : 1 ≤ k) (hk1 : k ≤ 1152921504606846976) (hr : RdT w lo hi A (mksT k n)) :
    Calls Try.prog 23 #[.slice A n c, .int .i64 k] w fun e w' => e = .returned (.int .i64 (k + n)) ∧ Ext w w' := by
  go_enter Try.func23, Try.ntmps23
  go_wp2
  go_loopw [1, 5] (fun kk i wr => ∃ j : Nat, j ≤ n ∧ i = .int .i64 j ∧ kk = .int .i64 (k + j) ∧ Ext w wr) (fun _ i _ => n - (intOf i).toNat)
  case atStart => exact ⟨0, Nat.zero_le _, rfl, by simp, Ext.refl _⟩
  case round =>
    obtain ⟨j, hj, rfl, rfl, hE⟩ := hrel
    by_cases hlt : j < n
    · obtain ⟨x, b, off, HX, rfl, h1, h2, h3, c0, f0⟩ := RdT.getF (hr.ext hE) (k := j) (by rw [mksT_len]; exact hlt)
      obtain rfl := mksT_at HX.out
      clear HX
      have e0 : ∀ y : XW wr, y.v.cell? ⟨b, off + j, none⟩ = _ := fun y => y.h.cell c0
      have hmt := fun x : XW wr => markText_any (k + j) x.v (by omega) (by omega)
      have hlt' : (j : Int) < n := by omega
      have hlt2 : (0 : Int) ≤ j := by omega
      go_wp2_with fail
      refine wp_region_xw (w0 := wr) (by kernel_rfl) (by kernel_rfl) (by repeat (first | exact Ext.refl _ | assumption | refine Ext.trans ?_ (Ext.alloc _ _) | refine Ext.trans ?_ (Ext.drew _) | refine Ext.trans ?_ (Ext.drewN _ _) | refine Ext.trans ?_ (by assumption))) ?_; (repeat (go_big_quiet_step ((go_at_call 64; with_reducible exact XW.call (hmt _))))); refine wpQuiet_nil ?_; intro w1 hw'; obtain ⟨⟨_, hEw1⟩, hw''⟩ := hw'; subst hw''
      clear e0 hmt
      go_wp2
      go_roundw
      case rel => exact ⟨j + 1, by omega, by go_num, val_int (by omega), (by repeat (first | exact Ext.refl _ | assumption | refine Ext.trans ?_ (Ext.alloc _ _) | refine Ext.trans ?_ (Ext.drew _) | refine Ext.trans ?_ (Ext.drewN _ _) | refine Ext.trans ?_ (by assumption)))⟩
      case measure => simp [intOf]; omega
    · have hjl : j = n := by omega
      subst hjl
      clear hlt
      go_wp2
      go_ret
      exact ⟨rfl, hE⟩
end Go.Proofs.Ytnkkpphjahpadaa
