/- The walks of IsCase, boxAt and areCodes: the program's and the reference's. -/
import Derived.Test.YtnkkpphjahpadaaFoA
import Derived.Test.YtnkkpphjahpadaaRecB
namespace Go.Proofs.Ytnkkpphjahpadaa
open Go.RowKit
set_option linter.unusedVariables false
def bxOk (b : Bx) : Bool := ((lets b.code 1 3 && inB b.row 0 9) && inB b.column 0 9) && inB b.count 0 9999
def bxLess (a b : Bx) : Bool := Op.bytesLess a.code.toList b.code.toList
def atB (r c : Int) (x : Bx) : Bool := decide (x.row = r) && decide (x.column = c)
def takenB (l : List Bx) (r c : Int) : Bool := l.any (atB r c)
def caseAt (l : List Bx) (i : Nat) : Bool := match l[i]? with
  | some b => (bxOk b && (decide (i = 0) || (match l[i - 1]? with | some a => bxLess a b | none => false))) && !takenB (l.take i) b.row b.column
  | none => false
def caseTo (l : List Bx) (k : Nat) : Bool := (List.range k).all (caseAt l)
theorem caseTo_succ (l : List Bx) (k : Nat) : caseTo l (k + 1) = (caseTo l k && caseAt l k) := by simp [caseTo, List.range_succ]
def caseB (l : List Bx) : Bool := caseTo l l.length && inB l.length 1 32
theorem case_no {l : List Bx} {k : Nat} (hk : k < l.length) (h : caseAt l k = false) : caseB l = false := by
  have : caseTo l l.length = false := by
    rw [caseTo, List.all_eq_false]
    exact ⟨k, List.mem_range.2 hk, by simp [h]⟩
  simp [caseB, this]
theorem caseAt_bad {l : List Bx} {k : Nat} {b : Bx} (hb : l[k]? = some b) (h : bxOk b = false) : caseAt l k = false := by simp [caseAt, hb, h]
theorem caseAt_zero {l : List Bx} {b : Bx} (hb : l[0]? = some b) : caseAt l 0 = bxOk b := by simp [caseAt, hb, takenB]
theorem caseAt_pos {l : List Bx} {k : Nat} {b a : Bx} (hk : 0 < k) (hb : l[k]? = some b) (ha : l[k - 1]? = some a) : caseAt l k = ((bxOk b && bxLess a b) && !takenB (l.take k) b.row b.column) := by
  have : ¬ k = 0 := by omega
  simp [caseAt, hb, ha, this]
theorem case_len {l : List Bx} (h : caseB l = true) : 1 ≤ l.length ∧ l.length ≤ 32 := by
  simp only [caseB, Bool.and_eq_true] at h
  have := inB_iff.1 h.2
  omega
theorem case_at {l : List Bx} (h : caseB l = true) {k : Nat} {b : Bx} (hb : l[k]? = some b) : bxOk b = true := by
  simp only [caseB, caseTo, Bool.and_eq_true, List.all_eq_true] at h
  have := h.1 k (List.mem_range.2 (List.getElem?_eq_some_iff.1 hb).1)
  simp only [caseAt, hb, Bool.and_eq_true] at this
  exact this.1.1
theorem bxOk_parts {b : Bx} (h : bxOk b = true) : lets b.code 1 3 = true ∧ (0 ≤ b.row ∧ b.row ≤ 9) ∧ (0 ≤ b.column ∧ b.column ≤ 9) ∧ 0 ≤ b.count ∧ b.count ≤ 9999 := by
  simp only [bxOk, Bool.and_eq_true] at h
  exact ⟨h.1.1.1, inB_iff.1 h.1.1.2, inB_iff.1 h.1.2, inB_iff.1 h.2⟩
def bxTo (f : List Bx) (c : ByteArray) (k : Nat) : Bool := (f.take k).all fun s => !(s.code.toList == c.toList)
def bxF (f : List Bx) (c : ByteArray) : Int := match f.findIdx? (fun s => s.code.toList == c.toList) with | some i => i | none => -1
theorem bxF_at {f : List Bx} {c : ByteArray} {k : Nat} {s : Bx} (h : bxTo f c k = true) (hs : f[k]? = some s) (he : (s.code.toList == c.toList) = true) : bxF f c = k := by
  have : f.findIdx? (fun s => s.code.toList == c.toList) = some k := by
    rw [List.findIdx?_eq_some_iff_getElem]
    obtain ⟨hk, hg⟩ := List.getElem?_eq_some_iff.1 hs
    refine ⟨hk, by rw [hg]; exact he, fun j hj => ?_⟩
    simp only [bxTo, List.all_eq_true] at h
    have := h f[j] (List.mem_iff_getElem?.2 ⟨j, by rw [List.getElem?_take_of_lt hj]; exact List.getElem?_eq_getElem (by omega)⟩)
    simpa using this
  simp [bxF, this]
theorem bxF_none {f : List Bx} {c : ByteArray} (h : bxTo f c f.length = true) : bxF f c = -1 := by
  have : f.findIdx? (fun s => s.code.toList == c.toList) = none := by
    rw [List.findIdx?_eq_none_iff]
    intro s hs
    simp only [bxTo, List.take_of_length_le (Nat.le_refl _), List.all_eq_true] at h
    simpa using h s hs
  simp [bxF, this]
theorem bxTo_succ {f : List Bx} {c : ByteArray} {k : Nat} {s : Bx} (hs : f[k]? = some s) : bxTo f c (k + 1) = (bxTo f c k && !(s.code.toList == c.toList)) := by
  rw [bxTo, take_snoc hs]; simp [bxTo]
theorem bxF_lt (f : List Bx) (c : ByteArray) : -1 ≤ bxF f c ∧ bxF f c < f.length := by
  cases h : f.findIdx? (fun s => s.code.toList == c.toList) with
  | none => simp [bxF, h]; omega
  | some k =>
    have := (List.findIdx?_eq_some_iff_getElem.1 h).1
    simp [bxF, h]; omega
/-- Only the codes matter. -/
theorem bxF_codes {f g : List Bx} (h : f.map Bx.code = g.map Bx.code) (c : ByteArray) : bxF f c = bxF g c := by
  have e : ∀ l : List Bx, l.findIdx? (fun s => s.code.toList == c.toList) = (l.map Bx.code).findIdx? (fun s => s.toList == c.toList) := fun l => by rw [List.findIdx?_map]; rfl
  rw [bxF, bxF, e, e, h]
def codesOk (l : List Bx) (cs : List ByteArray) : Bool := (cs.all fun c => decide (0 ≤ bxF l c)) && (caseB l && decide (cs.length ≤ 60))
theorem all_take' {α : Type} {l : List α} {j : Nat} {y : α} (p : α → Bool) (h : l[j]? = some y) : (l.take (j + 1)).all p = ((l.take j).all p && p y) := by
  rw [take_snoc h]; simp
theorem all_no' {α : Type} {l : List α} {j : Nat} {y : α} {p : α → Bool} (h : l[j]? = some y) (hp : p y = false) : l.all p = false := by
  rw [List.all_eq_false]; exact ⟨y, List.mem_of_getElem? h, by simp [hp]⟩
theorem isPlace_any (n : Int) (w : World) : Calls Try.prog 142 #[.int .i64 n] w fun e w' => e = .returned (.bool (inB n 0 9)) ∧ w = w' := by
  go_enter Try.func142, Try.ntmps142
  go_wp2_with (go_at_call 85; refine (within_any _ _ _ _).mono ?_; rintro e w' ⟨rfl, rfl⟩)
  go_ret
  exact ⟨rfl, rfl⟩
theorem impl_IsBox (b : Bx) (w : World) (hs : b.code.size ≤ 1048577) : Calls Try.prog 131 #[.agg #[.string b.code, .int .i64 b.row, .int .i64 b.column, .int .i64 b.count]] w fun e w' => e = .returned (.bool (bxOk b)) ∧ Ext w w' := by
  obtain ⟨code, row, column, count⟩ := b
  simp only at hs
  cases t1 : lets code 1 3
  · rw [show bxOk ⟨code, row, column, count⟩ = false by simp [bxOk, t1]]
    go_enter Try.func131, Try.ntmps131
    go_wp2_with (first | (go_at_call 142; refine (isPlace_any _ _).mono ?_; rintro e w' ⟨rfl, rfl⟩) | (go_at_call 85; refine (within_any _ _ _ _).mono ?_; rintro e w' ⟨rfl, rfl⟩) | (go_at_call 111; refine (impl_isCode code _ hs).mono ?_; rintro e w' ⟨rfl, rfl⟩))
    go_ret
    exact ⟨rfl, (by repeat (first | exact Ext.refl _ | assumption | refine Ext.trans ?_ (Ext.alloc _ _) | refine Ext.trans ?_ (Ext.drew _) | refine Ext.trans ?_ (Ext.drewN _ _) | refine Ext.trans ?_ (by assumption)))⟩
  cases t2 : inB row 0 9
  · rw [show bxOk ⟨code, row, column, count⟩ = false by simp [bxOk, t1, t2]]
    go_enter Try.func131, Try.ntmps131
    go_wp2_with (first | (go_at_call 142; refine (isPlace_any _ _).mono ?_; rintro e w' ⟨rfl, rfl⟩) | (go_at_call 85; refine (within_any _ _ _ _).mono ?_; rintro e w' ⟨rfl, rfl⟩) | (go_at_call 111; refine (impl_isCode code _ hs).mono ?_; rintro e w' ⟨rfl, rfl⟩))
    go_ret
    exact ⟨rfl, (by repeat (first | exact Ext.refl _ | assumption | refine Ext.trans ?_ (Ext.alloc _ _) | refine Ext.trans ?_ (Ext.drew _) | refine Ext.trans ?_ (Ext.drewN _ _) | refine Ext.trans ?_ (by assumption)))⟩
  cases t3 : inB column 0 9
  · rw [show bxOk ⟨code, row, column, count⟩ = false by simp [bxOk, t1, t2, t3]]
    go_enter Try.func131, Try.ntmps131
    go_wp2_with (first | (go_at_call 142; refine (isPlace_any _ _).mono ?_; rintro e w' ⟨rfl, rfl⟩) | (go_at_call 85; refine (within_any _ _ _ _).mono ?_; rintro e w' ⟨rfl, rfl⟩) | (go_at_call 111; refine (impl_isCode code _ hs).mono ?_; rintro e w' ⟨rfl, rfl⟩))
    go_ret
    exact ⟨rfl, (by repeat (first | exact Ext.refl _ | assumption | refine Ext.trans ?_ (Ext.alloc _ _) | refine Ext.trans ?_ (Ext.drew _) | refine Ext.trans ?_ (Ext.drewN _ _) | refine Ext.trans ?_ (by assumption)))⟩
  · rw [show bxOk ⟨code, row, column, count⟩ = inB count 0 9999 by simp [bxOk, t1, t2, t3]]
    go_enter Try.func131, Try.ntmps131
    go_wp2_with (first | (go_at_call 142; refine (isPlace_any _ _).mono ?_; rintro e w' ⟨rfl, rfl⟩) | (go_at_call 85; refine (within_any _ _ _ _).mono ?_; rintro e w' ⟨rfl, rfl⟩) | (go_at_call 111; refine (impl_isCode code _ hs).mono ?_; rintro e w' ⟨rfl, rfl⟩))
    go_ret
    exact ⟨rfl, (by repeat (first | exact Ext.refl _ | assumption | refine Ext.trans ?_ (Ext.alloc _ _) | refine Ext.trans ?_ (Ext.drew _) | refine Ext.trans ?_ (Ext.drewN _ _) | refine Ext.trans ?_ (by assumption)))⟩
theorem spec_caBox (b : Bx) (w : World) (hs : b.code.size ≤ 1048577) : Calls Try.prog 130 #[.agg #[.string b.code, .int .i64 b.row, .int .i64 b.column, .int .i64 b.count]] w fun e w' => e = .returned (.bool (bxOk b)) ∧ Ext w w' := by
  obtain ⟨code, row, column, count⟩ := b
  simp only at hs
  cases t1 : lets code 1 3
  · rw [show bxOk ⟨code, row, column, count⟩ = false by simp [bxOk, t1]]
    go_enter Try.func130, Try.ntmps130
    go_wp2_with (first | (go_at_call 81; refine (l1In_any _ _ _ _).mono ?_; rintro e w' ⟨rfl, rfl⟩) | (go_at_call 110; refine (spec_tyLetters code 3 _ hs).mono ?_; rintro e w' ⟨rfl, rfl⟩))
    go_ret
    exact ⟨rfl, (by repeat (first | exact Ext.refl _ | assumption | refine Ext.trans ?_ (Ext.alloc _ _) | refine Ext.trans ?_ (Ext.drew _) | refine Ext.trans ?_ (Ext.drewN _ _) | refine Ext.trans ?_ (by assumption)))⟩
  cases t2 : inB row 0 9
  · rw [show bxOk ⟨code, row, column, count⟩ = false by simp [bxOk, t1, t2]]
    go_enter Try.func130, Try.ntmps130
    go_wp2_with (first | (go_at_call 81; refine (l1In_any _ _ _ _).mono ?_; rintro e w' ⟨rfl, rfl⟩) | (go_at_call 110; refine (spec_tyLetters code 3 _ hs).mono ?_; rintro e w' ⟨rfl, rfl⟩))
    go_ret
    exact ⟨rfl, (by repeat (first | exact Ext.refl _ | assumption | refine Ext.trans ?_ (Ext.alloc _ _) | refine Ext.trans ?_ (Ext.drew _) | refine Ext.trans ?_ (Ext.drewN _ _) | refine Ext.trans ?_ (by assumption)))⟩
  cases t3 : inB column 0 9
  · rw [show bxOk ⟨code, row, column, count⟩ = false by simp [bxOk, t1, t2, t3]]
    go_enter Try.func130, Try.ntmps130
    go_wp2_with (first | (go_at_call 81; refine (l1In_any _ _ _ _).mono ?_; rintro e w' ⟨rfl, rfl⟩) | (go_at_call 110; refine (spec_tyLetters code 3 _ hs).mono ?_; rintro e w' ⟨rfl, rfl⟩))
    go_ret
    exact ⟨rfl, (by repeat (first | exact Ext.refl _ | assumption | refine Ext.trans ?_ (Ext.alloc _ _) | refine Ext.trans ?_ (Ext.drew _) | refine Ext.trans ?_ (Ext.drewN _ _) | refine Ext.trans ?_ (by assumption)))⟩
  · rw [show bxOk ⟨code, row, column, count⟩ = inB count 0 9999 by simp [bxOk, t1, t2, t3]]
    go_enter Try.func130, Try.ntmps130
    go_wp2_with (first | (go_at_call 81; refine (l1In_any _ _ _ _).mono ?_; rintro e w' ⟨rfl, rfl⟩) | (go_at_call 110; refine (spec_tyLetters code 3 _ hs).mono ?_; rintro e w' ⟨rfl, rfl⟩))
    go_ret
    exact ⟨rfl, (by repeat (first | exact Ext.refl _ | assumption | refine Ext.trans ?_ (Ext.alloc _ _) | refine Ext.trans ?_ (Ext.drew _) | refine Ext.trans ?_ (Ext.drewN _ _) | refine Ext.trans ?_ (by assumption)))⟩
theorem impl_isTaken (A : Option Addr) (c n : Nat) (l : List Bx) (r q : Int) (lo hi : Nat) (w : World) (hn : l.length = n) (hl : n ≤ 1048577) (hr : RdB w lo hi A l) :
    Calls Try.prog 132 #[.slice A n c, .int .i64 r, .int .i64 q] w fun e w' => e = .returned (.bool (takenB l r q)) ∧ Ext w w' := by
  subst hn
  go_enter Try.func132, Try.ntmps132
  go_wp2
  go_loopw [11] (fun i wr => ∃ k : Nat, k ≤ l.length ∧ i = .int .i64 k ∧ (l.take k).any (atB r q) = false ∧ Ext w wr) (fun i _ => l.length - (intOf i).toNat)
  case atStart => exact ⟨0, Nat.zero_le _, rfl, rfl, Ext.refl _⟩
  case round =>
    obtain ⟨k, hk, rfl, ha, hE⟩ := hrel
    have HA := Lib.hid ha; clear ha
    by_cases hlt : k < l.length
    · obtain ⟨x, b, off, HX, eA, h3, c0, c1, c2, c3⟩ := RdB.get (hr.ext hE) hlt
      subst eA
      have hyes : atB r q x = true → takenB l r q = true := fun h => by rw [takenB, List.any_eq_true]; exact ⟨x, List.mem_of_getElem? HX.out, h⟩
      have hno : atB r q x = false → (l.take (k + 1)).any (atB r q) = false := fun h => by rw [take_snoc HX.out, List.any_append, HA.out]; simp [h]
      have HY := Lib.hid hyes; have HN := Lib.hid hno
      clear hyes hno HX
      obtain ⟨xc, xr, xq, xn⟩ := x
      simp only at c0 c1 c2 c3
      by_cases t1 : xr = r
      · subst t1
        by_cases t2 : xq = q
        · subst t2
          go_wp2
          go_ret
          exact ⟨ret_bool (HY.out (by simp [atB])).symm, (by repeat (first | exact Ext.refl _ | assumption | refine Ext.trans ?_ (Ext.alloc _ _) | refine Ext.trans ?_ (Ext.drew _) | refine Ext.trans ?_ (Ext.drewN _ _) | refine Ext.trans ?_ (by assumption)))⟩
        · go_wp2
          go_roundw
          case rel => exact ⟨k + 1, by omega, by go_num, HN.out (by simp [atB, t2]), (by repeat (first | exact Ext.refl _ | assumption | refine Ext.trans ?_ (Ext.alloc _ _) | refine Ext.trans ?_ (Ext.drew _) | refine Ext.trans ?_ (Ext.drewN _ _) | refine Ext.trans ?_ (by assumption)))⟩
          case measure => simp [intOf]; omega
      · go_wp2
        go_roundw
        case rel => exact ⟨k + 1, by omega, by go_num, HN.out (by simp [atB, t1]), (by repeat (first | exact Ext.refl _ | assumption | refine Ext.trans ?_ (Ext.alloc _ _) | refine Ext.trans ?_ (Ext.drew _) | refine Ext.trans ?_ (Ext.drewN _ _) | refine Ext.trans ?_ (by assumption)))⟩
        case measure => simp [intOf]; omega
    · have hkl : k = l.length := by omega
      subst hkl
      clear hlt
      go_wp2
      go_ret
      exact ⟨ret_bool (by have := HA.out; rw [List.take_of_length_le (Nat.le_refl _)] at this; rw [takenB, this]), hE⟩
set_option maxRecDepth 20000 in
set_option maxHeartbeats 2000000 in
theorem impl_IsCase (A : Option Addr) (c : Nat) (f : List Bx) (lo hi : Nat) (w : World) (hl : f.length ≤ 1048577) (hb : ∀ s ∈ f, s.code.size ≤ 1048577) (hcap : f.length ≤ c) (hr : RdB w lo hi A f) :
    Calls Try.prog 105 #[.slice A f.length c] w fun e w' => e = .returned (.bool (caseB f)) ∧ Ext w w' := by
  have HB := Lib.hid hb; clear hb
  go_enter Try.func105, Try.ntmps105
  go_wp2
  go_loopw [7] (fun i wr => ∃ k : Nat, k ≤ f.length ∧ i = .int .i64 k ∧ caseTo f k = true ∧ Ext w wr) (fun i _ => f.length - (intOf i).toNat)
  case atStart => exact ⟨0, Nat.zero_le _, rfl, rfl, Ext.refl _⟩
  case round =>
    obtain ⟨k, hk, rfl, ha, hE⟩ := hrel
    have HA := Lib.hid ha; clear ha
    by_cases hlt : k < f.length
    · obtain ⟨s, b, off, HX, eA, h3, c0, c1, c2, c3⟩ := RdB.get (hr.ext hE) hlt
      subst eA
      have hs := HB.out s (List.mem_of_getElem? HX.out)
      have bad : caseAt f k = false → caseB f = false := case_no hlt
      have stp : caseAt f k = true → caseTo f (k + 1) = true := fun h => by rw [caseTo_succ, HA.out, h]; rfl
      have BAD := Lib.hid bad; have STP := Lib.hid stp
      clear bad stp
      go_wp2_with fail
      obtain ⟨w0, hw0⟩ : ∃ w0, w0 = wr.alloc (.cells #[.string s.code, .int .i64 s.row, .int .i64 s.column, .int .i64 s.count] 104) := ⟨_, rfl⟩
      have x0 : w0.cell? ⟨wr.heap.size, 0, none⟩ = some (.string s.code) := by rw [hw0]; exact box_new (Ext.refl _) rfl
      have x1 : w0.cell? ⟨wr.heap.size, 1, none⟩ = some (.int .i64 s.row) := by rw [hw0]; exact box_new (Ext.refl _) rfl
      have x2 : w0.cell? ⟨wr.heap.size, 2, none⟩ = some (.int .i64 s.column) := by rw [hw0]; exact box_new (Ext.refl _) rfl
      have x3 : w0.cell? ⟨wr.heap.size, 3, none⟩ = some (.int .i64 s.count) := by rw [hw0]; exact box_new (Ext.refl _) rfl
      have hE0 : Ext wr w0 := by rw [hw0]; exact Ext.alloc _ _
      rw [← hw0]
      clear hw0
      have hz0 : wr.heap.size < w0.heap.size := World.block_lt_of_cell? w0 _ x0
      have e0 : ∀ y : XW w0, y.v.cell? ⟨wr.heap.size, 0, none⟩ = _ := fun y => y.h.cell x0
      have e1 : ∀ y : XW w0, y.v.cell? ⟨wr.heap.size, 1, none⟩ = _ := fun y => y.h.cell x1
      have e2 : ∀ y : XW w0, y.v.cell? ⟨wr.heap.size, 2, none⟩ = _ := fun y => y.h.cell x2
      have e3 : ∀ y : XW w0, y.v.cell? ⟨wr.heap.size, 3, none⟩ = _ := fun y => y.h.cell x3
      have hC : ∀ y : XW w0, _ := fun y => impl_IsBox s y.v hs
      cases t1 : bxOk s
      · have HV : Hid (caseAt f k = false) := caseAt_bad HX.out t1
        simp only [t1] at hC
        refine wp_region_xw (w0 := w0) (by kernel_rfl) (by kernel_rfl) (by repeat (first | exact Ext.refl _ | assumption | refine Ext.trans ?_ (Ext.alloc _ _) | refine Ext.trans ?_ (Ext.drew _) | refine Ext.trans ?_ (Ext.drewN _ _) | refine Ext.trans ?_ (by assumption))) ?_; (repeat (go_big_quiet_step ((go_at_call 131; with_reducible exact XW.call (hC _))))); refine wpQuiet_nil ?_; intro w1 hw'; obtain ⟨⟨_, hEw1⟩, hw''⟩ := hw'; subst hw''
        clear hC e0 e1 e2 e3
        go_wp2
        go_ret
        exact ⟨ret_bool (BAD.out HV.out).symm, (by repeat (first | exact Ext.refl _ | assumption | refine Ext.trans ?_ (Ext.alloc _ _) | refine Ext.trans ?_ (Ext.drew _) | refine Ext.trans ?_ (Ext.drewN _ _) | refine Ext.trans ?_ (by assumption)))⟩
      simp only [t1] at hC
      have hT : ∀ y : XW w0, _ := fun y => impl_isTaken (some ⟨b, off, none⟩) c k (f.take k) s.row s.column lo hi y.v (by simp; omega) (by omega) (by
        have h := (hr.ext (hE.trans (hE0.trans y.h))).take (k * 4)
        rw [← flat_takeN Bx.enc 4 Bx.enc_len] at h
        exact h)
      have p7 : (0 : Int) ≤ k := by omega
      have p8 : (k : Int) ≤ c := by omega
      by_cases hk0 : k = 0
      · subst hk0
        have HV : Hid (caseAt f 0 = true) := by show _ = _; rw [caseAt_zero HX.out, t1]
        simp only [List.take_zero, takenB, List.any_nil] at hT
        refine wp_region_xw (w0 := w0) (by kernel_rfl) (by kernel_rfl) (by repeat (first | exact Ext.refl _ | assumption | refine Ext.trans ?_ (Ext.alloc _ _) | refine Ext.trans ?_ (Ext.drew _) | refine Ext.trans ?_ (Ext.drewN _ _) | refine Ext.trans ?_ (by assumption))) ?_; (repeat (go_big_quiet_step (first | (go_at_call 131; with_reducible exact XW.call (hC _)) | (go_at_call 132; with_reducible exact XW.call (hT _))))); refine wpQuiet_nil ?_; intro w1 hw'; obtain ⟨⟨_, hEw1⟩, hw''⟩ := hw'; subst hw''
        clear hC hT e0 e1 e2 e3
        go_wp2
        go_roundw
        case rel => exact ⟨1, by omega, by go_num, STP.out HV.out, (by repeat (first | exact Ext.refl _ | assumption | refine Ext.trans ?_ (Ext.alloc _ _) | refine Ext.trans ?_ (Ext.drew _) | refine Ext.trans ?_ (Ext.drewN _ _) | refine Ext.trans ?_ (by assumption)))⟩
        case measure => simp [intOf]; omega
      · obtain ⟨a, b', off', HY, eA, _, d0, _⟩ := RdB.get (hr.ext (hE.trans hE0)) (k := k - 1) (by omega)
        injection eA with eA; injection eA with eb eo _; subst eb; subst eo
        have hv : caseAt f k = (bxLess a s && !takenB (f.take k) s.row s.column) := by rw [caseAt_pos (by omega) HX.out HY.out, t1]; simp
        have HV := Lib.hid hv; clear hv
        have e4 : ∀ y : XW w0, y.v.cell? ⟨b, off + (k - 1) * 4, none⟩ = _ := fun y => y.h.cell d0
        have p0 : 0 < k := by omega
        have p1 : (0 : Int) < k := by omega
        clear hk0
        have p2 : (1 : Int) ≤ k := by omega
        have p3 : IntKind.i64.wrap ((k : Int) - 1) = (k : Int) - 1 := IntWalk.i64_in _ (by omega)
        have p4 : (0 : Int) ≤ (k : Int) - 1 := by omega
        have p5 : ((k : Int) - 1).toNat = k - 1 := by omega
        have p6 : (k : Int) - 1 < f.length := by omega
        cases t2 : bxLess a s
        · have q2 : Op.bytesLess a.code.toList s.code.toList = false := t2
          rw [t2, Bool.false_and] at HV
          refine wp_region_xw (w0 := w0) (by kernel_rfl) (by kernel_rfl) (by repeat (first | exact Ext.refl _ | assumption | refine Ext.trans ?_ (Ext.alloc _ _) | refine Ext.trans ?_ (Ext.drew _) | refine Ext.trans ?_ (Ext.drewN _ _) | refine Ext.trans ?_ (by assumption))) ?_; (repeat (go_big_quiet_step ((go_at_call 131; with_reducible exact XW.call (hC _))))); refine wpQuiet_nil ?_; intro w1 hw'; obtain ⟨⟨_, hEw1⟩, hw''⟩ := hw'; subst hw''
          clear hC hT e0 e1 e2 e3 e4 p3 p4 p5 p6
          go_wp2
          go_ret
          exact ⟨ret_bool (BAD.out HV.out).symm, (by repeat (first | exact Ext.refl _ | assumption | refine Ext.trans ?_ (Ext.alloc _ _) | refine Ext.trans ?_ (Ext.drew _) | refine Ext.trans ?_ (Ext.drewN _ _) | refine Ext.trans ?_ (by assumption)))⟩
        · have q2 : Op.bytesLess a.code.toList s.code.toList = true := t2
          rw [t2, Bool.true_and] at HV
          cases t3 : takenB (f.take k) s.row s.column
          · rw [t3] at HV
            simp only [t3] at hT
            refine wp_region_xw (w0 := w0) (by kernel_rfl) (by kernel_rfl) (by repeat (first | exact Ext.refl _ | assumption | refine Ext.trans ?_ (Ext.alloc _ _) | refine Ext.trans ?_ (Ext.drew _) | refine Ext.trans ?_ (Ext.drewN _ _) | refine Ext.trans ?_ (by assumption))) ?_; (repeat (go_big_quiet_step (first | (go_at_call 131; with_reducible exact XW.call (hC _)) | (go_at_call 132; with_reducible exact XW.call (hT _))))); refine wpQuiet_nil ?_; intro w1 hw'; obtain ⟨⟨_, hEw1⟩, hw''⟩ := hw'; subst hw''
            clear hC hT e0 e1 e2 e3 e4 p3 p4 p5 p6
            go_wp2
            go_roundw
            case rel => exact ⟨k + 1, by omega, by go_num, STP.out HV.out, (by repeat (first | exact Ext.refl _ | assumption | refine Ext.trans ?_ (Ext.alloc _ _) | refine Ext.trans ?_ (Ext.drew _) | refine Ext.trans ?_ (Ext.drewN _ _) | refine Ext.trans ?_ (by assumption)))⟩
            case measure => simp [intOf]; omega
          · rw [t3] at HV
            simp only [t3] at hT
            refine wp_region_xw (w0 := w0) (by kernel_rfl) (by kernel_rfl) (by repeat (first | exact Ext.refl _ | assumption | refine Ext.trans ?_ (Ext.alloc _ _) | refine Ext.trans ?_ (Ext.drew _) | refine Ext.trans ?_ (Ext.drewN _ _) | refine Ext.trans ?_ (by assumption))) ?_; (repeat (go_big_quiet_step (first | (go_at_call 131; with_reducible exact XW.call (hC _)) | (go_at_call 132; with_reducible exact XW.call (hT _))))); refine wpQuiet_nil ?_; intro w1 hw'; obtain ⟨⟨_, hEw1⟩, hw''⟩ := hw'; subst hw''
            clear hC hT e0 e1 e2 e3 e4 p3 p4 p5 p6
            go_wp2
            go_ret
            exact ⟨ret_bool (BAD.out HV.out).symm, (by repeat (first | exact Ext.refl _ | assumption | refine Ext.trans ?_ (Ext.alloc _ _) | refine Ext.trans ?_ (Ext.drew _) | refine Ext.trans ?_ (Ext.drewN _ _) | refine Ext.trans ?_ (by assumption)))⟩
    · have hkl : k = f.length := by omega
      subst hkl
      clear hlt
      have HV : Hid (caseB f = inB f.length 1 32) := by show _ = _; rw [caseB, HA.out]; rfl
      go_wp2_with (go_at_call 85; refine (within_any _ _ _ _).mono ?_; rintro e w' ⟨rfl, rfl⟩)
      go_ret
      exact ⟨ret_bool HV.out.symm, hE⟩
set_option maxRecDepth 20000 in
set_option maxHeartbeats 2000000 in
theorem spec_caGood (A : Option Addr) (c : Nat) (f : List Bx) (lo hi : Nat) (w : World) (hl : f.length ≤ 1048577) (hb : ∀ s ∈ f, s.code.size ≤ 1048577) (hcap : f.length ≤ c) (hr : RdB w lo hi A f) :
    Calls Try.prog 103 #[.slice A f.length c] w fun e w' => e = .returned (.bool (caseB f)) ∧ Ext w w' := by
  have HB := Lib.hid hb; clear hb
  go_enter Try.func103, Try.ntmps103
  go_wp2
  go_loopw [9] (fun i wr => ∃ k : Nat, k ≤ f.length ∧ i = .int .i64 k ∧ caseTo f k = true ∧ Ext w wr) (fun i _ => f.length - (intOf i).toNat)
  case atStart => exact ⟨0, Nat.zero_le _, rfl, rfl, Ext.refl _⟩
  case round =>
    obtain ⟨k, hk, rfl, ha, hE⟩ := hrel
    have HA := Lib.hid ha; clear ha
    by_cases hlt : k < f.length
    · obtain ⟨s, b, off, HX, eA, h3, c0, c1, c2, c3⟩ := RdB.get (hr.ext hE) hlt
      subst eA
      have hs := HB.out s (List.mem_of_getElem? HX.out)
      have bad : caseAt f k = false → caseB f = false := case_no hlt
      have stp : caseAt f k = true → caseTo f (k + 1) = true := fun h => by rw [caseTo_succ, HA.out, h]; rfl
      have BAD := Lib.hid bad; have STP := Lib.hid stp
      clear bad stp
      go_wp2_with fail
      obtain ⟨w0, hw0⟩ : ∃ w0, w0 = wr.alloc (.cells #[.string s.code, .int .i64 s.row, .int .i64 s.column, .int .i64 s.count] 104) := ⟨_, rfl⟩
      have x0 : w0.cell? ⟨wr.heap.size, 0, none⟩ = some (.string s.code) := by rw [hw0]; exact box_new (Ext.refl _) rfl
      have x1 : w0.cell? ⟨wr.heap.size, 1, none⟩ = some (.int .i64 s.row) := by rw [hw0]; exact box_new (Ext.refl _) rfl
      have x2 : w0.cell? ⟨wr.heap.size, 2, none⟩ = some (.int .i64 s.column) := by rw [hw0]; exact box_new (Ext.refl _) rfl
      have x3 : w0.cell? ⟨wr.heap.size, 3, none⟩ = some (.int .i64 s.count) := by rw [hw0]; exact box_new (Ext.refl _) rfl
      have hE0 : Ext wr w0 := by rw [hw0]; exact Ext.alloc _ _
      rw [← hw0]
      clear hw0
      have hz0 : wr.heap.size < w0.heap.size := World.block_lt_of_cell? w0 _ x0
      have e0 : ∀ y : XW w0, y.v.cell? ⟨wr.heap.size, 0, none⟩ = _ := fun y => y.h.cell x0
      have e1 : ∀ y : XW w0, y.v.cell? ⟨wr.heap.size, 1, none⟩ = _ := fun y => y.h.cell x1
      have e2 : ∀ y : XW w0, y.v.cell? ⟨wr.heap.size, 2, none⟩ = _ := fun y => y.h.cell x2
      have e3 : ∀ y : XW w0, y.v.cell? ⟨wr.heap.size, 3, none⟩ = _ := fun y => y.h.cell x3
      have hC : ∀ y : XW w0, _ := fun y => spec_caBox s y.v hs
      cases t1 : bxOk s
      · have HV : Hid (caseAt f k = false) := caseAt_bad HX.out t1
        simp only [t1] at hC
        refine wp_region_xw (w0 := w0) (by kernel_rfl) (by kernel_rfl) (by repeat (first | exact Ext.refl _ | assumption | refine Ext.trans ?_ (Ext.alloc _ _) | refine Ext.trans ?_ (Ext.drew _) | refine Ext.trans ?_ (Ext.drewN _ _) | refine Ext.trans ?_ (by assumption))) ?_; (repeat (go_big_quiet_step ((go_at_call 130; with_reducible exact XW.call (hC _))))); refine wpQuiet_nil ?_; intro w1 hw'; obtain ⟨⟨_, hEw1⟩, hw''⟩ := hw'; subst hw''
        clear hC e0 e1 e2 e3
        go_wp2
        go_ret
        exact ⟨ret_bool (BAD.out HV.out).symm, (by repeat (first | exact Ext.refl _ | assumption | refine Ext.trans ?_ (Ext.alloc _ _) | refine Ext.trans ?_ (Ext.drew _) | refine Ext.trans ?_ (Ext.drewN _ _) | refine Ext.trans ?_ (by assumption)))⟩
      simp only [t1] at hC
      have p7 : (0 : Int) ≤ k := by omega
      have p8 : (k : Int) ≤ c := by omega
      by_cases hk0 : k = 0
      · have hv : caseAt f k = !takenB (f.take k) s.row s.column := by subst hk0; rw [caseAt_zero HX.out, t1]; simp [takenB]
        have HV := Lib.hid hv; clear hv
        have p0 : decide ((0 : Int) < k) = false := by simp; omega
        have p00 : decide (0 < k) = false := by simp; omega
        clear hk0
        refine wp_region_xw (w0 := w0) (by kernel_rfl) (by kernel_rfl) (by repeat (first | exact Ext.refl _ | assumption | refine Ext.trans ?_ (Ext.alloc _ _) | refine Ext.trans ?_ (Ext.drew _) | refine Ext.trans ?_ (Ext.drewN _ _) | refine Ext.trans ?_ (by assumption))) ?_; (repeat (go_big_quiet_step ((go_at_call 130; with_reducible exact XW.call (hC _))))); refine wpQuiet_nil ?_; intro w1 hw'; obtain ⟨⟨_, hEw1⟩, hw''⟩ := hw'; subst hw''
        clear hC e0 e1 e2 e3
        have y1 := hEw1.cell x1
        have y2 := hEw1.cell x2
        have hE5 := (hE.trans hE0).trans hEw1
        have hzz : wr.heap.size < w1.heap.size := World.block_lt_of_cell? w1 _ y1
        clear x0 x1 x2 x3 c0 c1 c2 c3
        obtain ⟨z, hzw⟩ : ∃ z, z = wr.heap.size := ⟨_, rfl⟩
        rw [← hzw] at y1 y2 hzz ⊢
        clear hzw
        go_wp2_with fail
        go_loopw [36] (fun i wx => ∃ j : Nat, j ≤ k ∧ i = .int .i64 j ∧ ((f.take k).take j).any (atB s.row s.column) = false ∧ Ext w1 wx) (fun i _ => k - (intOf i).toNat)
        case atStart => exact ⟨0, Nat.zero_le _, rfl, rfl, Ext.refl _⟩
        case round =>
          obtain ⟨j, hj, rfl, hna, hEx⟩ := hrel
          have HNA := Lib.hid hna; clear hna
          have hzx := Nat.lt_of_lt_of_le hzz hEx.size
          have y1x := hEx.cell y1
          have y2x := hEx.cell y2
          by_cases hjt : j < k
          · obtain ⟨x, b', off', HZ, eA, h4, d0, d1, d2, d3⟩ := RdB.get (hr.ext (hE5.trans hEx)) (k := j) (by omega)
            injection eA with eA; injection eA with eb eo _; subst eb; subst eo
            have htk : (f.take k)[j]? = some x := by rw [List.getElem?_take_of_lt hjt]; exact HZ.out
            have hyes : atB s.row s.column x = true → takenB (f.take k) s.row s.column = true := fun h => by rw [takenB, List.any_eq_true]; exact ⟨x, List.mem_of_getElem? htk, h⟩
            have hno : atB s.row s.column x = false → ((f.take k).take (j + 1)).any (atB s.row s.column) = false := fun h => by rw [take_snoc htk, List.any_append, HNA.out]; simp [h]
            have HY2 := Lib.hid hyes; have HN2 := Lib.hid hno
            clear hyes hno HZ htk
            obtain ⟨xc, xr, xq, xn⟩ := x
            simp only at d0 d1 d2 d3
            by_cases g1 : xr = s.row
            · by_cases g2 : xq = s.column
              · have HBB : Hid (caseB f = false) := BAD.out (by rw [HV.out, HY2.out (by simp [atB, g1, g2])]; rfl)
                have u1 : (xr == s.row) = true := by simp [g1]
                have u2 : (xq == s.column) = true := by simp [g2]
                clear g1 g2
                go_wp2
                go_ret
                exact ⟨ret_bool HBB.out.symm, (by repeat (first | exact Ext.refl _ | assumption | refine Ext.trans ?_ (Ext.alloc _ _) | refine Ext.trans ?_ (Ext.drew _) | refine Ext.trans ?_ (Ext.drewN _ _) | refine Ext.trans ?_ (by assumption)))⟩
              · have HX2 := HN2.out (by simp [atB, g2])
                have HX3 := Lib.hid HX2; clear HX2
                have u1 : (xr == s.row) = true := by simp [g1]
                have u2 : (xq == s.column) = false := by simp [g2]
                clear g1 g2
                go_wp2
                go_roundw
                case rel => exact ⟨j + 1, by omega, by go_num, HX3.out, (by repeat (first | exact Ext.refl _ | assumption | refine Ext.trans ?_ (Ext.alloc _ _) | refine Ext.trans ?_ (Ext.drew _) | refine Ext.trans ?_ (Ext.drewN _ _) | refine Ext.trans ?_ (by assumption)))⟩
                case measure => simp [intOf]; omega
            · have HX2 := HN2.out (by simp [atB, g1])
              have HX3 := Lib.hid HX2; clear HX2
              go_wp2
              go_roundw
              case rel => exact ⟨j + 1, by omega, by go_num, HX3.out, (by repeat (first | exact Ext.refl _ | assumption | refine Ext.trans ?_ (Ext.alloc _ _) | refine Ext.trans ?_ (Ext.drew _) | refine Ext.trans ?_ (Ext.drewN _ _) | refine Ext.trans ?_ (by assumption)))⟩
              case measure => simp [intOf]; omega
          · have hjk : j = k := by omega
            subst hjk
            clear hjt
            have HT : Hid (takenB (f.take j) s.row s.column = false) := by show _ = _; have := HNA.out; rw [List.take_of_length_le (show (f.take j).length ≤ j by rw [List.length_take]; omega)] at this; rw [takenB, this]
            have HV2 : Hid (caseAt f j = true) := by show _ = _; rw [HV.out, HT.out]; rfl
            go_wp2
            go_roundw
            case rel => exact ⟨j + 1, by omega, by go_num, STP.out HV2.out, hE5.trans hEx⟩
            case measure => simp [intOf]; omega
      · obtain ⟨a, b', off', HY, eA, _, d0, _⟩ := RdB.get (hr.ext (hE.trans hE0)) (k := k - 1) (by omega)
        injection eA with eA; injection eA with eb eo _; subst eb; subst eo
        have hv : caseAt f k = (bxLess a s && !takenB (f.take k) s.row s.column) := by rw [caseAt_pos (by omega) HX.out HY.out, t1]; simp
        have HV := Lib.hid hv; clear hv
        have e4 : ∀ y : XW w0, y.v.cell? ⟨b, off + (k - 1) * 4, none⟩ = _ := fun y => y.h.cell d0
        have p0 : 0 < k := by omega
        have p1 : (0 : Int) < k := by omega
        clear hk0
        have p2 : (1 : Int) ≤ k := by omega
        have p3 : IntKind.i64.wrap ((k : Int) - 1) = (k : Int) - 1 := IntWalk.i64_in _ (by omega)
        have p4 : (0 : Int) ≤ (k : Int) - 1 := by omega
        have p5 : ((k : Int) - 1).toNat = k - 1 := by omega
        have p6 : (k : Int) - 1 < f.length := by omega
        cases t2 : bxLess a s
        · have q2 : Op.bytesLess a.code.toList s.code.toList = false := t2
          rw [t2, Bool.false_and] at HV
          refine wp_region_xw (w0 := w0) (by kernel_rfl) (by kernel_rfl) (by repeat (first | exact Ext.refl _ | assumption | refine Ext.trans ?_ (Ext.alloc _ _) | refine Ext.trans ?_ (Ext.drew _) | refine Ext.trans ?_ (Ext.drewN _ _) | refine Ext.trans ?_ (by assumption))) ?_; (repeat (go_big_quiet_step ((go_at_call 130; with_reducible exact XW.call (hC _))))); refine wpQuiet_nil ?_; intro w1 hw'; obtain ⟨⟨_, hEw1⟩, hw''⟩ := hw'; subst hw''
          clear hC e0 e1 e2 e3 e4 p3 p4 p5 p6
          go_wp2
          go_ret
          exact ⟨ret_bool (BAD.out HV.out).symm, (by repeat (first | exact Ext.refl _ | assumption | refine Ext.trans ?_ (Ext.alloc _ _) | refine Ext.trans ?_ (Ext.drew _) | refine Ext.trans ?_ (Ext.drewN _ _) | refine Ext.trans ?_ (by assumption)))⟩
        · have q2 : Op.bytesLess a.code.toList s.code.toList = true := t2
          rw [t2, Bool.true_and] at HV
          refine wp_region_xw (w0 := w0) (by kernel_rfl) (by kernel_rfl) (by repeat (first | exact Ext.refl _ | assumption | refine Ext.trans ?_ (Ext.alloc _ _) | refine Ext.trans ?_ (Ext.drew _) | refine Ext.trans ?_ (Ext.drewN _ _) | refine Ext.trans ?_ (by assumption))) ?_; (repeat (go_big_quiet_step ((go_at_call 130; with_reducible exact XW.call (hC _))))); refine wpQuiet_nil ?_; intro w1 hw'; obtain ⟨⟨_, hEw1⟩, hw''⟩ := hw'; subst hw''
          clear hC e0 e1 e2 e3 e4 p3 p4 p5 p6 d0
          have y1 := hEw1.cell x1
          have y2 := hEw1.cell x2
          have hE5 := (hE.trans hE0).trans hEw1
          have hzz : wr.heap.size < w1.heap.size := World.block_lt_of_cell? w1 _ y1
          clear x0 x1 x2 x3 c0 c1 c2 c3
          obtain ⟨z, hzw⟩ : ∃ z, z = wr.heap.size := ⟨_, rfl⟩
          rw [← hzw] at y1 y2 hzz ⊢
          clear hzw
          go_wp2_with fail
          go_loopw [36] (fun i wx => ∃ j : Nat, j ≤ k ∧ i = .int .i64 j ∧ ((f.take k).take j).any (atB s.row s.column) = false ∧ Ext w1 wx) (fun i _ => k - (intOf i).toNat)
          case atStart => exact ⟨0, Nat.zero_le _, rfl, rfl, Ext.refl _⟩
          case round =>
            obtain ⟨j, hj, rfl, hna, hEx⟩ := hrel
            have HNA := Lib.hid hna; clear hna
            have hzx := Nat.lt_of_lt_of_le hzz hEx.size
            have y1x := hEx.cell y1
            have y2x := hEx.cell y2
            by_cases hjt : j < k
            · obtain ⟨x, b', off', HZ, eA, h4, d0, d1, d2, d3⟩ := RdB.get (hr.ext (hE5.trans hEx)) (k := j) (by omega)
              injection eA with eA; injection eA with eb eo _; subst eb; subst eo
              have htk : (f.take k)[j]? = some x := by rw [List.getElem?_take_of_lt hjt]; exact HZ.out
              have hyes : atB s.row s.column x = true → takenB (f.take k) s.row s.column = true := fun h => by rw [takenB, List.any_eq_true]; exact ⟨x, List.mem_of_getElem? htk, h⟩
              have hno : atB s.row s.column x = false → ((f.take k).take (j + 1)).any (atB s.row s.column) = false := fun h => by rw [take_snoc htk, List.any_append, HNA.out]; simp [h]
              have HY2 := Lib.hid hyes; have HN2 := Lib.hid hno
              clear hyes hno HZ htk
              obtain ⟨xc, xr, xq, xn⟩ := x
              simp only at d0 d1 d2 d3
              by_cases g1 : xr = s.row
              · by_cases g2 : xq = s.column
                · have HBB : Hid (caseB f = false) := BAD.out (by rw [HV.out, HY2.out (by simp [atB, g1, g2])]; rfl)
                  have u1 : (xr == s.row) = true := by simp [g1]
                  have u2 : (xq == s.column) = true := by simp [g2]
                  clear g1 g2
                  go_wp2
                  go_ret
                  exact ⟨ret_bool HBB.out.symm, (by repeat (first | exact Ext.refl _ | assumption | refine Ext.trans ?_ (Ext.alloc _ _) | refine Ext.trans ?_ (Ext.drew _) | refine Ext.trans ?_ (Ext.drewN _ _) | refine Ext.trans ?_ (by assumption)))⟩
                · have HX2 := HN2.out (by simp [atB, g2])
                  have HX3 := Lib.hid HX2; clear HX2
                  have u1 : (xr == s.row) = true := by simp [g1]
                  have u2 : (xq == s.column) = false := by simp [g2]
                  clear g1 g2
                  go_wp2
                  go_roundw
                  case rel => exact ⟨j + 1, by omega, by go_num, HX3.out, (by repeat (first | exact Ext.refl _ | assumption | refine Ext.trans ?_ (Ext.alloc _ _) | refine Ext.trans ?_ (Ext.drew _) | refine Ext.trans ?_ (Ext.drewN _ _) | refine Ext.trans ?_ (by assumption)))⟩
                  case measure => simp [intOf]; omega
              · have HX2 := HN2.out (by simp [atB, g1])
                have HX3 := Lib.hid HX2; clear HX2
                go_wp2
                go_roundw
                case rel => exact ⟨j + 1, by omega, by go_num, HX3.out, (by repeat (first | exact Ext.refl _ | assumption | refine Ext.trans ?_ (Ext.alloc _ _) | refine Ext.trans ?_ (Ext.drew _) | refine Ext.trans ?_ (Ext.drewN _ _) | refine Ext.trans ?_ (by assumption)))⟩
                case measure => simp [intOf]; omega
            · have hjk : j = k := by omega
              subst hjk
              clear hjt
              have HT : Hid (takenB (f.take j) s.row s.column = false) := by show _ = _; have := HNA.out; rw [List.take_of_length_le (show (f.take j).length ≤ j by rw [List.length_take]; omega)] at this; rw [takenB, this]
              have HV2 : Hid (caseAt f j = true) := by show _ = _; rw [HV.out, HT.out]; rfl
              go_wp2
              go_roundw
              case rel => exact ⟨j + 1, by omega, by go_num, STP.out HV2.out, hE5.trans hEx⟩
              case measure => simp [intOf]; omega
    · have hkl : k = f.length := by omega
      subst hkl
      clear hlt
      have HV : Hid (caseB f = inB f.length 1 32) := by show _ = _; rw [caseB, HA.out]; rfl
      go_wp2_with (go_at_call 81; refine (l1In_any _ _ _ _).mono ?_; rintro e w' ⟨rfl, rfl⟩)
      go_ret
      exact ⟨ret_bool HV.out.symm, hE⟩
theorem impl_boxAt (A : Option Addr) (n : Nat) (f : List Bx) (c : ByteArray) (lo hi : Nat) (w : World) (hl : f.length ≤ 1048577) (hr : RdB w lo hi A f) :
    Calls Try.prog 129 #[.slice A f.length n, .string c] w fun e w' => e = .returned (.int .i64 (bxF f c)) ∧ Ext w w' := by
  go_enter Try.func129, Try.ntmps129
  go_wp2
  go_loopw [9] (fun i wr => ∃ k : Nat, k ≤ f.length ∧ i = .int .i64 k ∧ bxTo f c k = true ∧ Ext w wr) (fun i _ => f.length - (intOf i).toNat)
  case atStart => exact ⟨0, Nat.zero_le _, rfl, rfl, Ext.refl _⟩
  case round =>
    obtain ⟨k, hk, rfl, ha, hE⟩ := hrel
    have HA := Lib.hid ha; clear ha
    by_cases hlt : k < f.length
    · obtain ⟨s, b, off, HX, eA, h3, c0, c1, c2, c3⟩ := RdB.get (hr.ext hE) hlt
      subst eA
      cases t1 : (s.code.toList == c.toList)
      · have HV : Hid (bxTo f c (k + 1) = true) := by show _ = _; rw [bxTo_succ HX.out, HA.out, t1]; rfl
        go_wp2
        go_roundw
        case rel => exact ⟨k + 1, by omega, by go_num, HV.out, (by repeat (first | exact Ext.refl _ | assumption | refine Ext.trans ?_ (Ext.alloc _ _) | refine Ext.trans ?_ (Ext.drew _) | refine Ext.trans ?_ (Ext.drewN _ _) | refine Ext.trans ?_ (by assumption)))⟩
        case measure => simp [intOf]; omega
      · have HV : Hid (bxF f c = k) := bxF_at HA.out HX.out t1
        go_wp2
        go_ret
        exact ⟨ret_int HV.out.symm, (by repeat (first | exact Ext.refl _ | assumption | refine Ext.trans ?_ (Ext.alloc _ _) | refine Ext.trans ?_ (Ext.drew _) | refine Ext.trans ?_ (Ext.drewN _ _) | refine Ext.trans ?_ (by assumption)))⟩
    · have hkl : k = f.length := by omega
      subst hkl
      clear hlt
      have HV : Hid (bxF f c = -1) := bxF_none HA.out
      go_wp2
      go_ret
      exact ⟨ret_int HV.out.symm, hE⟩
theorem spec_caFind (A : Option Addr) (n : Nat) (f : List Bx) (c : ByteArray) (lo hi : Nat) (w : World) (hl : f.length ≤ 1048577) (hr : RdB w lo hi A f) :
    Calls Try.prog 127 #[.slice A f.length n, .string c] w fun e w' => e = .returned (.int .i64 (bxF f c)) ∧ Ext w w' := by
  go_enter Try.func127, Try.ntmps127
  go_wp2
  go_loopw [9] (fun i wr => ∃ k : Nat, k ≤ f.length ∧ i = .int .i64 k ∧ bxTo f c k = true ∧ Ext w wr) (fun i _ => f.length - (intOf i).toNat)
  case atStart => exact ⟨0, Nat.zero_le _, rfl, rfl, Ext.refl _⟩
  case round =>
    obtain ⟨k, hk, rfl, ha, hE⟩ := hrel
    have HA := Lib.hid ha; clear ha
    by_cases hlt : k < f.length
    · obtain ⟨s, b, off, HX, eA, h3, c0, c1, c2, c3⟩ := RdB.get (hr.ext hE) hlt
      subst eA
      cases t1 : (s.code.toList == c.toList)
      · have HV : Hid (bxTo f c (k + 1) = true) := by show _ = _; rw [bxTo_succ HX.out, HA.out, t1]; rfl
        go_wp2
        go_roundw
        case rel => exact ⟨k + 1, by omega, by go_num, HV.out, (by repeat (first | exact Ext.refl _ | assumption | refine Ext.trans ?_ (Ext.alloc _ _) | refine Ext.trans ?_ (Ext.drew _) | refine Ext.trans ?_ (Ext.drewN _ _) | refine Ext.trans ?_ (by assumption)))⟩
        case measure => simp [intOf]; omega
      · have HV : Hid (bxF f c = k) := bxF_at HA.out HX.out t1
        go_wp2
        go_ret
        exact ⟨ret_int HV.out.symm, (by repeat (first | exact Ext.refl _ | assumption | refine Ext.trans ?_ (Ext.alloc _ _) | refine Ext.trans ?_ (Ext.drew _) | refine Ext.trans ?_ (Ext.drewN _ _) | refine Ext.trans ?_ (by assumption)))⟩
    · have hkl : k = f.length := by omega
      subst hkl
      clear hlt
      have HV : Hid (bxF f c = -1) := bxF_none HA.out
      go_wp2
      go_ret
      exact ⟨ret_int HV.out.symm, hE⟩
theorem impl_areCodes (A B : Option Addr) (c d : Nat) (f : List Bx) (cs : List ByteArray) (lo hi lo' hi' : Nat) (w : World) (hl : f.length ≤ 1048577) (hb : ∀ s ∈ f, s.code.size ≤ 1048577) (hcap : f.length ≤ c) (hl' : cs.length ≤ 1048577) (hr : RdB w lo hi A f) (hr' : RdT w lo' hi' B cs) :
    Calls Try.prog 128 #[.slice A f.length c, .slice B cs.length d] w fun e w' => e = .returned (.bool (codesOk f cs)) ∧ Ext w w' := by
  have HB := Lib.hid hb; clear hb
  go_enter Try.func128, Try.ntmps128
  go_wp2
  go_loopw [9] (fun i wr => ∃ k : Nat, k ≤ cs.length ∧ i = .int .i64 k ∧ (cs.take k).all (fun c => decide (0 ≤ bxF f c)) = true ∧ Ext w wr) (fun i _ => cs.length - (intOf i).toNat)
  case atStart => exact ⟨0, Nat.zero_le _, rfl, rfl, Ext.refl _⟩
  case round =>
    obtain ⟨k, hk, rfl, ha, hE⟩ := hrel
    have HA := Lib.hid ha; clear ha
    by_cases hlt : k < cs.length
    · obtain ⟨s, b, off, HX, eA, h3, c0⟩ := RdT.get (hr'.ext hE) hlt
      subst eA
      by_cases hf : bxF f s < 0
      · have HV : Hid (codesOk f cs = false) := by show _ = _; rw [codesOk, all_no' HX.out (by simp; omega)]; rfl
        go_wp2_with (go_at_call 129; refine (impl_boxAt A c f s lo hi _ hl (hr.ext hE)).mono ?_; rintro e w2 ⟨rfl, hE2⟩; obtain ⟨hc2, hf2⟩ := bcell hE2; have hs2 := hE2.size; (try simp only [World.size_alloc] at hs2))
        go_ret
        exact ⟨ret_bool HV.out.symm, (by repeat (first | exact Ext.refl _ | assumption | refine Ext.trans ?_ (Ext.alloc _ _) | refine Ext.trans ?_ (Ext.drew _) | refine Ext.trans ?_ (Ext.drewN _ _) | refine Ext.trans ?_ (by assumption)))⟩
      · have HV : Hid ((cs.take (k + 1)).all (fun c => decide (0 ≤ bxF f c)) = true) := by show _ = _; rw [all_take' _ HX.out, HA.out]; simp; omega
        go_wp2_with (go_at_call 129; refine (impl_boxAt A c f s lo hi _ hl (hr.ext hE)).mono ?_; rintro e w2 ⟨rfl, hE2⟩; obtain ⟨hc2, hf2⟩ := bcell hE2; have hs2 := hE2.size; (try simp only [World.size_alloc] at hs2))
        go_roundw
        case rel => exact ⟨k + 1, by omega, by go_num, HV.out, (by repeat (first | exact Ext.refl _ | assumption | refine Ext.trans ?_ (Ext.alloc _ _) | refine Ext.trans ?_ (Ext.drew _) | refine Ext.trans ?_ (Ext.drewN _ _) | refine Ext.trans ?_ (by assumption)))⟩
        case measure => simp [intOf]; omega
    · have hkl : k = cs.length := by omega
      subst hkl
      clear hlt
      have hv : codesOk f cs = (caseB f && decide (cs.length ≤ 60)) := by
        have h := HA.out
        rw [List.take_of_length_le (Nat.le_refl _)] at h
        rw [codesOk, h]; rfl
      have HV := Lib.hid hv; clear hv
      cases t1 : caseB f
      · rw [t1] at HV
        go_wp2_with (go_at_call 105; refine (impl_IsCase A c f lo hi _ hl HB.out hcap (hr.ext hE)).mono ?_; rintro e w2 ⟨rfl, hE2⟩; obtain ⟨hc2, hf2⟩ := bcell hE2; have hs2 := hE2.size; (try simp only [World.size_alloc] at hs2))
        go_ret
        exact ⟨ret_bool HV.out.symm, (by repeat (first | exact Ext.refl _ | assumption | refine Ext.trans ?_ (Ext.alloc _ _) | refine Ext.trans ?_ (Ext.drew _) | refine Ext.trans ?_ (Ext.drewN _ _) | refine Ext.trans ?_ (by assumption)))⟩
      · rw [t1] at HV
        go_wp2_with (go_at_call 105; refine (impl_IsCase A c f lo hi _ hl HB.out hcap (hr.ext hE)).mono ?_; rintro e w2 ⟨rfl, hE2⟩; obtain ⟨hc2, hf2⟩ := bcell hE2; have hs2 := hE2.size; (try simp only [World.size_alloc] at hs2))
        go_ret
        exact ⟨ret_bool (by rw [HV.out]; simp; try omega), (by repeat (first | exact Ext.refl _ | assumption | refine Ext.trans ?_ (Ext.alloc _ _) | refine Ext.trans ?_ (Ext.drew _) | refine Ext.trans ?_ (Ext.drewN _ _) | refine Ext.trans ?_ (by assumption)))⟩
theorem spec_caAsked (A B : Option Addr) (c d : Nat) (f : List Bx) (cs : List ByteArray) (lo hi lo' hi' : Nat) (w : World) (hl : f.length ≤ 1048577) (hb : ∀ s ∈ f, s.code.size ≤ 1048577) (hcap : f.length ≤ c) (hl' : cs.length ≤ 1048577) (hr : RdB w lo hi A f) (hr' : RdT w lo' hi' B cs) :
    Calls Try.prog 98 #[.slice A f.length c, .slice B cs.length d] w fun e w' => e = .returned (.bool (codesOk f cs)) ∧ Ext w w' := by
  have HB := Lib.hid hb; clear hb
  go_enter Try.func98, Try.ntmps98
  go_wp2
  go_loopw [9] (fun i wr => ∃ k : Nat, k ≤ cs.length ∧ i = .int .i64 k ∧ (cs.take k).all (fun c => decide (0 ≤ bxF f c)) = true ∧ Ext w wr) (fun i _ => cs.length - (intOf i).toNat)
  case atStart => exact ⟨0, Nat.zero_le _, rfl, rfl, Ext.refl _⟩
  case round =>
    obtain ⟨k, hk, rfl, ha, hE⟩ := hrel
    have HA := Lib.hid ha; clear ha
    by_cases hlt : k < cs.length
    · obtain ⟨s, b, off, HX, eA, h3, c0⟩ := RdT.get (hr'.ext hE) hlt
      subst eA
      by_cases hf : bxF f s < 0
      · have HV : Hid (codesOk f cs = false) := by show _ = _; rw [codesOk, all_no' HX.out (by simp; omega)]; rfl
        go_wp2_with (go_at_call 127; refine (spec_caFind A c f s lo hi _ hl (hr.ext hE)).mono ?_; rintro e w2 ⟨rfl, hE2⟩; obtain ⟨hc2, hf2⟩ := bcell hE2; have hs2 := hE2.size; (try simp only [World.size_alloc] at hs2))
        go_ret
        exact ⟨ret_bool HV.out.symm, (by repeat (first | exact Ext.refl _ | assumption | refine Ext.trans ?_ (Ext.alloc _ _) | refine Ext.trans ?_ (Ext.drew _) | refine Ext.trans ?_ (Ext.drewN _ _) | refine Ext.trans ?_ (by assumption)))⟩
      · have HV : Hid ((cs.take (k + 1)).all (fun c => decide (0 ≤ bxF f c)) = true) := by show _ = _; rw [all_take' _ HX.out, HA.out]; simp; omega
        go_wp2_with (go_at_call 127; refine (spec_caFind A c f s lo hi _ hl (hr.ext hE)).mono ?_; rintro e w2 ⟨rfl, hE2⟩; obtain ⟨hc2, hf2⟩ := bcell hE2; have hs2 := hE2.size; (try simp only [World.size_alloc] at hs2))
        go_roundw
        case rel => exact ⟨k + 1, by omega, by go_num, HV.out, (by repeat (first | exact Ext.refl _ | assumption | refine Ext.trans ?_ (Ext.alloc _ _) | refine Ext.trans ?_ (Ext.drew _) | refine Ext.trans ?_ (Ext.drewN _ _) | refine Ext.trans ?_ (by assumption)))⟩
        case measure => simp [intOf]; omega
    · have hkl : k = cs.length := by omega
      subst hkl
      clear hlt
      have hv : codesOk f cs = (caseB f && decide (cs.length ≤ 60)) := by
        have h := HA.out
        rw [List.take_of_length_le (Nat.le_refl _)] at h
        rw [codesOk, h]; rfl
      have HV := Lib.hid hv; clear hv
      cases t1 : caseB f
      · rw [t1] at HV
        go_wp2_with (go_at_call 103; refine (spec_caGood A c f lo hi _ hl HB.out hcap (hr.ext hE)).mono ?_; rintro e w2 ⟨rfl, hE2⟩; obtain ⟨hc2, hf2⟩ := bcell hE2; have hs2 := hE2.size; (try simp only [World.size_alloc] at hs2))
        go_ret
        exact ⟨ret_bool HV.out.symm, (by repeat (first | exact Ext.refl _ | assumption | refine Ext.trans ?_ (Ext.alloc _ _) | refine Ext.trans ?_ (Ext.drew _) | refine Ext.trans ?_ (Ext.drewN _ _) | refine Ext.trans ?_ (by assumption)))⟩
      · rw [t1] at HV
        go_wp2_with (go_at_call 103; refine (spec_caGood A c f lo hi _ hl HB.out hcap (hr.ext hE)).mono ?_; rintro e w2 ⟨rfl, hE2⟩; obtain ⟨hc2, hf2⟩ := bcell hE2; have hs2 := hE2.size; (try simp only [World.size_alloc] at hs2))
        go_ret
        exact ⟨ret_bool (by rw [HV.out]; simp; try omega), (by repeat (first | exact Ext.refl _ | assumption | refine Ext.trans ?_ (Ext.alloc _ _) | refine Ext.trans ?_ (Ext.drew _) | refine Ext.trans ?_ (Ext.drewN _ _) | refine Ext.trans ?_ (by assumption)))⟩
end Go.Proofs.Ytnkkpphjahpadaa
