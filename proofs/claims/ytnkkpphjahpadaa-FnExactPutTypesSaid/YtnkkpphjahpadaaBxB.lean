/- The walks of SwapBoxes, TakeTypes and PutTypes: the program's and the reference's. -/
import Derived.Test.YtnkkpphjahpadaaBxA
import Derived.BigRegion
namespace Go.Proofs.Ytnkkpphjahpadaa
open Go.RowKit
set_option linter.unusedVariables false
/-- A fresh []Box and a bool. -/
def RetB2 (w : World) (p : List Bx × Bool) (e : Ending) (w' : World) : Prop := ∃ A c, e = .returned (.tuple #[.slice A p.1.length c, .bool p.2]) ∧ p.1.length ≤ c ∧ RdB w' w.heap.size w'.heap.size A p.1 ∧ Ext w w'
theorem retB2_lit {w w' : World} {a : Option Addr} {c : Nat} (hE : Ext w w') : RetB2 w ([], false) (.returned (.tuple #[.slice a 0 c, .bool false])) w' := ⟨a, c, rfl, Nat.zero_le _, Rd.nil (Nat.le_refl _), hE⟩
theorem boxes_one (l : List Bx) : ∀ u ∈ l.flatMap Bx.enc, u.oneCell' = true := by
  intro u hu
  obtain ⟨x, _, hx⟩ := List.mem_flatMap.1 hu
  simp [Bx.enc] at hx
  rcases hx with rfl | rfl | rfl | rfl <;> rfl
theorem flat_set1 {l : List Bx} {k : Nat} {x : Bx} (h : l[k]? = some x) (v : Int) : (l.set k { x with row := v }).flatMap Bx.enc = (l.flatMap Bx.enc).set (k * 4 + 1) (.int .i64 v) := by
  induction l generalizing k with
  | nil => simp at h
  | cons z l ih =>
    cases k with
    | zero => simp at h; subst h; simp [Bx.enc]
    | succ k =>
      have h' : l[k]? = some x := by simpa using h
      rw [List.set_cons_succ, List.flatMap_cons, List.flatMap_cons, ih h', List.set_append_right _ _ (by simp [Bx.enc]; omega)]
      congr 2
      simp [Bx.enc]; omega
theorem flat_set2 {l : List Bx} {k : Nat} {x : Bx} (h : l[k]? = some x) (v : Int) : (l.set k { x with column := v }).flatMap Bx.enc = (l.flatMap Bx.enc).set (k * 4 + 2) (.int .i64 v) := by
  induction l generalizing k with
  | nil => simp at h
  | cons z l ih =>
    cases k with
    | zero => simp at h; subst h; simp [Bx.enc]
    | succ k =>
      have h' : l[k]? = some x := by simpa using h
      rw [List.set_cons_succ, List.flatMap_cons, List.flatMap_cons, ih h', List.set_append_right _ _ (by simp [Bx.enc]; omega)]
      congr 2
      simp [Bx.enc]; omega
theorem flat_set3 {l : List Bx} {k : Nat} {x : Bx} (h : l[k]? = some x) (v : Int) : (l.set k { x with count := v }).flatMap Bx.enc = (l.flatMap Bx.enc).set (k * 4 + 3) (.int .i64 v) := by
  induction l generalizing k with
  | nil => simp at h
  | cons z l ih =>
    cases k with
    | zero => simp at h; subst h; simp [Bx.enc]
    | succ k =>
      have h' : l[k]? = some x := by simpa using h
      rw [List.set_cons_succ, List.flatMap_cons, List.flatMap_cons, ih h', List.set_append_right _ _ (by simp [Bx.enc]; omega)]
      congr 2
      simp [Bx.enc]; omega
theorem RdB.setRC {w : World} {lo hi g : Nat} {l : List Bx} {k : Nat} {x : Bx} (h : RdB w lo hi (some ⟨g, 0, none⟩) l) (hk : l[k]? = some x) (r q : Int) :
    RdB ((w.setCell ⟨g, k * 4 + 1, none⟩ (.int .i64 r)).setCell ⟨g, k * 4 + 2, none⟩ (.int .i64 q)) lo hi (some ⟨g, 0, none⟩) (l.set k { x with row := r, column := q }) := by
  have hkl := (List.getElem?_eq_some_iff.1 hk).1
  have h1 := Rd.set_ h (k * 4 + 1) (.int .i64 r)
  rw [← flat_set1 hk] at h1
  have h2 := Rd.set_ h1 (k * 4 + 2) (.int .i64 q)
  rw [← flat_set2 (x := { x with row := r }) (List.getElem?_set_self hkl), List.set_set] at h2
  simp only [Nat.zero_add] at h2
  exact h2
theorem RdB.setN {w : World} {lo hi g : Nat} {l : List Bx} {k : Nat} {x : Bx} (h : RdB w lo hi (some ⟨g, 0, none⟩) l) (hk : l[k]? = some x) (v : Int) :
    RdB (w.setCell ⟨g, k * 4 + 3, none⟩ (.int .i64 v)) lo hi (some ⟨g, 0, none⟩) (l.set k { x with count := v }) := by
  have h1 := Rd.set_ h (k * 4 + 3) (.int .i64 v)
  rw [← flat_set3 hk] at h1
  simp only [Nat.zero_add] at h1
  exact h1
/-- A box's cells, with what writing wants. -/
theorem RdB.getW {w : World} {lo hi g : Nat} {l : List Bx} (h : RdB w lo hi (some ⟨g, 0, none⟩) l) {k : Nat} {x : Bx} (hk : l[k]? = some x) :
    lo ≤ g ∧ g < w.heap.size ∧ (w.cell? ⟨g, k * 4 + 1, none⟩ = some (.int .i64 x.row) ∧ w.frozen? ⟨g, k * 4 + 1, none⟩ = false) ∧ (w.cell? ⟨g, k * 4 + 2, none⟩ = some (.int .i64 x.column) ∧ w.frozen? ⟨g, k * 4 + 2, none⟩ = false) ∧ (w.cell? ⟨g, k * 4 + 3, none⟩ = some (.int .i64 x.count) ∧ w.frozen? ⟨g, k * 4 + 3, none⟩ = false) := by
  have hkl := (List.getElem?_eq_some_iff.1 hk).1
  obtain ⟨b, off, e, h1, h2, h3, hc⟩ := Rd.at_ h (k := k * 4) (by rw [lenB]; omega)
  injection e with e; injection e with e1 e2; subst e1; subst e2
  have g' := fun j hj => flat_get _ 4 Bx.enc_len l k hkl j hj
  have hx : l[k] = x := (List.getElem?_eq_some_iff.1 hk).2
  rw [hx] at g'
  have q1 := hc _ _ (g' 1 (by omega))
  have q2 := hc _ _ (g' 2 (by omega))
  have q3 := hc _ _ (g' 3 (by omega))
  simp only [Nat.zero_add] at q1 q2 q3
  exact ⟨h1, h3, q1, q2, q3⟩
def swp (l : List Bx) (a b : Nat) : List Bx := match l[a]?, l[b]? with
  | some x, some y => (l.set a { x with row := y.row, column := y.column }).set b { y with row := x.row, column := x.column }
  | _, _ => l
theorem swp_of {l : List Bx} {a b : Nat} {x y : Bx} (ha : l[a]? = some x) (hb : l[b]? = some y) : swp l a b = (l.set a { x with row := y.row, column := y.column }).set b { y with row := x.row, column := x.column } := by simp [swp, ha, hb]
theorem swp_len (l : List Bx) (a b : Nat) : (swp l a b).length = l.length := by
  unfold swp
  split <;> simp
theorem swp_mid {l : List Bx} {a b : Nat} {x y : Bx} (ha : l[a]? = some x) (hb : l[b]? = some y) : ∃ y', (l.set a { x with row := y.row, column := y.column })[b]? = some y' ∧ { y' with row := x.row, column := x.column } = { y with row := x.row, column := x.column } := by
  have hbl := (List.getElem?_eq_some_iff.1 hb).1
  by_cases e : a = b
  · subst e
    have hxy : x = y := by rw [ha] at hb; injection hb
    subst hxy
    exact ⟨_, List.getElem?_set_self hbl, rfl⟩
  · exact ⟨y, by rw [List.getElem?_set_ne e]; exact hb, rfl⟩
def swB (l : List Bx) (a b : Int) : Bool := (caseB l && inB a 0 ((l.length : Int) - 1)) && inB b 0 ((l.length : Int) - 1)
def sbP (l : List Bx) (a b : Int) : List Bx × Bool := if swB l a b then (swp l a.toNat b.toNat, true) else ([], false)
theorem sbP_bad {l : List Bx} {a b : Int} (h : swB l a b = false) : sbP l a b = ([], false) := by simp [sbP, h]
theorem sbP_good {l : List Bx} {a b : Int} (h : swB l a b = true) : sbP l a b = (swp l a.toNat b.toNat, true) := by simp [sbP, h]
theorem sbP_len (l : List Bx) (a b : Int) : (sbP l a b).1.length ≤ 4000000 := by
  cases h : swB l a b
  · rw [sbP_bad h]; simp
  · rw [sbP_good h]
    simp only [swB, Bool.and_eq_true] at h
    have := case_len h.1.1
    show (swp l _ _).length ≤ _
    rw [swp_len]; omega
/-- One box's number turned. -/
def bump (m : List Bx) (i : Nat) (d : Int) : List Bx := match m[i]? with | some x => m.set i { x with count := x.count + d } | none => m
theorem bump_of {m : List Bx} {i : Nat} {x : Bx} (h : m[i]? = some x) (d : Int) : bump m i d = m.set i { x with count := x.count + d } := by simp [bump, h]
theorem bump_len (m : List Bx) (i : Nat) (d : Int) : (bump m i d).length = m.length := by unfold bump; split <;> simp
theorem bump_codes (m : List Bx) (i : Nat) (d : Int) : (bump m i d).map Bx.code = m.map Bx.code := by
  unfold bump
  split
  · rename_i x h
    rw [List.map_set]
    show (m.map Bx.code).set i x.code = _
    apply List.ext_getElem?
    intro j
    by_cases e : i = j
    · subst e
      have hl := (List.getElem?_eq_some_iff.1 h).1
      rw [List.getElem?_set_self (by simpa using hl), List.getElem?_map, h]; rfl
    · rw [List.getElem?_set_ne e]
  · rfl
def chTo (l : List Bx) (cs : List ByteArray) (d : Int) : Nat → List Bx
  | 0 => l
  | k + 1 => match cs[k]? with | some c => bump (chTo l cs d k) (bxF l c).toNat d | none => chTo l cs d k
theorem chTo_succ {l : List Bx} {cs : List ByteArray} {d : Int} {k : Nat} {c : ByteArray} (h : cs[k]? = some c) : chTo l cs d (k + 1) = bump (chTo l cs d k) (bxF l c).toNat d := by simp [chTo, h]
theorem chTo_len (l : List Bx) (cs : List ByteArray) (d : Int) (k : Nat) : (chTo l cs d k).length = l.length := by
  induction k with
  | zero => rfl
  | succ k ih => rw [chTo]; split <;> simp [bump_len, ih]
theorem chTo_codes (l : List Bx) (cs : List ByteArray) (d : Int) (k : Nat) : (chTo l cs d k).map Bx.code = l.map Bx.code := by
  induction k with
  | zero => rfl
  | succ k ih =>
    rw [chTo]
    split
    · rw [bump_codes, ih]
    · exact ih
theorem chTo_bound {l : List Bx} (hl : caseB l = true) (cs : List ByteArray) {d : Int} (h1 : -1 ≤ d) (h2 : d ≤ 1) (k : Nat) : ∀ x ∈ chTo l cs d k, -(k : Int) ≤ x.count ∧ x.count ≤ 9999 + k := by
  induction k with
  | zero =>
    intro x hx
    obtain ⟨j, hj⟩ := List.mem_iff_getElem?.1 hx
    have := (bxOk_parts (case_at hl hj)).2.2.2
    omega
  | succ k ih =>
    intro x hx
    rw [chTo] at hx
    split at hx
    · unfold bump at hx
      split at hx
      · rename_i y hy
        rcases List.mem_or_eq_of_mem_set hx with h | h
        · have := ih x h; omega
        · subst h
          have := ih y (List.mem_of_getElem? hy)
          simp only
          omega
      · have := ih x hx; omega
    · have := ih x hx; omega
theorem chTo_size {l : List Bx} (cs : List ByteArray) (d : Int) (k : Nat) (hb : ∀ s ∈ l, s.code.size ≤ 1048577) : ∀ s ∈ chTo l cs d k, s.code.size ≤ 1048577 := by
  intro s hs
  have : s.code ∈ (chTo l cs d k).map Bx.code := List.mem_map_of_mem hs
  rw [chTo_codes] at this
  obtain ⟨t, ht, e⟩ := List.mem_map.1 this
  rw [← e]; exact hb t ht
def moP (l : List Bx) (cs : List ByteArray) (d : Int) : List Bx × Bool := if codesOk l cs && caseB (chTo l cs d cs.length) then (chTo l cs d cs.length, true) else ([], false)
theorem moP_bad {l : List Bx} {cs : List ByteArray} {d : Int} (h : (codesOk l cs && caseB (chTo l cs d cs.length)) = false) : moP l cs d = ([], false) := by simp only [moP, h]; rfl
theorem moP_good {l : List Bx} {cs : List ByteArray} {d : Int} (h1 : codesOk l cs = true) (h2 : caseB (chTo l cs d cs.length) = true) : moP l cs d = (chTo l cs d cs.length, true) := by simp [moP, h1, h2]
theorem codesOk_parts {l : List Bx} {cs : List ByteArray} (h : codesOk l cs = true) : (∀ c ∈ cs, 0 ≤ bxF l c) ∧ caseB l = true ∧ cs.length ≤ 60 := by
  simp only [codesOk, Bool.and_eq_true, List.all_eq_true, decide_eq_true_eq] at h
  exact ⟨h.1, h.2.1, h.2.2⟩
theorem moP_len (l : List Bx) (cs : List ByteArray) (d : Int) : (moP l cs d).1.length ≤ 4000000 := by
  cases h : codesOk l cs && caseB (chTo l cs d cs.length)
  · rw [moP_bad h]; simp
  · simp only [Bool.and_eq_true] at h
    rw [moP_good h.1 h.2]
    have := case_len h.2
    show (chTo l cs d cs.length).length ≤ _
    omega
set_option maxHeartbeats 2000000 in
theorem impl_swap (A : Option Addr) (c : Nat) (l : List Bx) (a b : Nat) (lo hi : Nat) (w : World) (hl : l.length ≤ 32) (ha : a < l.length) (hb : b < l.length) (hr : RdB w lo hi A l) :
    Calls Try.prog 106 #[.slice A l.length c, .int .i64 a, .int .i64 b] w fun e w' => ∃ A' c', e = .returned (.slice A' l.length c') ∧ l.length ≤ c' ∧ RdB w' w.heap.size w'.heap.size A' (swp l a b) ∧ Ext w w' := by
  obtain ⟨x, b1, off1, HX, eA, hx3, _, x1, x2, _⟩ := RdB.get hr ha
  subst eA
  obtain ⟨y, b', off', HY, eA, _, _, y1, y2, _⟩ := RdB.get hr hb
  injection eA with eA; injection eA with eb eo _; subst eb; subst eo
  have ia0 : (0 : Int) ≤ a := by omega
  have ia1 : (a : Int) < l.length := by omega
  have ib0 : (0 : Int) ≤ b := by omega
  have ib1 : (b : Int) < l.length := by omega
  go_enter Try.func106, Try.ntmps106
  go_wp2_with (at_builtin; refine wp_app _ w rfl (.tmp 8) (.tmp 9) 66 rfl 104 _ 4 40 Try.underlying66 infoB rfl (by omega) _ 0 [] rfl (own_lit0 _ _ (Nat.le_refl _) (Ext.refl _)) (by repeat (first | exact Ext.refl _ | assumption | refine Ext.trans ?_ (Ext.alloc _ _) | refine Ext.trans ?_ (Ext.drew _) | refine Ext.trans ?_ (Ext.drewN _ _) | refine Ext.trans ?_ (by assumption))) _ _ _ l.length _ (l.flatMap Bx.enc) rfl (lenB l) (Rd.toA (hr.ext (by repeat (first | exact Ext.refl _ | assumption | refine Ext.trans ?_ (Ext.alloc _ _) | refine Ext.trans ?_ (Ext.drew _) | refine Ext.trans ?_ (Ext.drewN _ _) | refine Ext.trans ?_ (by assumption))))) (boxes_one l) (by omega) (by simp) ?_; intro v3 w3 hown3 hE3 hg3 hat3; rw [Nat.zero_add, List.nil_append] at hown3; obtain ⟨g, c3, rfl, hg1, hgl, hc3⟩ := own_some hown3 (by omega); have hR3 : RdB w3 w.heap.size w3.heap.size (some ⟨g, 0, none⟩) l := Rd.of_own hown3; clear hown3 hg3 hat3)
  obtain ⟨_, _, ⟨m1, n1⟩, ⟨m2, n2⟩, _⟩ := RdB.getW hR3 HX.out
  have u1 := hE3.cell y1
  have u2 := hE3.cell y2
  have hbg : ¬ b1 = g := by omega
  have hgb : ¬ g = b1 := by omega
  have hb3 : b1 < w3.heap.size := by omega
  go_region
  obtain ⟨w5, hw5⟩ : ∃ w5, w5 = ((w3.setCell ⟨g, a * 4 + 1, none⟩ (.int .i64 y.row)).setCell ⟨g, a * 4 + 2, none⟩ (.int .i64 y.column)).drew := ⟨_, rfl⟩
  rw [← hw5]
  have hE5 : Ext w w5 := by rw [hw5]; repeat (first | exact hE3 | refine Ext.trans ?_ (Ext.drew _) | refine Ext.setCell ?_ hg1 _)
  have hz5 : w5.heap.size = w3.heap.size := by rw [hw5]; simp [World.setCell]
  have hR5 : RdB w5 w.heap.size w3.heap.size (some ⟨g, 0, none⟩) (l.set a { x with row := y.row, column := y.column }) := by
    rw [hw5]; exact RdB.ext (RdB.setRC hR3 HX.out y.row y.column) (Ext.drew _)
  have hgl5 : g < w5.heap.size := by omega
  have HZ5 := Lib.hid hz5
  obtain ⟨y', hy', hye⟩ := swp_mid HX.out HY.out
  have HY' := Lib.hid hy'
  have HYE := Lib.hid hye
  clear hw5 hz5 hy' hye m1 m2 n1 n2 u1 u2 hR3 hb3
  obtain ⟨_, _, ⟨m1, n1⟩, ⟨m2, n2⟩, _⟩ := RdB.getW hR5 HY'.out
  have u1 := hE5.cell x1
  have u2 := hE5.cell x2
  have hb5 : b1 < w5.heap.size := by omega
  go_wp2_with fail
  go_region
  obtain ⟨w7, hw7⟩ : ∃ w7, w7 = ((w5.setCell ⟨g, b * 4 + 1, none⟩ (.int .i64 x.row)).setCell ⟨g, b * 4 + 2, none⟩ (.int .i64 x.column)).drew := ⟨_, rfl⟩
  rw [← hw7]
  have hE7 : Ext w w7 := by rw [hw7]; repeat (first | exact hE5 | refine Ext.trans ?_ (Ext.drew _) | refine Ext.setCell ?_ hg1 _)
  have hz7 : w7.heap.size = w5.heap.size := by rw [hw7]; simp [World.setCell]
  have hR7 : RdB w7 w.heap.size w3.heap.size (some ⟨g, 0, none⟩) (swp l a b) := by
    rw [hw7, swp_of HX.out HY.out, ← HYE.out]; exact RdB.ext (RdB.setRC hR5 HY'.out x.row x.column) (Ext.drew _)
  have HZ7 := Lib.hid hz7
  clear hw7 hz7 m1 m2 n1 n2 u1 u2 hR5
  go_wp2_with fail
  go_ret
  exact ⟨_, c3, rfl, hc3, hR7.wide (Nat.le_refl _) (by rw [HZ7.out, HZ5.out]; exact Nat.le_refl _) (Nat.le_refl _), hE7⟩
set_option maxHeartbeats 2000000 in
theorem spec_caSwap (A : Option Addr) (c : Nat) (l : List Bx) (a b : Nat) (lo hi : Nat) (w : World) (hl : l.length ≤ 32) (ha : a < l.length) (hb : b < l.length) (hr : RdB w lo hi A l) :
    Calls Try.prog 104 #[.slice A l.length c, .int .i64 a, .int .i64 b] w fun e w' => ∃ A' c', e = .returned (.slice A' l.length c') ∧ l.length ≤ c' ∧ RdB w' w.heap.size w'.heap.size A' (swp l a b) ∧ Ext w w' := by
  obtain ⟨x, b1, off1, HX, eA, hx3, _, x1, x2, _⟩ := RdB.get hr ha
  subst eA
  obtain ⟨y, b', off', HY, eA, _, _, y1, y2, _⟩ := RdB.get hr hb
  injection eA with eA; injection eA with eb eo _; subst eb; subst eo
  have ia0 : (0 : Int) ≤ a := by omega
  have ia1 : (a : Int) < l.length := by omega
  have ib0 : (0 : Int) ≤ b := by omega
  have ib1 : (b : Int) < l.length := by omega
  obtain ⟨y', hy', hye⟩ := swp_mid HX.out HY.out
  have HY' := Lib.hid hy'
  have HYE := Lib.hid hye
  clear hy' hye
  by_cases hab : a = b
  · subst hab
    obtain rfl : x = y := by have := HX.out.symm.trans HY.out; injection this
    go_enter Try.func104, Try.ntmps104
    go_wp2_with (at_builtin; refine wp_app _ w rfl (.tmp 8) (.tmp 9) 66 rfl 104 _ 4 40 Try.underlying66 infoB rfl (by omega) _ 0 [] rfl (own_lit0 _ _ (Nat.le_refl _) (Ext.refl _)) (by repeat (first | exact Ext.refl _ | assumption | refine Ext.trans ?_ (Ext.alloc _ _) | refine Ext.trans ?_ (Ext.drew _) | refine Ext.trans ?_ (Ext.drewN _ _) | refine Ext.trans ?_ (by assumption))) _ _ _ l.length _ (l.flatMap Bx.enc) rfl (lenB l) (Rd.toA (hr.ext (by repeat (first | exact Ext.refl _ | assumption | refine Ext.trans ?_ (Ext.alloc _ _) | refine Ext.trans ?_ (Ext.drew _) | refine Ext.trans ?_ (Ext.drewN _ _) | refine Ext.trans ?_ (by assumption))))) (boxes_one l) (by omega) (by simp) ?_; intro v3 w3 hown3 hE3 hg3 hat3; rw [Nat.zero_add, List.nil_append] at hown3; obtain ⟨g, c3, rfl, hg1, hgl, hc3⟩ := own_some hown3 (by omega); have hR3 : RdB w3 w.heap.size w3.heap.size (some ⟨g, 0, none⟩) l := Rd.of_own hown3; clear hown3 hg3 hat3; have u1 := hE3.cell y1; have u2 := hE3.cell y2; have u3 := hE3.cell x1; have u4 := hE3.cell x2; obtain ⟨_, _, ⟨m1, n1⟩, ⟨m2, n2⟩, _⟩ := RdB.getW hR3 HX.out; obtain ⟨_, _, ⟨m3, n3⟩, ⟨m4, n4⟩, _⟩ := RdB.getW hR3 HY.out; have hbg : ¬ b1 = g := (by omega); have hgb : ¬ g = b1 := (by omega); have hb3 : b1 < w3.heap.size := (by omega))
    go_ret
    have h := RdB.setRC (RdB.setRC hR3 HX.out x.row x.column) HY'.out x.row x.column
    rw [HYE.out, ← swp_of HX.out HY.out] at h
    exact ⟨_, c3, rfl, hc3, Rd.wide h (Nat.le_refl _) (by simp [World.setCell]) (Nat.le_refl _), by repeat (first | exact hE3 | refine Ext.setCell ?_ hg1 _)⟩
  · have hba : ¬ b = a := fun h => hab h.symm
    go_enter Try.func104, Try.ntmps104
    go_wp2_with (at_builtin; refine wp_app _ w rfl (.tmp 8) (.tmp 9) 66 rfl 104 _ 4 40 Try.underlying66 infoB rfl (by omega) _ 0 [] rfl (own_lit0 _ _ (Nat.le_refl _) (Ext.refl _)) (by repeat (first | exact Ext.refl _ | assumption | refine Ext.trans ?_ (Ext.alloc _ _) | refine Ext.trans ?_ (Ext.drew _) | refine Ext.trans ?_ (Ext.drewN _ _) | refine Ext.trans ?_ (by assumption))) _ _ _ l.length _ (l.flatMap Bx.enc) rfl (lenB l) (Rd.toA (hr.ext (by repeat (first | exact Ext.refl _ | assumption | refine Ext.trans ?_ (Ext.alloc _ _) | refine Ext.trans ?_ (Ext.drew _) | refine Ext.trans ?_ (Ext.drewN _ _) | refine Ext.trans ?_ (by assumption))))) (boxes_one l) (by omega) (by simp) ?_; intro v3 w3 hown3 hE3 hg3 hat3; rw [Nat.zero_add, List.nil_append] at hown3; obtain ⟨g, c3, rfl, hg1, hgl, hc3⟩ := own_some hown3 (by omega); have hR3 : RdB w3 w.heap.size w3.heap.size (some ⟨g, 0, none⟩) l := Rd.of_own hown3; clear hown3 hg3 hat3; have u1 := hE3.cell y1; have u2 := hE3.cell y2; have u3 := hE3.cell x1; have u4 := hE3.cell x2; obtain ⟨_, _, ⟨m1, n1⟩, ⟨m2, n2⟩, _⟩ := RdB.getW hR3 HX.out; obtain ⟨_, _, ⟨m3, n3⟩, ⟨m4, n4⟩, _⟩ := RdB.getW hR3 HY.out; have hbg : ¬ b1 = g := (by omega); have hgb : ¬ g = b1 := (by omega); have hb3 : b1 < w3.heap.size := (by omega))
    go_ret
    have h := RdB.setRC (RdB.setRC hR3 HX.out y.row y.column) HY'.out x.row x.column
    rw [HYE.out, ← swp_of HX.out HY.out] at h
    exact ⟨_, c3, rfl, hc3, Rd.wide h (Nat.le_refl _) (by simp [World.setCell]) (Nat.le_refl _), by repeat (first | exact hE3 | refine Ext.setCell ?_ hg1 _)⟩
theorem impl_SwapBoxes (A : Option Addr) (c : Nat) (l : List Bx) (a b : Int) (lo hi : Nat) (w : World) (hl : l.length ≤ 1048577) (hb : ∀ s ∈ l, s.code.size ≤ 1048577) (hcap : l.length ≤ c) (hr : RdB w lo hi A l) :
    Calls Try.prog 58 #[.slice A l.length c, .int .i64 a, .int .i64 b] w (RetB2 w (sbP l a b)) := by
  cases h1 : caseB l
  · rw [sbP_bad (by simp [swB, h1])]
    go_enter Try.func58, Try.ntmps58
    go_wp2_with (first | (go_at_call 105; refine (impl_IsCase A c l lo hi _ hl hb hcap hr).mono ?_; rintro e w1 ⟨rfl, hE1⟩; obtain ⟨hc1, hf1⟩ := bcell hE1; have hs1 := hE1.size; (try simp only [World.size_alloc] at hs1)) | (go_at_call 85; refine (within_any _ _ _ _).mono ?_; rintro e w' ⟨rfl, rfl⟩))
    go_ret2
    exact retB2_lit (by repeat (first | exact Ext.refl _ | assumption | refine Ext.trans ?_ (Ext.alloc _ _) | refine Ext.trans ?_ (Ext.drew _) | refine Ext.trans ?_ (Ext.drewN _ _) | refine Ext.trans ?_ (by assumption)))
  cases h2 : inB a 0 ((l.length : Int) - 1)
  · rw [sbP_bad (by simp [swB, h1, h2])]
    go_enter Try.func58, Try.ntmps58
    go_wp2_with (first | (go_at_call 105; refine (impl_IsCase A c l lo hi _ hl hb hcap hr).mono ?_; rintro e w1 ⟨rfl, hE1⟩; obtain ⟨hc1, hf1⟩ := bcell hE1; have hs1 := hE1.size; (try simp only [World.size_alloc] at hs1)) | (go_at_call 85; refine (within_any _ _ _ _).mono ?_; rintro e w' ⟨rfl, rfl⟩))
    go_ret2
    exact retB2_lit (by repeat (first | exact Ext.refl _ | assumption | refine Ext.trans ?_ (Ext.alloc _ _) | refine Ext.trans ?_ (Ext.drew _) | refine Ext.trans ?_ (Ext.drewN _ _) | refine Ext.trans ?_ (by assumption)))
  cases h3 : inB b 0 ((l.length : Int) - 1)
  · rw [sbP_bad (by simp [swB, h1, h2, h3])]
    go_enter Try.func58, Try.ntmps58
    go_wp2_with (first | (go_at_call 105; refine (impl_IsCase A c l lo hi _ hl hb hcap hr).mono ?_; rintro e w1 ⟨rfl, hE1⟩; obtain ⟨hc1, hf1⟩ := bcell hE1; have hs1 := hE1.size; (try simp only [World.size_alloc] at hs1)) | (go_at_call 85; refine (within_any _ _ _ _).mono ?_; rintro e w' ⟨rfl, rfl⟩))
    go_ret2
    exact retB2_lit (by repeat (first | exact Ext.refl _ | assumption | refine Ext.trans ?_ (Ext.alloc _ _) | refine Ext.trans ?_ (Ext.drew _) | refine Ext.trans ?_ (Ext.drewN _ _) | refine Ext.trans ?_ (by assumption)))
  obtain ⟨q1, q2⟩ := case_len h1
  obtain ⟨a1, a2⟩ := inB_iff.1 h2
  obtain ⟨b1, b2⟩ := inB_iff.1 h3
  obtain ⟨a, rfl⟩ : ∃ n : Nat, a = n := ⟨a.toNat, by omega⟩
  obtain ⟨b, rfl⟩ : ∃ n : Nat, b = n := ⟨b.toNat, by omega⟩
  rw [sbP_good (by simp [swB, h1, h2, h3])]
  simp only [Int.toNat_natCast]
  obtain ⟨ns, hns⟩ : ∃ ns, ns = swp l a b := ⟨_, rfl⟩
  have hnl : ns.length = l.length := by rw [hns, swp_len]
  have HNS := Lib.hid hns; have HNL := Lib.hid hnl
  rw [← hns]
  clear hns hnl
  go_enter Try.func58, Try.ntmps58
  go_wp2_with (first | (go_at_call 105; refine (impl_IsCase A c l lo hi _ hl hb hcap hr).mono ?_; rintro e w1 ⟨rfl, hE1⟩; obtain ⟨hc1, hf1⟩ := bcell hE1; have hs1 := hE1.size; (try simp only [World.size_alloc] at hs1)) | (go_at_call 85; refine (within_any _ _ _ _).mono ?_; rintro e w' ⟨rfl, rfl⟩))
  refine (impl_swap A c l a b lo hi _ q2 (by omega) (by omega) (hr.ext hE1)).mono ?_
  rw [← HNS.out]
  rintro e w5 ⟨A5, c5, rfl, hc5, hR5, hE5⟩
  rw [← HNL.out] at hc5 ⊢
  go_wp2_with fail
  go_ret2
  exact ⟨A5, c5, rfl, hc5, hR5.wide hE1.size (Nat.le_refl _) (Nat.le_refl _), hE1.trans hE5⟩
theorem spec_SwapBoxes (A : Option Addr) (c : Nat) (l : List Bx) (a b : Int) (lo hi : Nat) (w : World) (hl : l.length ≤ 1048577) (hb : ∀ s ∈ l, s.code.size ≤ 1048577) (hcap : l.length ≤ c) (hr : RdB w lo hi A l) :
    Calls Try.prog 57 #[.slice A l.length c, .int .i64 a, .int .i64 b] w (RetB2 w (sbP l a b)) := by
  cases h1 : caseB l
  · rw [sbP_bad (by simp [swB, h1])]
    go_enter Try.func57, Try.ntmps57
    go_wp2_with (first | (go_at_call 103; refine (spec_caGood A c l lo hi _ hl hb hcap hr).mono ?_; rintro e w1 ⟨rfl, hE1⟩; obtain ⟨hc1, hf1⟩ := bcell hE1; have hs1 := hE1.size; (try simp only [World.size_alloc] at hs1)) | (go_at_call 81; refine (l1In_any _ _ _ _).mono ?_; rintro e w' ⟨rfl, rfl⟩))
    go_ret2
    exact retB2_lit (by repeat (first | exact Ext.refl _ | assumption | refine Ext.trans ?_ (Ext.alloc _ _) | refine Ext.trans ?_ (Ext.drew _) | refine Ext.trans ?_ (Ext.drewN _ _) | refine Ext.trans ?_ (by assumption)))
  cases h2 : inB a 0 ((l.length : Int) - 1)
  · rw [sbP_bad (by simp [swB, h1, h2])]
    go_enter Try.func57, Try.ntmps57
    go_wp2_with (first | (go_at_call 103; refine (spec_caGood A c l lo hi _ hl hb hcap hr).mono ?_; rintro e w1 ⟨rfl, hE1⟩; obtain ⟨hc1, hf1⟩ := bcell hE1; have hs1 := hE1.size; (try simp only [World.size_alloc] at hs1)) | (go_at_call 81; refine (l1In_any _ _ _ _).mono ?_; rintro e w' ⟨rfl, rfl⟩))
    go_ret2
    exact retB2_lit (by repeat (first | exact Ext.refl _ | assumption | refine Ext.trans ?_ (Ext.alloc _ _) | refine Ext.trans ?_ (Ext.drew _) | refine Ext.trans ?_ (Ext.drewN _ _) | refine Ext.trans ?_ (by assumption)))
  cases h3 : inB b 0 ((l.length : Int) - 1)
  · rw [sbP_bad (by simp [swB, h1, h2, h3])]
    go_enter Try.func57, Try.ntmps57
    go_wp2_with (first | (go_at_call 103; refine (spec_caGood A c l lo hi _ hl hb hcap hr).mono ?_; rintro e w1 ⟨rfl, hE1⟩; obtain ⟨hc1, hf1⟩ := bcell hE1; have hs1 := hE1.size; (try simp only [World.size_alloc] at hs1)) | (go_at_call 81; refine (l1In_any _ _ _ _).mono ?_; rintro e w' ⟨rfl, rfl⟩))
    go_ret2
    exact retB2_lit (by repeat (first | exact Ext.refl _ | assumption | refine Ext.trans ?_ (Ext.alloc _ _) | refine Ext.trans ?_ (Ext.drew _) | refine Ext.trans ?_ (Ext.drewN _ _) | refine Ext.trans ?_ (by assumption)))
  obtain ⟨q1, q2⟩ := case_len h1
  obtain ⟨a1, a2⟩ := inB_iff.1 h2
  obtain ⟨b1, b2⟩ := inB_iff.1 h3
  obtain ⟨a, rfl⟩ : ∃ n : Nat, a = n := ⟨a.toNat, by omega⟩
  obtain ⟨b, rfl⟩ : ∃ n : Nat, b = n := ⟨b.toNat, by omega⟩
  rw [sbP_good (by simp [swB, h1, h2, h3])]
  simp only [Int.toNat_natCast]
  obtain ⟨ns, hns⟩ : ∃ ns, ns = swp l a b := ⟨_, rfl⟩
  have hnl : ns.length = l.length := by rw [hns, swp_len]
  have HNS := Lib.hid hns; have HNL := Lib.hid hnl
  rw [← hns]
  clear hns hnl
  go_enter Try.func57, Try.ntmps57
  go_wp2_with (first | (go_at_call 103; refine (spec_caGood A c l lo hi _ hl hb hcap hr).mono ?_; rintro e w1 ⟨rfl, hE1⟩; obtain ⟨hc1, hf1⟩ := bcell hE1; have hs1 := hE1.size; (try simp only [World.size_alloc] at hs1)) | (go_at_call 81; refine (l1In_any _ _ _ _).mono ?_; rintro e w' ⟨rfl, rfl⟩))
  refine (spec_caSwap A c l a b lo hi _ q2 (by omega) (by omega) (hr.ext hE1)).mono ?_
  rw [← HNS.out]
  rintro e w5 ⟨A5, c5, rfl, hc5, hR5, hE5⟩
  rw [← HNL.out] at hc5 ⊢
  go_wp2_with fail
  go_ret2
  exact ⟨A5, c5, rfl, hc5, hR5.wide hE1.size (Nat.le_refl _) (Nat.le_refl _), hE1.trans hE5⟩
set_option maxHeartbeats 2000000 in
theorem impl_changed (A B : Option Addr) (c d : Nat) (l : List Bx) (cs : List ByteArray) (by_ : Int) (lo hi lo' hi' : Nat) (w : World) (d1 : -1 ≤ by_) (d2 : by_ ≤ 1) (hl : l.length ≤ 1048577) (hb : ∀ s ∈ l, s.code.size ≤ 1048577) (hcap : l.length ≤ c) (hl' : cs.length ≤ 1048577) (hr : RdB w lo hi A l) (hr' : RdT w lo' hi' B cs) :
    Calls Try.prog 101 #[.slice A l.length c, .slice B cs.length d, .int .i64 by_] w (RetB2 w (moP l cs by_)) := by
  cases hok : codesOk l cs
  · rw [moP_bad (by simp [hok])]
    go_enter Try.func101, Try.ntmps101
    go_wp2_with (go_at_call 128; refine (impl_areCodes A B c d l cs lo hi lo' hi' _ hl hb hcap hl' hr hr').mono ?_; rintro e w1 ⟨rfl, hE1⟩; obtain ⟨hc1, hf1⟩ := bcell hE1; have hs1 := hE1.size; (try simp only [World.size_alloc] at hs1))
    go_ret2
    exact retB2_lit (by repeat (first | exact Ext.refl _ | assumption | refine Ext.trans ?_ (Ext.alloc _ _) | refine Ext.trans ?_ (Ext.drew _) | refine Ext.trans ?_ (Ext.drewN _ _) | refine Ext.trans ?_ (by assumption)))
  obtain ⟨hin, hcase, h60⟩ := codesOk_parts hok
  obtain ⟨q1, q2⟩ := case_len hcase
  obtain ⟨_, b1, off1, _, eA, _⟩ := RdB.get hr (k := 0) (by omega)
  subst eA
  have HOK := Lib.hid hok; have HIN := Lib.hid hin; have HCASE := Lib.hid hcase
  obtain ⟨P, hP⟩ : ∃ P, P = moP l cs by_ := ⟨_, rfl⟩
  rw [← hP]
  have HP := Lib.hid hP; clear hP
  have HSZ : Hid (∀ k, ∀ s ∈ chTo l cs by_ k, s.code.size ≤ 1048577) := fun k => chTo_size cs by_ k hb
  have HBD : Hid (∀ k, ∀ x ∈ chTo l cs by_ k, -(k : Int) ≤ x.count ∧ x.count ≤ 9999 + k) := fun k => chTo_bound hcase cs d1 d2 k
  go_enter Try.func101, Try.ntmps101
  go_wp2_with (first | (go_at_call 128; refine (impl_areCodes _ B c d l cs lo hi lo' hi' _ hl hb hcap hl' hr hr').mono ?_; rintro e w1 ⟨rfl, hE1⟩; obtain ⟨hc1, hf1⟩ := bcell hE1; have hs1 := hE1.size; (try simp only [World.size_alloc] at hs1)) | (at_builtin; refine wp_app _ w1 rfl (.tmp 16) (.tmp 17) 66 rfl 104 _ 4 40 Try.underlying66 infoB rfl (by omega) _ 0 [] rfl (own_lit0 _ _ (Nat.le_refl _) (Ext.refl _)) (by repeat (first | exact Ext.refl _ | assumption | refine Ext.trans ?_ (Ext.alloc _ _) | refine Ext.trans ?_ (Ext.drew _) | refine Ext.trans ?_ (Ext.drewN _ _) | refine Ext.trans ?_ (by assumption))) _ _ _ l.length _ (l.flatMap Bx.enc) rfl (lenB l) (Rd.toA (hr.ext (by repeat (first | exact Ext.refl _ | assumption | refine Ext.trans ?_ (Ext.alloc _ _) | refine Ext.trans ?_ (Ext.drew _) | refine Ext.trans ?_ (Ext.drewN _ _) | refine Ext.trans ?_ (by assumption))))) (boxes_one l) (by omega) (by simp) ?_; intro v3 w3 hown3 hE3 hg3 hat3; rw [Nat.zero_add, List.nil_append] at hown3; obtain ⟨g, c3, rfl, hg1, hgl, hc3⟩ := own_some hown3 (by omega); have hR3 : RdB w3 w1.heap.size w3.heap.size (some ⟨g, 0, none⟩) l := Rd.of_own hown3; clear hown3 hg3 hat3))
  clear hc1 hf1 hin hcase hok hb
  have hEW : Ext w w3 := hE1.trans hE3
  have hz3 := hEW.size
  have hg0 : w.heap.size ≤ g := by have := hE1.size; omega
  obtain ⟨H, hH⟩ : ∃ H, H = w3.heap.size := ⟨_, rfl⟩
  rw [← hH] at hR3
  replace hR3 : RdB w3 w.heap.size H (some ⟨g, 0, none⟩) l := Rd.wide hR3 (by have := hE1.size; omega) (Nat.le_refl _) (by omega)
  clear hH
  have hl0 : ∀ k, (chTo l cs by_ k).length = l.length := fun k => chTo_len l cs by_ k
  have HL0 := Lib.hid hl0; clear hl0
  go_loopw [21] (fun j wr => ∃ k : Nat, k ≤ cs.length ∧ j = .int .i64 k ∧ RdB wr w.heap.size H (some ⟨g, 0, none⟩) (chTo l cs by_ k) ∧ Ext w wr) (fun j _ => cs.length - (intOf j).toNat)
  case atStart => exact ⟨0, Nat.zero_le _, rfl, hR3, hEW⟩
  case round =>
    clear hR3 hE3 hEW
    obtain ⟨k, hk, rfl, hR, hE⟩ := hrel
    have hln := HL0.out k
    obtain ⟨ms, hms⟩ : ∃ ms, ms = chTo l cs by_ k := ⟨_, rfl⟩
    rw [← hms] at hR hln
    have HMS := Lib.hid hms
    have hln1 : ms.length ≤ l.length := by omega
    have hln2 : l.length ≤ ms.length := by omega
    have HLN := Lib.hid hln
    clear hln hms
    by_cases hlt : k < cs.length
    · obtain ⟨s, b, off, HX, eA, h3, c0⟩ := RdT.get (hr'.ext hE) hlt
      subst eA
      have hf0 := HIN.out s (List.mem_of_getElem? HX.out)
      have hf1 := bxF_lt l s
      obtain ⟨i, hi0⟩ : ∃ i : Nat, bxF l s = i := ⟨(bxF l s).toNat, by omega⟩
      have hil : i < ms.length := by omega
      have hx : ms[i]? = some ms[i] := List.getElem?_eq_getElem hil
      obtain ⟨x, hxe⟩ : ∃ x, x = ms[i] := ⟨_, rfl⟩
      rw [← hxe] at hx
      obtain ⟨x1, x2⟩ := HBD.out k x (by rw [← HMS.out]; exact List.mem_of_getElem? hx)
      have HS : Hid (chTo l cs by_ (k + 1) = ms.set i { x with count := x.count + by_ }) := by show _ = _; rw [chTo_succ HX.out, hi0, Int.toNat_natCast, ← HMS.out, bump_of hx]
      have HI0 := Lib.hid hi0; have HXX := Lib.hid hx
      have HBF : Hid (bxF l s = (i : Int)) := HI0.out
      clear hi0 hxe hx hf0 hf1
      go_wp2_with fail
      refine (impl_boxAt _ c l s lo hi _ hl (hr.ext hE)).mono ?_
      skip
      rw [HBF.out]
      rintro e w6 ⟨rfl, hE6⟩
      have hR6 := RdB.ext hR hE6
      obtain ⟨_, g6, _, _, ⟨m3, n3⟩⟩ := RdB.getW hR6 HXX.out
      have i0 : (0 : Int) ≤ i := by omega
      have i1 : (i : Int) < l.length := by omega
      go_wp2
      go_roundw
      case rel => exact ⟨k + 1, by omega, by go_num, by rw [HS.out]; exact RdB.setN hR6 HXX.out _, Ext.setCell (hE.trans hE6) hg0 _⟩
      case measure => simp [intOf]; omega
    · have hkl : k = cs.length := by omega
      subst hkl
      clear hlt hk
      have hwd : RdB wr w.heap.size wr.heap.size (some ⟨g, 0, none⟩) ms := Rd.wide hR (Nat.le_refl _) hR.1 (Nat.le_refl _)
      have hbs : ∀ s ∈ ms, s.code.size ≤ 1048577 := by rw [HMS.out]; exact HSZ.out _
      have hc4 : ms.length ≤ c3 := by omega
      rw [← HLN.out]
      have HBS := Lib.hid hbs
      clear hbs
      cases h4 : caseB ms
      · have HV : Hid (P = ([], false)) := by show _ = _; rw [HP.out]; exact moP_bad (by rw [← HMS.out, h4]; simp)
        go_wp2_with fail
        refine (impl_IsCase _ c3 ms _ _ _ (by omega) HBS.out hc4 hwd).mono ?_
        rw [h4]
        rintro e w9 ⟨rfl, hE9⟩
        go_wp2_with fail
        go_ret2
        rw [HV.out]
        exact retB2_lit (by repeat (first | exact Ext.refl _ | assumption | refine Ext.trans ?_ (Ext.alloc _ _) | refine Ext.trans ?_ (Ext.drew _) | refine Ext.trans ?_ (Ext.drewN _ _) | refine Ext.trans ?_ (by assumption)))
      · have HV : Hid (P = (ms, true)) := by show _ = _; rw [HP.out, HMS.out]; exact moP_good HOK.out (by rw [← HMS.out]; exact h4)
        go_wp2_with fail
        refine (impl_IsCase _ c3 ms _ _ _ (by omega) HBS.out hc4 hwd).mono ?_
        rw [h4]
        rintro e w9 ⟨rfl, hE9⟩
        go_wp2_with fail
        go_ret2
        rw [HV.out]
        exact ⟨_, c3, rfl, hc4, (Rd.ext hwd hE9).wide (Nat.le_refl _) hE9.size (Nat.le_refl _), hE.trans hE9⟩
set_option maxHeartbeats 2000000 in
theorem spec_caMove (A B : Option Addr) (c d : Nat) (l : List Bx) (cs : List ByteArray) (by_ : Int) (lo hi lo' hi' : Nat) (w : World) (d1 : -1 ≤ by_) (d2 : by_ ≤ 1) (hl : l.length ≤ 1048577) (hb : ∀ s ∈ l, s.code.size ≤ 1048577) (hcap : l.length ≤ c) (hl' : cs.length ≤ 1048577) (hok : codesOk l cs = true) (hr : RdB w lo hi A l) (hr' : RdT w lo' hi' B cs) :
    Calls Try.prog 99 #[.slice A l.length c, .slice B cs.length d, .int .i64 by_] w (RetB2 w (moP l cs by_)) := by
  obtain ⟨hin, hcase, h60⟩ := codesOk_parts hok
  obtain ⟨q1, q2⟩ := case_len hcase
  obtain ⟨_, b1, off1, _, eA, _⟩ := RdB.get hr (k := 0) (by omega)
  subst eA
  have HOK := Lib.hid hok; have HIN := Lib.hid hin; have HCASE := Lib.hid hcase
  obtain ⟨P, hP⟩ : ∃ P, P = moP l cs by_ := ⟨_, rfl⟩
  rw [← hP]
  have HP := Lib.hid hP; clear hP
  have HSZ : Hid (∀ k, ∀ s ∈ chTo l cs by_ k, s.code.size ≤ 1048577) := fun k => chTo_size cs by_ k hb
  have HBD : Hid (∀ k, ∀ x ∈ chTo l cs by_ k, -(k : Int) ≤ x.count ∧ x.count ≤ 9999 + k) := fun k => chTo_bound hcase cs d1 d2 k
  go_enter Try.func99, Try.ntmps99
  go_wp2_with (at_builtin; refine wp_app _ w rfl (.tmp 11) (.tmp 12) 66 rfl 104 _ 4 40 Try.underlying66 infoB rfl (by omega) _ 0 [] rfl (own_lit0 _ _ (Nat.le_refl _) (Ext.refl _)) (by repeat (first | exact Ext.refl _ | assumption | refine Ext.trans ?_ (Ext.alloc _ _) | refine Ext.trans ?_ (Ext.drew _) | refine Ext.trans ?_ (Ext.drewN _ _) | refine Ext.trans ?_ (by assumption))) _ _ _ l.length _ (l.flatMap Bx.enc) rfl (lenB l) (Rd.toA (hr.ext (by repeat (first | exact Ext.refl _ | assumption | refine Ext.trans ?_ (Ext.alloc _ _) | refine Ext.trans ?_ (Ext.drew _) | refine Ext.trans ?_ (Ext.drewN _ _) | refine Ext.trans ?_ (by assumption))))) (boxes_one l) (by omega) (by simp) ?_; intro v3 w3 hown3 hE3 hg3 hat3; rw [Nat.zero_add, List.nil_append] at hown3; obtain ⟨g, c3, rfl, hg1, hgl, hc3⟩ := own_some hown3 (by omega); have hR3 : RdB w3 w.heap.size w3.heap.size (some ⟨g, 0, none⟩) l := Rd.of_own hown3; clear hown3 hg3 hat3)
  clear hin hcase hok hb
  have hEW : Ext w w3 := hE3
  have hz3 := hEW.size
  have hg0 : w.heap.size ≤ g := by omega
  obtain ⟨H, hH⟩ : ∃ H, H = w3.heap.size := ⟨_, rfl⟩
  rw [← hH] at hR3
  replace hR3 : RdB w3 w.heap.size H (some ⟨g, 0, none⟩) l := Rd.wide hR3 (by omega) (Nat.le_refl _) (by omega)
  clear hH
  have hl0 : ∀ k, (chTo l cs by_ k).length = l.length := fun k => chTo_len l cs by_ k
  have HL0 := Lib.hid hl0; clear hl0
  go_loopw [16] (fun j wr => ∃ k : Nat, k ≤ cs.length ∧ j = .int .i64 k ∧ RdB wr w.heap.size H (some ⟨g, 0, none⟩) (chTo l cs by_ k) ∧ Ext w wr) (fun j _ => cs.length - (intOf j).toNat)
  case atStart => exact ⟨0, Nat.zero_le _, rfl, hR3, hEW⟩
  case round =>
    clear hR3 hE3 hEW
    obtain ⟨k, hk, rfl, hR, hE⟩ := hrel
    have hln := HL0.out k
    obtain ⟨ms, hms⟩ : ∃ ms, ms = chTo l cs by_ k := ⟨_, rfl⟩
    rw [← hms] at hR hln
    have HMS := Lib.hid hms
    have hln1 : ms.length ≤ l.length := by omega
    have hln2 : l.length ≤ ms.length := by omega
    have HLN := Lib.hid hln
    clear hln hms
    by_cases hlt : k < cs.length
    · obtain ⟨s, b, off, HX, eA, h3, c0⟩ := RdT.get (hr'.ext hE) hlt
      subst eA
      have hf0 := HIN.out s (List.mem_of_getElem? HX.out)
      have hf1 := bxF_lt l s
      obtain ⟨i, hi0⟩ : ∃ i : Nat, bxF l s = i := ⟨(bxF l s).toNat, by omega⟩
      have hil : i < ms.length := by omega
      have hx : ms[i]? = some ms[i] := List.getElem?_eq_getElem hil
      obtain ⟨x, hxe⟩ : ∃ x, x = ms[i] := ⟨_, rfl⟩
      rw [← hxe] at hx
      obtain ⟨x1, x2⟩ := HBD.out k x (by rw [← HMS.out]; exact List.mem_of_getElem? hx)
      have HS : Hid (chTo l cs by_ (k + 1) = ms.set i { x with count := x.count + by_ }) := by show _ = _; rw [chTo_succ HX.out, hi0, Int.toNat_natCast, ← HMS.out, bump_of hx]
      have HI0 := Lib.hid hi0; have HXX := Lib.hid hx
      have HBF : Hid (bxF ms s = (i : Int)) := by show _ = _; rw [← HI0.out]; exact bxF_codes (by rw [HMS.out, chTo_codes]) s
      clear hi0 hxe hx hf0 hf1
      go_wp2_with fail
      have hq := spec_caFind (some ⟨g, 0, none⟩) c3 ms s _ _ wr (by omega) hR
      rw [HLN.out] at hq; refine hq.mono ?_; clear hq
      rw [HBF.out]
      rintro e w6 ⟨rfl, hE6⟩
      have hR6 := RdB.ext hR hE6
      obtain ⟨_, g6, _, _, ⟨m3, n3⟩⟩ := RdB.getW hR6 HXX.out
      have i0 : (0 : Int) ≤ i := by omega
      have i1 : (i : Int) < l.length := by omega
      go_wp2
      go_roundw
      case rel => exact ⟨k + 1, by omega, by go_num, by rw [HS.out]; exact RdB.setN hR6 HXX.out _, Ext.setCell (hE.trans hE6) hg0 _⟩
      case measure => simp [intOf]; omega
    · have hkl : k = cs.length := by omega
      subst hkl
      clear hlt hk
      have hwd : RdB wr w.heap.size wr.heap.size (some ⟨g, 0, none⟩) ms := Rd.wide hR (Nat.le_refl _) hR.1 (Nat.le_refl _)
      have hbs : ∀ s ∈ ms, s.code.size ≤ 1048577 := by rw [HMS.out]; exact HSZ.out _
      have hc4 : ms.length ≤ c3 := by omega
      rw [← HLN.out]
      have HBS := Lib.hid hbs
      clear hbs
      cases h4 : caseB ms
      · have HV : Hid (P = ([], false)) := by show _ = _; rw [HP.out]; exact moP_bad (by rw [← HMS.out, h4]; simp)
        go_wp2_with fail
        refine (spec_caGood _ c3 ms _ _ _ (by omega) HBS.out hc4 hwd).mono ?_
        rw [h4]
        rintro e w9 ⟨rfl, hE9⟩
        go_wp2_with fail
        go_ret2
        rw [HV.out]
        exact retB2_lit (by repeat (first | exact Ext.refl _ | assumption | refine Ext.trans ?_ (Ext.alloc _ _) | refine Ext.trans ?_ (Ext.drew _) | refine Ext.trans ?_ (Ext.drewN _ _) | refine Ext.trans ?_ (by assumption)))
      · have HV : Hid (P = (ms, true)) := by show _ = _; rw [HP.out, HMS.out]; exact moP_good HOK.out (by rw [← HMS.out]; exact h4)
        go_wp2_with fail
        refine (spec_caGood _ c3 ms _ _ _ (by omega) HBS.out hc4 hwd).mono ?_
        rw [h4]
        rintro e w9 ⟨rfl, hE9⟩
        go_wp2_with fail
        go_ret2
        rw [HV.out]
        exact ⟨_, c3, rfl, hc4, (Rd.ext hwd hE9).wide (Nat.le_refl _) hE9.size (Nat.le_refl _), hE.trans hE9⟩
theorem impl_TakeTypes (A B : Option Addr) (c d : Nat) (l : List Bx) (cs : List ByteArray) (lo hi lo' hi' : Nat) (w : World) (hl : l.length ≤ 1048577) (hb : ∀ s ∈ l, s.code.size ≤ 1048577) (hcap : l.length ≤ c) (hl' : cs.length ≤ 1048577) (hr : RdB w lo hi A l) (hr' : RdT w lo' hi' B cs) :
    Calls Try.prog 60 #[.slice A l.length c, .slice B cs.length d] w (RetB2 w (moP l cs (-1))) := by
  go_enter Try.func60, Try.ntmps60
  go_wp2_with fail
  refine (impl_changed A B c d l cs (-1) lo hi lo' hi' _ (by omega) (by omega) hl hb hcap hl' hr hr').mono ?_
  rintro e w3 ⟨A3, c3, rfl, hc3, hR3, hE3⟩
  go_wp2_with fail
  go_ret2
  exact ⟨A3, c3, rfl, hc3, hR3, hE3⟩
theorem spec_TakeTypes (A B : Option Addr) (c d : Nat) (l : List Bx) (cs : List ByteArray) (lo hi lo' hi' : Nat) (w : World) (hl : l.length ≤ 1048577) (hb : ∀ s ∈ l, s.code.size ≤ 1048577) (hcap : l.length ≤ c) (hl' : cs.length ≤ 1048577) (hr : RdB w lo hi A l) (hr' : RdT w lo' hi' B cs) :
    Calls Try.prog 59 #[.slice A l.length c, .slice B cs.length d] w (RetB2 w (moP l cs (-1))) := by
  cases hok : codesOk l cs
  · rw [moP_bad (by simp [hok])]
    go_enter Try.func59, Try.ntmps59
    go_wp2_with (go_at_call 98; refine (spec_caAsked A B c d l cs lo hi lo' hi' _ hl hb hcap hl' hr hr').mono ?_; rintro e w1 ⟨rfl, hE1⟩; obtain ⟨hc1, hf1⟩ := bcell hE1; have hs1 := hE1.size; (try simp only [World.size_alloc] at hs1))
    go_ret2
    exact retB2_lit (by repeat (first | exact Ext.refl _ | assumption | refine Ext.trans ?_ (Ext.alloc _ _) | refine Ext.trans ?_ (Ext.drew _) | refine Ext.trans ?_ (Ext.drewN _ _) | refine Ext.trans ?_ (by assumption)))
  · go_enter Try.func59, Try.ntmps59
    go_wp2_with (go_at_call 98; refine (spec_caAsked A B c d l cs lo hi lo' hi' _ hl hb hcap hl' hr hr').mono ?_; rintro e w1 ⟨rfl, hE1⟩; obtain ⟨hc1, hf1⟩ := bcell hE1; have hs1 := hE1.size; (try simp only [World.size_alloc] at hs1))
    refine (spec_caMove A B c d l cs (-1) lo hi lo' hi' _ (by omega) (by omega) hl hb hcap hl' hok (hr.ext hE1) (hr'.ext hE1)).mono ?_
    rintro e w3 ⟨A3, c3, rfl, hc3, hR3, hE3⟩
    go_wp2_with fail
    go_ret2
    exact ⟨A3, c3, rfl, hc3, hR3.wide hE1.size (Nat.le_refl _) (Nat.le_refl _), hE1.trans hE3⟩
theorem impl_PutTypes (A B : Option Addr) (c d : Nat) (l : List Bx) (cs : List ByteArray) (lo hi lo' hi' : Nat) (w : World) (hl : l.length ≤ 1048577) (hb : ∀ s ∈ l, s.code.size ≤ 1048577) (hcap : l.length ≤ c) (hl' : cs.length ≤ 1048577) (hr : RdB w lo hi A l) (hr' : RdT w lo' hi' B cs) :
    Calls Try.prog 53 #[.slice A l.length c, .slice B cs.length d] w (RetB2 w (moP l cs (1))) := by
  go_enter Try.func53, Try.ntmps53
  go_wp2_with fail
  refine (impl_changed A B c d l cs (1) lo hi lo' hi' _ (by omega) (by omega) hl hb hcap hl' hr hr').mono ?_
  rintro e w3 ⟨A3, c3, rfl, hc3, hR3, hE3⟩
  go_wp2_with fail
  go_ret2
  exact ⟨A3, c3, rfl, hc3, hR3, hE3⟩
theorem spec_PutTypes (A B : Option Addr) (c d : Nat) (l : List Bx) (cs : List ByteArray) (lo hi lo' hi' : Nat) (w : World) (hl : l.length ≤ 1048577) (hb : ∀ s ∈ l, s.code.size ≤ 1048577) (hcap : l.length ≤ c) (hl' : cs.length ≤ 1048577) (hr : RdB w lo hi A l) (hr' : RdT w lo' hi' B cs) :
    Calls Try.prog 51 #[.slice A l.length c, .slice B cs.length d] w (RetB2 w (moP l cs (1))) := by
  cases hok : codesOk l cs
  · rw [moP_bad (by simp [hok])]
    go_enter Try.func51, Try.ntmps51
    go_wp2_with (go_at_call 98; refine (spec_caAsked A B c d l cs lo hi lo' hi' _ hl hb hcap hl' hr hr').mono ?_; rintro e w1 ⟨rfl, hE1⟩; obtain ⟨hc1, hf1⟩ := bcell hE1; have hs1 := hE1.size; (try simp only [World.size_alloc] at hs1))
    go_ret2
    exact retB2_lit (by repeat (first | exact Ext.refl _ | assumption | refine Ext.trans ?_ (Ext.alloc _ _) | refine Ext.trans ?_ (Ext.drew _) | refine Ext.trans ?_ (Ext.drewN _ _) | refine Ext.trans ?_ (by assumption)))
  · go_enter Try.func51, Try.ntmps51
    go_wp2_with (go_at_call 98; refine (spec_caAsked A B c d l cs lo hi lo' hi' _ hl hb hcap hl' hr hr').mono ?_; rintro e w1 ⟨rfl, hE1⟩; obtain ⟨hc1, hf1⟩ := bcell hE1; have hs1 := hE1.size; (try simp only [World.size_alloc] at hs1))
    refine (spec_caMove A B c d l cs (1) lo hi lo' hi' _ (by omega) (by omega) hl hb hcap hl' hok (hr.ext hE1) (hr'.ext hE1)).mono ?_
    rintro e w3 ⟨A3, c3, rfl, hc3, hR3, hE3⟩
    go_wp2_with fail
    go_ret2
    exact ⟨A3, c3, rfl, hc3, hR3.wide hE1.size (Nat.le_refl _) (Nat.le_refl _), hE1.trans hE3⟩
end Go.Proofs.Ytnkkpphjahpadaa
