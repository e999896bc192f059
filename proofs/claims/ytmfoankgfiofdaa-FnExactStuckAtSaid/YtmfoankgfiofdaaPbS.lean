/- A number put into a sorted list; what is reached, as a list. -/
import Derived.Test.YtmfoankgfiofdaaPbQ
namespace Go.Proofs.Ytmfoankgfiofdaa
open Go.RowKit
set_option linter.unusedVariables false
/-- The places below j that are reached, in order. -/
def rl (P : Pa) (j : Nat) : List Int := ((List.range j).filter (fun i => rt P j i)).map (fun i : Nat => (i : Int))
theorem rl_mem {P : Pa} {j : Nat} {x : Int} (h : x ∈ rl P j) : ∃ i : Nat, x = i ∧ i < j ∧ rt P j i = true := by
  simp only [rl, List.mem_map, List.mem_filter, List.mem_range] at h
  obtain ⟨i, ⟨h1, h2⟩, rfl⟩ := h
  exact ⟨i, rfl, h1, h2⟩
theorem rl_of {P : Pa} {j i : Nat} (h1 : i < j) (h2 : rt P j i = true) : (i : Int) ∈ rl P j := by
  simp only [rl, List.mem_map, List.mem_filter, List.mem_range]
  exact ⟨i, ⟨h1, h2⟩, rfl⟩
theorem rl_succ (P : Pa) (j : Nat) : rl P (j + 1) = rl P j ++ (if rt P j j then [(j : Int)] else []) := by
  have e : (List.range j).filter (fun i => rt P (j + 1) i) = (List.range j).filter (fun i => rt P j i) := by
    apply List.filter_congr
    intro i hi
    rw [List.mem_range] at hi
    exact rt_low (by omega)
  unfold rl
  rw [List.range_succ, List.filter_append, List.map_append, e]
  congr 1
  rw [List.filter_cons, rt_low (Nat.le_refl j)]
  split <;> simp
theorem rl_len (P : Pa) (j : Nat) : (rl P j).length ≤ j := by
  unfold rl
  rw [List.length_map]
  have := List.length_filter_le (fun i => rt P j i) (List.range j)
  simpa using this
theorem rl_one (P : Pa) : rl P 1 = [0] := by
  have h := rl_succ P 0
  rw [show rl P 0 = [] from rfl] at h
  rw [h, show rt P 0 0 = true from rfl]; rfl
theorem rt_iff {P : Pa} {j : Nat} : ∀ f, f ≤ j → (rt P f j = true ↔ j = 0 ∨ ∃ i, i < f ∧ rt P i i = true ∧ P.ok i j = true)
  | 0, _ => by simp [rt]
  | f + 1, h => by
    rw [rt_succ, Bool.or_eq_true, rt_iff f (by omega), Bool.and_eq_true, Bool.and_eq_true, decide_eq_true_eq]
    constructor
    · rintro ((h | ⟨i, h1, h2⟩) | ⟨h1, h2, h3⟩)
      · exact .inl h
      · exact .inr ⟨i, by omega, h2⟩
      · exact .inr ⟨f, by omega, h1, h3⟩
    · rintro (h | ⟨i, h1, h2, h3⟩)
      · exact .inl (.inl h)
      · by_cases e : i = f
        · subst e; exact .inr ⟨h2, by omega, h3⟩
        · exact .inl (.inr ⟨i, by omega, h2, h3⟩)
/-- Some of the first q places reached has a line to j. -/
def fd (P : Pa) (j q : Nat) : Bool := ((rl P j).take q).any (fun x => P.ok x.toNat j)
theorem fd_succ {P : Pa} {j q : Nat} {x : Int} (h : (rl P j)[q]? = some x) : fd P j (q + 1) = (fd P j q || P.ok x.toNat j) := by
  unfold fd; rw [take_snoc h, List.any_append]; simp
theorem fd_end {P : Pa} {j : Nat} (hj : 1 ≤ j) : fd P j (rl P j).length = rt P j j := by
  unfold fd
  rw [List.take_of_length_le (Nat.le_refl _), Bool.eq_iff_iff, List.any_eq_true, rt_iff j (Nat.le_refl j)]
  constructor
  · rintro ⟨x, hx, h⟩
    obtain ⟨i, rfl, h1, h2⟩ := rl_mem hx
    obtain ⟨d, hd⟩ : ∃ d, j = i + d := ⟨j - i, by omega⟩
    rw [hd, rt_same (Nat.le_refl i)] at h2
    exact .inr ⟨i, h1, h2, h⟩
  · rintro (h | ⟨i, h1, h2, h3⟩)
    · omega
    · obtain ⟨d, hd⟩ : ∃ d, j = i + d := ⟨j - i, by omega⟩
      exact ⟨(i : Int), rl_of h1 (by rw [hd, rt_same (Nat.le_refl i)]; exact h2), h3⟩
theorem mx_next {P : Pa} {j : Nat} : mx (rt P (j + 1)) (j + 1) = if rt P j j then j else mx (rt P j) j := by
  show (if rt P (j + 1) j then j else mx (rt P (j + 1)) j) = _
  rw [rt_low (Nat.le_refl j), mx_congr j (fun i hi => rt_low (P := P) (f := j) (j := i) (by omega))]
theorem mx_one (P : Pa) : mx (rt P 1) 1 = 0 := by rw [mx_next]; rfl
set_option maxHeartbeats 2000000 in
theorem put_new (A : Option Addr) (c : Nat) (l : List Int) (n : Int) (lo hi : Nat) (w : World) (hl : l.length ≤ 100) (hcap : l.length ≤ c) (hlt : ∀ x ∈ l, x < n) (hr : RdI w lo hi A l) :
    Calls Try.prog 55 #[.slice A l.length c, .int .i64 n] w (RetI w (l ++ [n])) := by
  have HLT := Lib.hid hlt; clear hlt
  have HAN : Hid (A = none → l.length = 0) := fun e => by
    rcases Nat.eq_zero_or_pos l.length with h | h
    · exact h
    · obtain ⟨_, _, _, _, e2, _⟩ := RdI.get hr (k := 0) h
      rw [e] at e2; cases e2
  go_enter Try.func55, Try.ntmps55
  go_wp2_with fail
  go_loop [5] (fun i => ∃ k : Nat, k ≤ l.length ∧ i = .int .i64 (k : Int)) (fun i => l.length - (intOf i).toNat)
  case atStart => exact ⟨0, Nat.zero_le _, rfl⟩
  case round =>
    obtain ⟨k, hk, rfl⟩ := hrel
    by_cases hkl : k < l.length
    · obtain ⟨x, b, off, HX, rfl, _, _, h3, c0, _⟩ := RdI.get hr hkl
      have hxn : x < n := HLT.out x (List.mem_of_getElem? HX.out)
      have i1 : (k : Int) < (l.length : Int) := by omega
      go_wp2_with fail
      go_round
      case rel => exact ⟨k + 1, by omega, by go_num⟩
      case measure => (simp [intOf]; try omega)
    · have hke : k = l.length := by omega
      subst hke
      clear hkl
      go_wp2_with (first
        | (at_builtin; refine wp_app _ w rfl (.tmp 34) (.tmp 37) 22 rfl 3 _ 1 8 Try.underlying22 intInfo0 rfl (by omega) _ 0 [] rfl (own_lit0 _ _ (Nat.le_refl _) (Ext.refl _)) (by repeat (first | exact Ext.refl _ | assumption | refine Ext.trans ?_ (Ext.alloc _ _) | refine Ext.trans ?_ (Ext.drew _) | refine Ext.trans ?_ (Ext.drewN _ _) | refine Ext.trans ?_ (by assumption))) _ _ _ l.length _ (l.map (Value.int .i64)) rfl (by simp) (Rd.toA (Rd.ext hr (by repeat (first | exact Ext.refl _ | assumption | refine Ext.trans ?_ (Ext.alloc _ _) | refine Ext.trans ?_ (Ext.drew _) | refine Ext.trans ?_ (Ext.drewN _ _) | refine Ext.trans ?_ (by assumption))))) (ints_one l) (by omega) HAN.out ?_; intro v1 w1 hown1 hE1 hg1 hat1; rw [Nat.zero_add, List.nil_append] at hown1; clear hg1 hat1)
        | (at_builtin; refine wp_app _ w rfl (.tmp 39) (.tmp 41) 22 rfl 3 _ 1 8 Try.underlying22 intInfo0 rfl (by omega) _ _ _ rfl (ownsRow_ext hown1 (Ext.alloc _ _)) (hE1.trans (Ext.alloc _ _)) _ _ _ 1 1 [.int .i64 n] rfl rfl (rdA_new rfl (Ext.refl _)) (by simp [Value.oneCell']) (by omega) (by simp) ?_; intro v2 w2 hown2 hE2 hg2 hat2)
        | (at_builtin; refine wp_app _ w rfl (.tmp 43) (.tmp 46) 22 rfl 3 _ 1 8 Try.underlying22 intInfo0 rfl (by omega) _ (l.length + 1) _ rfl hown2 hE2 0 w2.heap.size _ 0 _ [] rfl rfl ⟨Nat.le_refl _, fun h => absurd rfl h⟩ (by simp) (by omega) (fun _ => rfl) ?_; intro v3 w3 hown3 hE3 hg3 hat3; rw [Nat.add_zero, List.append_nil] at hown3; clear hg3 hat3))
      all_goals
        obtain ⟨A', c', rfl, hc', _⟩ := own_form hown3
        go_ret
        have e : (l ++ [n]).length = l.length + 1 := by simp
        refine ⟨A', c', by rw [e]; rfl, by rw [e]; exact hc', ?_, hE3⟩
        have h := Rd.of_own hown3
        unfold RdI
        rw [List.map_append]
        exact h
set_option maxHeartbeats 2000000 in
theorem put_old (A : Option Addr) (c : Nat) (l : List Int) (n : Int) (m lo hi : Nat) (w : World) (hm : m = l.length + 1) (hl : l.length ≤ 100) (hcap : l.length + 1 ≤ c) (hlt : ∀ x ∈ l, x < n) (hr : RdI w lo hi A (l ++ [n])) :
    Calls Try.prog 55 #[.slice A m c, .int .i64 n] w fun e w' => e = .returned (.slice A (l.length + 1) c) ∧ w = w' := by
  subst hm
  have HLT := Lib.hid hlt; clear hlt
  go_enter Try.func55, Try.ntmps55
  go_wp2_with fail
  go_loop [5] (fun i => ∃ k : Nat, k ≤ l.length ∧ i = .int .i64 (k : Int)) (fun i => l.length + 1 - (intOf i).toNat)
  case atStart => exact ⟨0, Nat.zero_le _, rfl⟩
  case round =>
    obtain ⟨k, hk, rfl⟩ := hrel
    obtain ⟨x, b, off, HX, rfl, _, _, h3, c0, _⟩ := RdI.get hr (k := k) (by simp; omega)
    have i1 : (k : Int) < (l.length : Int) + 1 := by omega
    by_cases hkl : k < l.length
    · have hxn : x < n := HLT.out x (List.mem_of_getElem? (by have h := HX.out; rw [List.getElem?_append_left hkl] at h; exact h))
      go_wp2_with fail
      go_round
      case rel => exact ⟨k + 1, by omega, by go_num⟩
      case measure => (simp [intOf]; try omega)
    · have hke : k = l.length := by omega
      subst hke
      have hxn : x = n := by have h := HX.out; rw [List.getElem?_append_right (Nat.le_refl _)] at h; simpa using h.symm
      subst hxn
      clear hkl
      go_wp2_with fail
      go_ret
      exact ⟨rfl, rfl⟩
end Go.Proofs.Ytmfoankgfiofdaa
