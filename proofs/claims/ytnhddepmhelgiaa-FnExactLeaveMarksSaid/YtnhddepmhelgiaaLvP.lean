/- Rows joined at marks, from the first on and from the last on; the best marks. No walk in sight. -/
import Derived.Test.YtnhddepmhelgiaaPaQ
namespace Go.Proofs.Ytnhddepmhelgiaa
open Go.RowKit
set_option linter.unusedVariables false
theorem joinR_assoc : ∀ a b c : List Int, joinR (joinR a b) c = joinR a (joinR b c)
  | [], b, c => by simp [joinR]
  | x :: a, [], c => by simp [joinR]
  | x :: a, y :: b, [] => by simp [joinR]
  | x :: a, y :: b, z :: c => by
    have := joinR_assoc a b c
    simp only [joinR, List.zipWith_cons_cons] at this ⊢
    rw [this, Int.add_assoc]
theorem joinL_cons (r : List Int) (X : List (List Int)) (k : Nat) : joinL (r :: X) (k + 1) = r :: joinL X k := by
  simp [joinL, rowAt]
theorem joinL_two (a b : List Int) (X : List (List Int)) : joinL (a :: b :: X) 0 = joinR a b :: X := by
  simp [joinL, rowAt]
theorem joinL_swap (a b : List Int) (Z : List (List Int)) (hZ : Z ≠ [] ) : ∀ k, joinL (joinL (a :: b :: Z) (k + 1)) 0 = joinL (joinL (a :: b :: Z) 0) k
  | 0 => by
    cases Z with
    | nil => exact absurd rfl hZ
    | cons c Z => rw [joinL_cons, joinL_two, joinL_two, joinL_two, joinL_two, joinR_assoc]
  | k + 1 => by rw [joinL_cons, joinL_cons, joinL_two, joinL_two, joinL_cons]
/-- Rows from number i on, joined at the marks, the last mark first. -/
def jn : List Nat → Nat → List (List Int) → List (List Int)
  | [], _, X => X
  | m :: ms, i, X => joinL (jn ms i X) (m - i)
theorem jn_cons {r : List Int} {X : List (List Int)} {i : Nat} : ∀ ms : List Nat, (∀ m ∈ ms, i + 1 ≤ m) → jn ms i (r :: X) = r :: jn ms (i + 1) X
  | [], _ => rfl
  | m :: ms, h => by
    have hm := h m List.mem_cons_self
    obtain ⟨k, hk⟩ : ∃ k, m = i + 1 + k := ⟨m - (i + 1), by omega⟩
    show joinL (jn ms i (r :: X)) (m - i) = r :: joinL (jn ms (i + 1) X) (m - (i + 1))
    rw [jn_cons ms (fun m hm => h m (List.mem_cons_of_mem _ hm)), hk, show i + 1 + k - i = k + 1 by omega, show i + 1 + k - (i + 1) = k by omega, joinL_cons]
/-- Marks rise. -/
def Up : List Nat → Prop
  | [] => True
  | m :: ms => (∀ x ∈ ms, m < x) ∧ Up ms
theorem jn_len {i : Nat} {X : List (List Int)} : ∀ ms : List Nat, Up ms → (∀ m ∈ ms, i ≤ m ∧ m + 1 < i + X.length) → (jn ms i X).length + ms.length = X.length
  | [], _, _ => rfl
  | m :: ms, hu, h => by
    have hm := h m List.mem_cons_self
    have ih := jn_len ms hu.2 (fun m hm => h m (List.mem_cons_of_mem _ hm))
    have key : ms.length + (m - i) + 1 < X.length := by
      clear ih
      obtain ⟨h1, h2⟩ := hu
      have h3 := fun m hm => h m (List.mem_cons_of_mem _ hm)
      clear h
      induction ms generalizing m with
      | nil => simp; omega
      | cons m' ms ih =>
        have q := h1 m' List.mem_cons_self
        have := ih m' (h3 m' List.mem_cons_self) h2.1 h2.2 (fun m hm => h3 m (List.mem_cons_of_mem _ hm))
        simp only [List.length_cons] at this ⊢
        omega
    show (joinL (jn ms i X) (m - i)).length + (ms.length + 1) = X.length
    rw [joinL_len (by omega)]
    omega
theorem jn_zero {r r' : List Int} {X : List (List Int)} {i : Nat} : ∀ ms : List Nat, Up ms → (∀ m ∈ ms, i + 1 ≤ m ∧ m < i + 1 + X.length) → joinL (jn ms i (r :: r' :: X)) 0 = jn ms (i + 1) (joinR r r' :: X)
  | [], _, _ => by rw [jn, joinL_two]; rfl
  | m :: ms, hu, h => by
    have hm := h m List.mem_cons_self
    obtain ⟨k, hk⟩ : ∃ k, m = i + 1 + k := ⟨m - (i + 1), by omega⟩
    have h1 : ∀ x ∈ ms, i + 1 ≤ x := fun x hx => by have := hu.1 x hx; omega
    have h2 : ∀ x ∈ ms, i + 1 + 1 ≤ x := fun x hx => by have := hu.1 x hx; omega
    have ih := jn_zero (r := r) (r' := r') (X := X) (i := i) ms hu.2 (fun m hm => h m (List.mem_cons_of_mem _ hm))
    have hl := jn_len (i := i + 1 + 1) (X := X) ms hu.2 (fun x hx => by have := h x (List.mem_cons_of_mem _ hx); have := h2 x hx; omega)
    rw [jn_cons ms h1, jn_cons ms h2] at ih
    show joinL (joinL (jn ms i (r :: r' :: X)) (m - i)) 0 = joinL (jn ms (i + 1) (joinR r r' :: X)) (m - (i + 1))
    rw [jn_cons ms h1, jn_cons ms h2, ← ih, hk, show i + 1 + k - i = k + 1 by omega, show i + 1 + k - (i + 1) = k by omega]
    refine joinL_swap r r' _ (fun e => ?_) k
    rw [e] at hl
    cases ms with
    | nil => simp at hl; omega
    | cons m' ms =>
      have q1 := h m' (by simp)
      have q2 := hu.1 m' List.mem_cons_self
      obtain ⟨u1, u2⟩ := hu.2
      have key : ∀ (ms : List Nat) (m' : Nat), (∀ x ∈ ms, m' < x) → Up ms → (∀ x ∈ ms, x < i + 1 + X.length) → m' < i + 1 + X.length → m' + ms.length < i + 1 + X.length := by
        intro ms
        induction ms with
        | nil => intro m' _ _ _ h; simpa using h
        | cons x ms ih =>
          intro m' a b c d
          have e1 := a x List.mem_cons_self
          have e2 := ih x b.1 b.2 (fun y hy => c y (List.mem_cons_of_mem _ hy)) (c x List.mem_cons_self)
          simp only [List.length_cons]; omega
      have := key ms m' u1 u2 (fun x hx => (h x (by simp [hx])).2) q1.2
      simp only [List.length_cons, List.length_nil] at hl
      omega
/-- The total height of a row (number i) and those behind it, joined at marks. -/
def lvG (ms : List Nat) : Nat → List Int → List (List Int) → Int
  | _, row, [] => grt row
  | i, row, r :: rest => if i ∈ ms then lvG ms (i + 1) (joinR row r) rest else grt row + lvG ms (i + 1) r rest
theorem lvG_past {m : Nat} {ms : List Nat} : ∀ (rest : List (List Int)) (i : Nat) (row : List Int), m < i → lvG (m :: ms) i row rest = lvG ms i row rest
  | [], _, _, _ => rfl
  | r :: rest, i, row, h => by
    have e : i ∈ m :: ms ↔ i ∈ ms := by simp; omega
    by_cases hi : i ∈ ms
    · rw [lvG, lvG, if_pos (e.2 hi), if_pos hi, lvG_past rest (i + 1) _ (by omega)]
    · rw [lvG, lvG, if_neg (fun h => hi (e.1 h)), if_neg hi, lvG_past rest (i + 1) _ (by omega)]
theorem lv_same : ∀ (rest : List (List Int)) (i : Nat) (row : List Int) (ms : List Nat), Up ms → (∀ m ∈ ms, i ≤ m ∧ m < i + rest.length) → lvG ms i row rest = ((jn ms i (row :: rest)).map grt).sum
  | [], i, row, ms, hu, h => by
    cases ms with
    | nil => simp [lvG, jn]
    | cons m ms => have := h m List.mem_cons_self; simp at this; omega
  | r :: rest, i, row, ms, hu, h => by
    by_cases hi : i ∈ ms
    · cases ms with
      | nil => cases hi
      | cons m ms =>
        have hm : m = i := by
          rcases List.mem_cons.1 hi with e | e
          · exact e.symm
          · have := hu.1 i e; have := h m List.mem_cons_self; omega
        subst hm
        have h2 : ∀ x ∈ ms, m + 1 ≤ x ∧ x < m + 1 + rest.length := fun x hx => by have := hu.1 x hx; have := h x (List.mem_cons_of_mem _ hx); simp only [List.length_cons] at this; omega
        rw [lvG, if_pos hi, lvG_past _ _ _ (Nat.lt_succ_self m), lv_same rest (m + 1) _ ms hu.2 h2]
        show _ = ((joinL (jn ms m (row :: r :: rest)) (m - m)).map grt).sum
        rw [Nat.sub_self, jn_zero ms hu.2 h2]
    · have h2 : ∀ x ∈ ms, i + 1 ≤ x ∧ x < i + 1 + rest.length := fun x hx => by
        have := h x hx; simp only [List.length_cons] at this
        have : x ≠ i := fun e => hi (e ▸ hx)
        omega
      rw [lvG, if_neg hi, lv_same rest (i + 1) r ms hu h2, jn_cons ms (fun x hx => (h2 x hx).1)]
      simp
/-- The total height from row i on. -/
def lvF (ms : List Nat) (ls : List (List Int)) (i : Nat) : Int := match ls.drop i with | [] => 0 | r :: rest => lvG ms i r rest
theorem lvF_end {ms : List Nat} {ls : List (List Int)} {i : Nat} (h : ls.length ≤ i) : lvF ms ls i = 0 := by rw [lvF, List.drop_of_length_le h]
theorem lvF_at {ms : List Nat} {ls : List (List Int)} {i : Nat} {r : List Int} (h : ls[i]? = some r) : lvF ms ls i = lvG ms i r (ls.drop (i + 1)) := by
  have hi : i < ls.length := (List.getElem?_eq_some_iff.1 h).1
  have e : ls[i] = r := (List.getElem?_eq_some_iff.1 h).2
  rw [lvF, List.drop_eq_getElem_cons hi, e]
theorem lvG_in {ms : List Nat} {ls : List (List Int)} {i : Nat} {r row : List Int} (h : ls[i + 1]? = some r) (hi : i ∈ ms) : lvG ms i row (ls.drop (i + 1)) = lvG ms (i + 1) (joinR row r) (ls.drop (i + 2)) := by
  have h1 : i + 1 < ls.length := (List.getElem?_eq_some_iff.1 h).1
  have e : ls[i + 1] = r := (List.getElem?_eq_some_iff.1 h).2
  rw [List.drop_eq_getElem_cons h1, e, lvG, if_pos hi]
theorem lvG_out {ms : List Nat} {ls : List (List Int)} {i : Nat} {row : List Int} (hi : ¬ i ∈ ms) : lvG ms i row (ls.drop (i + 1)) = grt row + lvF ms ls (i + 1) := by
  rcases Nat.lt_or_ge (i + 1) ls.length with h1 | h1
  · rw [lvF, List.drop_eq_getElem_cons h1, lvG, if_neg hi]
  · rw [lvF_end h1, List.drop_of_length_le h1, lvG]; omega
theorem lvG_nonneg {ms : List Nat} : ∀ (rest : List (List Int)) (i : Nat) (row : List Int), grt row = grt row → 0 ≤ lvG ms i row rest
  | [], _, row, _ => grt_nonneg row
  | r :: rest, i, row, _ => by
    have h1 := lvG_nonneg (ms := ms) rest (i + 1) (joinR row r) rfl
    have h2 := lvG_nonneg (ms := ms) rest (i + 1) r rfl
    have h3 := grt_nonneg row
    rw [lvG]; split <;> omega
theorem lvF_nonneg (ms : List Nat) (ls : List (List Int)) (i : Nat) : 0 ≤ lvF ms ls i := by
  unfold lvF; split
  · omega
  · exact lvG_nonneg _ _ _ rfl
theorem grt_join {a b : List Int} : grt (joinR a b) ≤ grt a + grt b := by
  have h1 := grt_nonneg a; have h2 := grt_nonneg b
  refine (grt_le_iff _ (by omega)).2 fun x hx => ?_
  obtain ⟨i, hi⟩ := List.mem_iff_getElem?.1 hx
  rw [joinR, List.getElem?_zipWith] at hi
  cases h1 : a[i]? with
  | none => rw [h1] at hi; simp at hi
  | some y =>
    cases h2 : b[i]? with
    | none => rw [h1, h2] at hi; simp at hi
    | some z =>
      rw [h1, h2] at hi
      simp at hi
      have := grt_ge (List.mem_of_getElem? h1)
      have := grt_ge (List.mem_of_getElem? h2)
      omega
theorem lvG_le {ms : List Nat} : ∀ (rest : List (List Int)) (i : Nat) (row : List Int), lvG ms i row rest ≤ grt row + (rest.map grt).sum
  | [], _, row => by simp [lvG]
  | r :: rest, i, row => by
    have h1 := lvG_le (ms := ms) rest (i + 1) (joinR row r)
    have h2 := lvG_le (ms := ms) rest (i + 1) r
    have h3 := @grt_join row r
    rw [lvG, List.map_cons, List.sum_cons]; split <;> omega
/-- The total height with rows joined at marks. -/
def lvH (ls : List (List Int)) (ms : List Nat) : Int := lvF ms ls 0
theorem lvH_same {ls : List (List Int)} {ms : List Nat} (hu : Up ms) (h : ∀ m ∈ ms, m + 1 < ls.length) : lvH ls ms = ((jn ms 0 ls).map grt).sum := by
  cases ls with
  | nil =>
    cases ms with
    | nil => simp [lvH, lvF, jn]
    | cons m ms => have := h m List.mem_cons_self; simp at this
  | cons r rest =>
    show lvG ms 0 r rest = _
    exact lv_same rest 0 r ms hu (fun m hm => by have := h m hm; simp only [List.length_cons] at this; omega)
theorem lvH_bound {ls : List (List Int)} {ms : List Nat} (h : par ls = true) : 0 ≤ lvH ls ms ∧ lvH ls ms ≤ 4800 := by
  refine ⟨lvF_nonneg _ _ _, ?_⟩
  have h24 := par_len h
  have hs := sum_bound (ls.map grt) 200 (fun x hx => heights_mem h hx)
  rw [List.length_map] at hs
  have : lvH ls ms ≤ (ls.map grt).sum := by
    cases ls with
    | nil => simp [lvH, lvF]
    | cons r rest => show lvG ms 0 r rest ≤ _; rw [List.map_cons, List.sum_cons]; exact lvG_le _ _ _
  omega
/-- Of two choices the first of least height (-1: there is none). -/
def lvU (s c : List Nat × Int) : List Nat × Int := if 0 ≤ c.2 ∧ (s.2 < 0 ∨ c.2 < s.2) then c else s
theorem lvU_assoc {s c d : List Nat × Int} (hs : -1 ≤ s.2) (hc : -1 ≤ c.2) (hd : -1 ≤ d.2) : lvU (lvU s c) d = lvU s (lvU c d) := by
  by_cases h1 : 0 ≤ c.2 ∧ (s.2 < 0 ∨ c.2 < s.2)
  · rw [show lvU s c = c from if_pos h1]
    by_cases h2 : 0 ≤ d.2 ∧ (c.2 < 0 ∨ d.2 < c.2)
    · rw [show lvU c d = d from if_pos h2]; exact (if_pos (by omega)).symm
    · rw [show lvU c d = c from if_neg h2]; exact (if_pos h1).symm
  · rw [show lvU s c = s from if_neg h1]
    by_cases h2 : 0 ≤ d.2 ∧ (c.2 < 0 ∨ d.2 < c.2)
    · rw [show lvU c d = d from if_pos h2]
    · rw [show lvU c d = c from if_neg h2, show lvU s c = s from if_neg h1]; exact if_neg (by omega)
theorem lvU_ge {s c : List Nat × Int} (hs : -1 ≤ s.2) (hc : -1 ≤ c.2) : -1 ≤ (lvU s c).2 := by unfold lvU; split <;> assumption
theorem lvU_none {s : List Nat × Int} {l : List Nat} : lvU s (l, -1) = s := if_neg (by simp)
/-- The first t of the choices f a, f (a + 1), .. -/
def lvT (f : Nat → List Nat × Int) (a : Nat) (s : List Nat × Int) : Nat → List Nat × Int
  | 0 => s
  | t + 1 => lvU (lvT f a s t) (f (a + t))
theorem lvT_ge {f : Nat → List Nat × Int} {a : Nat} {s : List Nat × Int} (hs : -1 ≤ s.2) (hf : ∀ i, -1 ≤ (f i).2) : ∀ t, -1 ≤ (lvT f a s t).2
  | 0 => hs
  | t + 1 => lvU_ge (lvT_ge hs hf t) (hf _)
theorem lvT_from {f : Nat → List Nat × Int} {a : Nat} {s : List Nat × Int} (hs : -1 ≤ s.2) (hf : ∀ i, -1 ≤ (f i).2) : ∀ t, lvT f a s t = lvU s (lvT f a ([], -1) t)
  | 0 => lvU_none.symm
  | t + 1 => by
    show lvU _ _ = lvU s (lvU _ _)
    rw [lvT_from hs hf t, lvU_assoc hs (lvT_ge (Int.le_refl _) hf t) (hf _)]
/-- Where the marks behind these begin. -/
def lvN (ms : List Nat) : Nat := match ms.getLast? with | some m => m + 1 | none => 0
theorem lvN_snoc {ms : List Nat} {i : Nat} : lvN (ms ++ [i]) = i + 1 := by simp [lvN]
/-- The best of the choices with these marks and k more. -/
def lvC (ls : List (List Int)) : Nat → List Nat → List Nat × Int
  | 0, ms => (ms, lvH ls ms)
  | k + 1, ms => lvT (fun i => lvC ls k (ms ++ [i])) (lvN ms) ([], -1) (ls.length - 1 - lvN ms)
theorem lvC_ge {ls : List (List Int)} : ∀ k ms, -1 ≤ (lvC ls k ms).2
  | 0, ms => by show -1 ≤ lvH ls ms; have := lvF_nonneg ms ls 0; show -1 ≤ lvF ms ls 0; omega
  | k + 1, ms => lvT_ge (Int.le_refl _) (fun i => lvC_ge k _) _
/-- Marks rise and have a row behind them. -/
structure LvM (n : Nat) (ms : List Nat) : Prop where
  up : Up ms
  lt : ∀ m ∈ ms, m + 1 < n
  to : ∀ m ∈ ms, m < lvN ms
theorem LvM.nil (n : Nat) : LvM n [] := ⟨trivial, (fun m h => by cases h), (fun m h => by cases h)⟩
theorem up_snoc {i : Nat} : ∀ ms : List Nat, Up ms → (∀ m ∈ ms, m < i) → Up (ms ++ [i])
  | [], _, _ => ⟨(fun x h => by cases h), trivial⟩
  | m :: ms, h1, h2 => by
    refine ⟨fun x hx => ?_, up_snoc ms h1.2 (fun x hx => h2 x (List.mem_cons_of_mem _ hx))⟩
    rcases List.mem_append.1 hx with h | h
    · exact h1.1 x h
    · rw [List.mem_singleton.1 h]; exact h2 m List.mem_cons_self
theorem LvM.snoc {n i : Nat} {ms : List Nat} (h : LvM n ms) (h1 : lvN ms ≤ i) (h2 : i + 1 < n) : LvM n (ms ++ [i]) := by
  refine ⟨up_snoc ms h.up (fun m hm => by have := h.to m hm; omega), fun m hm => ?_, fun m hm => ?_⟩
  · rcases List.mem_append.1 hm with h' | h'
    · exact h.lt m h'
    · rw [List.mem_singleton.1 h']; exact h2
  · rw [lvN_snoc]
    rcases List.mem_append.1 hm with h' | h'
    · have := h.to m h'; omega
    · rw [List.mem_singleton.1 h']; omega
/-- Marks as the programs hold them. -/
def iL (ms : List Nat) : List Int := ms.map fun (m : Nat) => (m : Int)
theorem iL_len (ms : List Nat) : (iL ms).length = ms.length := by simp [iL]
theorem iL_snoc (ms : List Nat) (i : Nat) : iL (ms ++ [i]) = iL ms ++ [(i : Int)] := by simp [iL]
theorem iL_mem {ms : List Nat} {i : Nat} : (i : Int) ∈ iL ms ↔ i ∈ ms := by
  simp only [iL, List.mem_map]
  constructor
  · rintro ⟨a, h, e⟩; have : a = i := by omega
    exact this ▸ h
  · intro h; exact ⟨i, h, rfl⟩
theorem iL_at {ms : List Nat} {k m : Nat} (h : ms[k]? = some m) : (iL ms)[k]? = some (m : Int) := by simp [iL, h]
/-- What both return. -/
def lvOk (ls : List (List Int)) (k : Int) : Bool := par ls && (inB k 0 4 && decide (k ≤ (if 0 < (ls.length : Int) - 1 then (ls.length : Int) - 1 else 0)))
def lvP (ls : List (List Int)) (k : Int) : List Int × Int × Bool := if lvOk ls k then (iL (lvC ls k.toNat []).1, (lvC ls k.toNat []).2, true) else ([], 0, false)
theorem lvP_bad {ls : List (List Int)} {k : Int} (h : lvOk ls k = false) : lvP ls k = ([], 0, false) := by simp only [lvP, h]; rfl
theorem lvP_good {ls : List (List Int)} {k : Int} (h : lvOk ls k = true) : lvP ls k = (iL (lvC ls k.toNat []).1, (lvC ls k.toNat []).2, true) := by simp only [lvP, h]; rfl
end Go.Proofs.Ytnhddepmhelgiaa
