/- The plain law of pages without widows and orphans: the program's table and the reference's give the same ends. No program in sight. -/
import Derived.Test.YtblecbdkpjmfeaaMem
namespace Go.Proofs.Ytblecbdkpjmfeaa.Clean
def upd (f : Nat → Int) (i : Nat) (v : Int) : Nat → Int := fun x => if x = i then v else f x
def updN (f : Nat → Nat) (i : Nat) (v : Nat) : Nat → Nat := fun x => if x = i then v else f x
section
variable (n : Nat) (D : Nat → Nat → Bool) (W O : Nat → Bool)
def cS (S : Nat → Int) (i j : Nat) : Bool := (D i j && decide (0 ≤ S j)) && (decide (j = n) || (!O j && !W j))
def cT (T : Nat → Int) (i j : Nat) : Bool := decide (0 ≤ T j) && ((D i j && !W i) && !O j)
def sf (S : Nat → Int) (i : Nat) : Nat → Int × Nat
  | 0 => (-1, 0)
  | m + 1 => if cS n D W O S i (n - m) && (decide ((sf S i m).1 < 0) || decide (S (n - m) + 1 < (sf S i m).1)) then (S (n - m) + 1, n - m) else sf S i m
def af (T : Nat → Int) (i : Nat) : Nat → Int
  | 0 => -1
  | m + 1 => if cT D W O T i (i + 1 + m) && (decide (af T i m < 0) || decide (T (i + 1 + m) + 1 < af T i m)) then T (i + 1 + m) + 1 else af T i m
def stab : Nat → Nat → Int
  | 0 => fun _ => 0
  | m + 1 => upd (stab m) (n - 1 - m) (sf n D W O (stab m) (n - 1 - m) (m + 1)).1
def ntab : Nat → Nat → Nat
  | 0 => fun _ => 0
  | m + 1 => updN (ntab m) (n - 1 - m) (sf n D W O (stab n D W O m) (n - 1 - m) (m + 1)).2
def ttab : Nat → Nat → Int
  | 0 => fun _ => 0
  | m + 1 => upd (ttab m) (n - 1 - m) (af D W O (ttab m) (n - 1 - m) (m + 1))
theorem cS_iff (S : Nat → Int) (i j : Nat) : cS n D W O S i j = true ↔ D i j = true ∧ 0 ≤ S j ∧ (j = n ∨ (O j = false ∧ W j = false)) := by
  simp [cS, and_assoc]
theorem cT_iff (T : Nat → Int) (i j : Nat) : cT D W O T i j = true ↔ 0 ≤ T j ∧ D i j = true ∧ W i = false ∧ O j = false := by
  simp [cT, and_assoc]
theorem sf_spec (S : Nat → Int) (i : Nat) : ∀ m, m ≤ n → 
    ((sf n D W O S i m).1 < 0 → (sf n D W O S i m).1 = -1 ∧ ∀ j, n - m < j → j ≤ n → cS n D W O S i j = false) ∧
    (0 ≤ (sf n D W O S i m).1 → n - m < (sf n D W O S i m).2 ∧ (sf n D W O S i m).2 ≤ n ∧ cS n D W O S i (sf n D W O S i m).2 = true ∧ S (sf n D W O S i m).2 + 1 = (sf n D W O S i m).1 ∧
      (∀ j, n - m < j → j ≤ n → cS n D W O S i j = true → (sf n D W O S i m).1 ≤ S j + 1) ∧ (∀ j, (sf n D W O S i m).2 < j → j ≤ n → cS n D W O S i j = true → (sf n D W O S i m).1 < S j + 1)) := by
  intro m
  induction m with
  | zero => intro _; simp [sf]; intro j h1 h2; omega
  | succ m ih =>
    intro hm
    obtain ⟨ih1, ih2⟩ := ih (by omega)
    have hup : ∀ j, n - (m + 1) < j → j ≤ n → j ≠ n - m → n - m < j := fun j h1 h2 h3 => by omega
    by_cases hc : (cS n D W O S i (n - m) && (decide ((sf n D W O S i m).1 < 0) || decide (S (n - m) + 1 < (sf n D W O S i m).1))) = true
    · have e : sf n D W O S i (m + 1) = (S (n - m) + 1, n - m) := by rw [sf, if_pos hc]
      rw [e]
      simp only [Bool.and_eq_true, Bool.or_eq_true, decide_eq_true_eq] at hc
      obtain ⟨hc1, hc2⟩ := hc
      have h0 := ((cS_iff n D W O S i (n - m)).1 hc1).2.1
      refine ⟨fun h => by simp only at h; omega, fun _ => ⟨by simp only; omega, by simp only; omega, hc1, rfl, fun j h1 h2 h3 => ?_, fun j h1 h2 h3 => ?_⟩⟩
      · by_cases ej : j = n - m
        · subst ej; exact Int.le_refl _
        · rcases hc2 with hc2 | hc2
          · have := (ih1 hc2).2 j (hup j h1 h2 ej) h2; rw [this] at h3; cases h3
          · have hge : 0 ≤ (sf n D W O S i m).1 := by omega
            have := (ih2 hge).2.2.2.2.1 j (hup j h1 h2 ej) h2 h3
            simp only; omega
      · simp only at h1
        rcases hc2 with hc2 | hc2
        · have := (ih1 hc2).2 j h1 h2; rw [this] at h3; cases h3
        · have hge : 0 ≤ (sf n D W O S i m).1 := by omega
          have := (ih2 hge).2.2.2.2.1 j h1 h2 h3
          simp only; omega
    · have e : sf n D W O S i (m + 1) = sf n D W O S i m := by rw [sf, if_neg hc]
      rw [e]
      simp only [Bool.and_eq_true, Bool.or_eq_true, decide_eq_true_eq, not_and, not_or] at hc
      refine ⟨fun h => ⟨(ih1 h).1, fun j h1 h2 => ?_⟩, fun h => ?_⟩
      · by_cases ej : j = n - m
        · subst ej
          cases hx : cS n D W O S i (n - m)
          · rfl
          · exact absurd h (hc hx).1
        · exact (ih1 h).2 j (hup j h1 h2 ej) h2
      · obtain ⟨g1, g2, g3, g4, g5, g6⟩ := ih2 h
        refine ⟨by omega, g2, g3, g4, fun j h1 h2 h3 => ?_, g6⟩
        by_cases ej : j = n - m
        · subst ej; have := (hc h3).2; omega
        · exact g5 j (hup j h1 h2 ej) h2 h3
theorem af_spec (T : Nat → Int) (i : Nat) : ∀ m,
    (af D W O T i m < 0 → af D W O T i m = -1 ∧ ∀ j, i < j → j ≤ i + m → cT D W O T i j = false) ∧
    (0 ≤ af D W O T i m → (∃ j, i < j ∧ j ≤ i + m ∧ cT D W O T i j = true ∧ T j + 1 = af D W O T i m) ∧ ∀ j, i < j → j ≤ i + m → cT D W O T i j = true → af D W O T i m ≤ T j + 1) := by
  intro m
  induction m with
  | zero => simp [af]; intro j h1 h2; omega
  | succ m ih =>
    obtain ⟨ih1, ih2⟩ := ih
    by_cases hc : (cT D W O T i (i + 1 + m) && (decide (af D W O T i m < 0) || decide (T (i + 1 + m) + 1 < af D W O T i m))) = true
    · have e : af D W O T i (m + 1) = T (i + 1 + m) + 1 := by rw [af, if_pos hc]
      rw [e]
      simp only [Bool.and_eq_true, Bool.or_eq_true, decide_eq_true_eq] at hc
      obtain ⟨hc1, hc2⟩ := hc
      have h0 := ((cT_iff D W O T i _).1 hc1).1
      refine ⟨fun h => by omega, fun _ => ⟨⟨i + 1 + m, by omega, by omega, hc1, rfl⟩, fun j h1 h2 h3 => ?_⟩⟩
      by_cases ej : j = i + 1 + m
      · subst ej; exact Int.le_refl _
      · rcases hc2 with hc2 | hc2
        · have := (ih1 hc2).2 j h1 (by omega); rw [this] at h3; cases h3
        · have := (ih2 (by omega)).2 j h1 (by omega) h3; omega
    · have e : af D W O T i (m + 1) = af D W O T i m := by rw [af, if_neg hc]
      rw [e]
      simp only [Bool.and_eq_true, Bool.or_eq_true, decide_eq_true_eq, not_and, not_or] at hc
      refine ⟨fun h => ⟨(ih1 h).1, fun j h1 h2 => ?_⟩, fun h => ?_⟩
      · by_cases ej : j = i + 1 + m
        · subst ej
          cases hx : cT D W O T i (i + 1 + m)
          · rfl
          · exact absurd h (hc hx).1
        · exact (ih1 h).2 j h1 (by omega)
      · obtain ⟨⟨j0, g1, g2, g3, g4⟩, g5⟩ := ih2 h
        refine ⟨⟨j0, g1, by omega, g3, g4⟩, fun j h1 h2 h3 => ?_⟩
        by_cases ej : j = i + 1 + m
        · subst ej; have := (hc h3).2; omega
        · exact g5 j h1 (by omega) h3
theorem stab_keep {m m' j : Nat} (hm : m ≤ m') (hm' : m' ≤ n) (hj : n - m ≤ j) : stab n D W O m' j = stab n D W O m j := by
  induction m' with
  | zero => rw [show m = 0 by omega]
  | succ m' ih =>
    by_cases e : m = m' + 1
    · rw [e]
    · rw [← ih (by omega) (by omega), stab, upd, if_neg (by omega)]
theorem ntab_keep {m m' j : Nat} (hm : m ≤ m') (hm' : m' ≤ n) (hj : n - m ≤ j) : ntab n D W O m' j = ntab n D W O m j := by
  induction m' with
  | zero => rw [show m = 0 by omega]
  | succ m' ih =>
    by_cases e : m = m' + 1
    · rw [e]
    · rw [← ih (by omega) (by omega), ntab, updN, if_neg (by omega)]
theorem ttab_keep {m m' j : Nat} (hm : m ≤ m') (hm' : m' ≤ n) (hj : n - m ≤ j) : ttab n D W O m' j = ttab n D W O m j := by
  induction m' with
  | zero => rw [show m = 0 by omega]
  | succ m' ih =>
    by_cases e : m = m' + 1
    · rw [e]
    · rw [← ih (by omega) (by omega), ttab, upd, if_neg (by omega)]
theorem stab_top (m : Nat) (hm : m ≤ n) : stab n D W O m n = 0 := by
  rw [stab_keep n D W O (m := 0) (Nat.zero_le _) hm (by omega)]; rfl
theorem ttab_top (m : Nat) (hm : m ≤ n) : ttab n D W O m n = 0 := by
  rw [ttab_keep n D W O (m := 0) (Nat.zero_le _) hm (by omega)]; rfl
theorem stab_ge (m : Nat) (hm : m ≤ n) : ∀ j, -1 ≤ stab n D W O m j ∧ stab n D W O m j ≤ m := by
  induction m with
  | zero => intro j; simp [stab]
  | succ m ih =>
    intro j
    rw [stab, upd]
    split
    · have h := sf_spec n D W O (stab n D W O m) (n - 1 - m) (m + 1) hm
      by_cases h0 : (sf n D W O (stab n D W O m) (n - 1 - m) (m + 1)).1 < 0
      · have := (h.1 h0).1; omega
      · obtain ⟨_, _, _, h4, _⟩ := h.2 (Int.not_lt.1 h0)
        have := ih (by omega) (sf n D W O (stab n D W O m) (n - 1 - m) (m + 1)).2
        omega
    · have := ih (by omega) j; omega
theorem ttab_ge (m : Nat) (hm : m ≤ n) : ∀ j, -1 ≤ ttab n D W O m j ∧ ttab n D W O m j ≤ m := by
  induction m with
  | zero => intro j; simp [ttab]
  | succ m ih =>
    intro j
    rw [ttab, upd]
    split
    · have h := af_spec D W O (ttab n D W O m) (n - 1 - m) (m + 1)
      by_cases h0 : af D W O (ttab n D W O m) (n - 1 - m) (m + 1) < 0
      · have := (h.1 h0).1; omega
      · obtain ⟨⟨j0, _, _, _, h4⟩, _⟩ := h.2 (by omega)
        have := ih (by omega) j0
        omega
    · have := ih (by omega) j; omega
/-- The program's table is the reference's, but for the places where a widow would stand. -/
theorem tabs (hO : O n = false) : ∀ m, m ≤ n → ∀ j, n - m ≤ j → j ≤ n → ttab n D W O m j = if j < n ∧ W j = true then -1 else stab n D W O m j := by
  intro m
  induction m with
  | zero =>
    intro _ j h1 h2
    rw [if_neg (by omega)]; rfl
  | succ m ih =>
    intro hm j h1 h2
    by_cases ej : j = n - 1 - m
    · subst ej
      have hn1 : n - 1 - m < n := by omega
      have hr : n - 1 - m + (m + 1) = n := by omega
      have hl : n - (m + 1) = n - 1 - m := by omega
      have hS := sf_spec n D W O (stab n D W O m) (n - 1 - m) (m + 1) hm
      have hT := af_spec D W O (ttab n D W O m) (n - 1 - m) (m + 1)
      rw [ttab, stab, upd, upd, if_pos rfl, if_pos rfl]
      rw [hr] at hT
      rw [hl] at hS
      by_cases hw : W (n - 1 - m) = true
      · rw [if_pos ⟨hn1, hw⟩]
        by_cases h0 : af D W O (ttab n D W O m) (n - 1 - m) (m + 1) < 0
        · exact (hT.1 h0).1
        · have hx := hT.2 (Int.not_lt.1 h0)
          obtain ⟨⟨j0, _, _, hc, _⟩, _⟩ := hx
          have := ((cT_iff D W O _ _ _).1 hc).2.2.1
          simp [hw] at this
      · have hw' : W (n - 1 - m) = false := by simpa using hw
        rw [if_neg (fun h => hw h.2)]
        -- the same places may follow, with the same numbers
        have hcand : ∀ j, n - 1 - m < j → j ≤ n → (cT D W O (ttab n D W O m) (n - 1 - m) j = true ↔ cS n D W O (stab n D W O m) (n - 1 - m) j = true) := by
          intro j g1 g2
          rw [cT_iff, cS_iff, ih (by omega) j (by omega) g2]
          by_cases ejn : j = n
          · subst ejn
            rw [if_neg (by omega)]
            simp [hO, hw']
            exact and_comm
          · by_cases hwj : W j = true
            · rw [if_pos ⟨by omega, hwj⟩]
              simp [hwj, ejn]
            · rw [if_neg (fun h => hwj h.2)]
              have : W j = false := by simpa using hwj
              simp [this, ejn, hw']
              constructor
              · rintro ⟨a, b, c⟩; exact ⟨b, a, c⟩
              · rintro ⟨a, b, c⟩; exact ⟨b, a, c⟩
        have hval : ∀ j, n - 1 - m < j → j ≤ n → cS n D W O (stab n D W O m) (n - 1 - m) j = true → ttab n D W O m j = stab n D W O m j := by
          intro j g1 g2 g3
          rw [ih (by omega) j (by omega) g2]
          have := ((cS_iff n D W O _ _ _).1 g3).2.2
          rw [if_neg (by rintro ⟨k1, k2⟩; rcases this with h | h; · omega
                         · rw [h.2] at k2; cases k2)]
        by_cases h0 : af D W O (ttab n D W O m) (n - 1 - m) (m + 1) < 0
        · by_cases h0' : (sf n D W O (stab n D W O m) (n - 1 - m) (m + 1)).1 < 0
          · rw [(hT.1 h0).1, (hS.1 h0').1]
          · obtain ⟨k1, k2, k3, _⟩ := hS.2 (Int.not_lt.1 h0')
            have := (hT.1 h0).2 _ k1 k2
            rw [(hcand _ k1 k2).2 k3] at this; cases this
        · obtain ⟨⟨j0, k1, k2, k3, k4⟩, k5⟩ := hT.2 (Int.not_lt.1 h0)
          by_cases h0' : (sf n D W O (stab n D W O m) (n - 1 - m) (m + 1)).1 < 0
          · have := (hS.1 h0').2 j0 k1 k2
            rw [(hcand j0 k1 k2).1 k3] at this; cases this
          · obtain ⟨s1, s2, s3, s4, s5, _⟩ := hS.2 (Int.not_lt.1 h0')
            have a1 := k5 _ s1 s2 ((hcand _ s1 s2).2 s3)
            rw [hval _ s1 s2 s3] at a1
            have c0 := (hcand j0 k1 k2).1 k3
            have a2 := s5 j0 k1 k2 c0
            rw [← hval j0 k1 k2 c0] at a2
            omega
    · rw [ttab, stab, upd, upd, if_neg ej, if_neg ej]
      exact ih (by omega) j (by omega) h2
/-- The end of the first page from line i on. -/
def nx (i : Nat) : Nat := ntab n D W O n i
def sT (i : Nat) : Int := stab n D W O n i
theorem sT_row {i : Nat} (hi : i < n) : sT n D W O i = (sf n D W O (sT n D W O) i (n - i)).1 ∧ nx n D W O i = (sf n D W O (sT n D W O) i (n - i)).2 := by
  have key : ∀ (S S' : Nat → Int) (m : Nat), m ≤ n → (∀ j, n - m < j → j ≤ n → S j = S' j) → sf n D W O S i m = sf n D W O S' i m := by
    intro S S' m
    induction m with
    | zero => intro _ _; rfl
    | succ m ih =>
      intro hm h
      have e := ih (by omega) (fun j h1 h2 => h j (by omega) h2)
      have e2 := h (n - m) (by omega) (by omega)
      have e3 : cS n D W O S i (n - m) = cS n D W O S' i (n - m) := by rw [cS, cS, e2]
      rw [sf, sf, e, e2, e3]
  obtain ⟨m, hm⟩ : ∃ m, i = n - 1 - m ∧ m + 1 = n - i := ⟨n - 1 - i, by omega, by omega⟩
  obtain ⟨hm1, hm2⟩ := hm
  have e := key (stab n D W O m) (sT n D W O) (m + 1) (by omega) (fun j h1 h2 => (stab_keep n D W O (m := m) (m' := n) (by omega) (Nat.le_refl _) (by omega)).symm)
  have e1 : sT n D W O i = stab n D W O (m + 1) i := stab_keep n D W O (m := m + 1) (m' := n) (by omega) (Nat.le_refl _) (by omega)
  have e2 : nx n D W O i = ntab n D W O (m + 1) i := ntab_keep n D W O (m := m + 1) (m' := n) (by omega) (Nat.le_refl _) (by omega)
  rw [e1, e2, stab, ntab, upd, updN, if_pos hm1, if_pos hm1, ← hm1, e, ← hm2]
  exact ⟨rfl, rfl⟩
theorem nx_prop {i : Nat} (hi : i < n) (h0 : 0 ≤ sT n D W O i) : i < nx n D W O i ∧ nx n D W O i ≤ n ∧ cS n D W O (sT n D W O) i (nx n D W O i) = true ∧ sT n D W O (nx n D W O i) + 1 = sT n D W O i ∧
    ∀ j, nx n D W O i < j → j ≤ n → cS n D W O (sT n D W O) i j = true → sT n D W O i < sT n D W O j + 1 := by
  obtain ⟨e1, e2⟩ := sT_row n D W O hi
  have h := (sf_spec n D W O (sT n D W O) i (n - i) (by omega)).2 (by rw [← e1]; exact h0)
  rw [← e1, ← e2] at h
  obtain ⟨h1, h2, h3, h4, _, h6⟩ := h
  exact ⟨by omega, h2, h3, h4, h6⟩
theorem sT_pos {i : Nat} (hi : i < n) (h0 : 0 ≤ sT n D W O i) : 1 ≤ sT n D W O i := by
  obtain ⟨_, _, h3, h4, _⟩ := nx_prop n D W O hi h0
  have := ((cS_iff n D W O _ _ _).1 h3).2.1
  omega
def it : Nat → Nat
  | 0 => 0
  | m + 1 => nx n D W O (it m)
def cM : Nat := (sT n D W O 0).toNat
theorem sT_top : sT n D W O n = 0 := stab_top n D W O n (Nat.le_refl _)
theorem it_prop (h0 : 0 ≤ sT n D W O 0) (hW : W 0 = false) (m : Nat) (hm : m ≤ cM n D W O) : it n D W O m ≤ n ∧ sT n D W O (it n D W O m) = (cM n D W O : Int) - m ∧ (it n D W O m < n → W (it n D W O m) = false) ∧ m ≤ it n D W O m := by
  induction m with
  | zero => exact ⟨Nat.zero_le _, by unfold cM; simp [it]; omega, fun _ => hW, Nat.zero_le _⟩
  | succ m ih =>
    obtain ⟨i1, i2, i3, i4⟩ := ih (by omega)
    have hlt : it n D W O m < n := by
      rcases Nat.lt_or_ge (it n D W O m) n with h | h
      · exact h
      · have : it n D W O m = n := by omega
        rw [this, sT_top] at i2; omega
    obtain ⟨h1, h2, h3, h4, _⟩ := nx_prop n D W O hlt (by omega)
    refine ⟨h2, ?_, fun hl => ?_, ?_⟩
    · show sT n D W O (nx n D W O (it n D W O m)) = _; omega
    · have hl' : nx n D W O (it n D W O m) < n := hl
      have := ((cS_iff n D W O _ _ _).1 h3).2.2
      rcases this with h | h
      · omega
      · exact h.2
    · show m + 1 ≤ nx n D W O (it n D W O m); omega
theorem it_more (h0 : 0 ≤ sT n D W O 0) (hW : W 0 = false) {m : Nat} (hm : m ≤ cM n D W O) (hlt : it n D W O m < n) : m < cM n D W O := by
  obtain ⟨_, i2, _, _⟩ := it_prop n D W O h0 hW m hm
  have := sT_pos n D W O hlt (by omega)
  omega
theorem it_done (h0 : 0 ≤ sT n D W O 0) (hW : W 0 = false) {m : Nat} (hm : m ≤ cM n D W O) (hge : ¬ it n D W O m < n) : m = cM n D W O := by
  obtain ⟨i1, i2, _, _⟩ := it_prop n D W O h0 hW m hm
  rw [show it n D W O m = n by omega, sT_top] at i2
  omega
def endsL (m : Nat) : List Int := (List.range m).map fun q => (it n D W O (q + 1) : Int)
theorem endsL_len (m : Nat) : (endsL n D W O m).length = m := by simp [endsL]
theorem endsL_succ (m : Nat) : endsL n D W O (m + 1) = endsL n D W O m ++ [(nx n D W O (it n D W O m) : Int)] := by simp [endsL, List.range_succ, it]
def tT (i : Nat) : Int := ttab n D W O n i
/-- How the program looks for the end of a page: it goes down from the last line. -/
theorem scan_stop (hO : O n = false) {i : Nat} (hi : i < n) (hw : W i = false) (h0 : 0 ≤ sT n D W O i) : tT n D W O (nx n D W O i) = tT n D W O i - 1 ∧ D i (nx n D W O i) = true ∧ O (nx n D W O i) = false := by
  obtain ⟨h1, h2, h3, h4, _⟩ := nx_prop n D W O hi h0
  obtain ⟨c1, c2, c3⟩ := (cS_iff n D W O _ _ _).1 h3
  have e1 : tT n D W O i = sT n D W O i := by
    rw [tT, tabs n D W O hO n (Nat.le_refl _) i (by omega) (by omega), if_neg (by rw [hw]; simp)]; rfl
  have e2 : tT n D W O (nx n D W O i) = sT n D W O (nx n D W O i) := by
    rw [tT, tabs n D W O hO n (Nat.le_refl _) _ (by omega) h2, if_neg (by rintro ⟨k1, k2⟩; rcases c3 with h | h; · omega
                                                                          · rw [h.2] at k2; cases k2)]; rfl
  refine ⟨by omega, c1, ?_⟩
  rcases c3 with h | h
  · rw [h]; exact hO
  · exact h.1
theorem scan_go (hO : O n = false) {i t : Nat} (hi : i < n) (hw : W i = false) (h0 : 0 ≤ sT n D W O i) (ht : nx n D W O i < t) (htn : t ≤ n) (he : tT n D W O t = tT n D W O i - 1) : (D i t && !O t) = false := by
  obtain ⟨h1, h2, h3, h4, h5⟩ := nx_prop n D W O hi h0
  have e1 : tT n D W O i = sT n D W O i := by
    rw [tT, tabs n D W O hO n (Nat.le_refl _) i (by omega) (by omega), if_neg (by rw [hw]; simp)]; rfl
  have h6 := sT_pos n D W O hi h0
  have e2 : tT n D W O t = if t < n ∧ W t = true then -1 else sT n D W O t := tabs n D W O hO n (Nat.le_refl _) t (by omega) htn
  have hwt : ¬ (t < n ∧ W t = true) := by
    intro h; rw [if_pos h] at e2; omega
  rw [if_neg hwt] at e2
  cases hd : D i t
  · rfl
  · cases ho : O t
    · exfalso
      have hc : cS n D W O (sT n D W O) i t = true := by
        rw [cS_iff]
        refine ⟨hd, by omega, ?_⟩
        by_cases e : t = n
        · exact .inl e
        · right
          refine ⟨ho, ?_⟩
          cases hx : W t
          · rfl
          · exact absurd ⟨by omega, hx⟩ hwt
      have := h5 t ht htn hc
      omega
    · rfl
end
end Go.Proofs.Ytblecbdkpjmfeaa.Clean
