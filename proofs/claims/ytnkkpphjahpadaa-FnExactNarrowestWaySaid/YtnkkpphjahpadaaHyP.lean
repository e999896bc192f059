/- The plain functions of patterns and their values. No program in sight. -/
import Derived.Test.YtnkkpphjahpadaaFoQ
namespace Go.Proofs.Ytnkkpphjahpadaa
open Go.RowKit
set_option linter.unusedVariables false
def isD (c : UInt8) : Bool := decide (49 ≤ (c.toNat : Int)) && decide ((c.toNat : Int) ≤ 57)
/-- The byte at a place. -/
def by8 (s : ByteArray) (k : Nat) : UInt8 := (s.data.toList[k]?).getD 0
theorem by8_at {s : ByteArray} {k : Nat} (h : k < s.size) : by8 s k = s[k]'h := by
  have : s.data.toList[k]? = some (s[k]'h) := by rw [List.getElem?_eq_getElem (by simpa using h)]; rfl
  simp [by8, this]
/-- The letters, the values but the last, and the last value. -/
structure Pt where
  L : ByteArray
  I : List Int
  d : Int
def Pt.V (t : Pt) : List Int := t.I ++ [t.d]
theorem Pt.V_len (t : Pt) : t.V.length = t.I.length + 1 := by simp [Pt.V]
def patStep (p : ByteArray) (k : Nat) (t : Pt) : Option Pt :=
  if chLOk (by8 p k) then some ⟨t.L ++ p.extract k (k + 1), t.I ++ [t.d], 0⟩ else if isD (by8 p k) && (t.d == 0) then some ⟨t.L, t.I, ((by8 p k).toNat : Int) - 48⟩ else none
def patTo (p : ByteArray) : Nat → Option Pt
  | 0 => some ⟨ByteArray.empty, [], 0⟩
  | k + 1 => match patTo p k with
    | none => none
    | some t => patStep p k t
theorem patTo_succ {p : ByteArray} {k : Nat} {t : Pt} (h : patTo p k = some t) : patTo p (k + 1) = patStep p k t := by simp [patTo, h]
theorem patTo_none {p : ByteArray} {k : Nat} (h : patTo p k = none) : ∀ n, k ≤ n → patTo p n = none := by
  intro n
  induction n with
  | zero => intro hk; obtain rfl : k = 0 := by omega
            exact h
  | succ n ih =>
    intro hk
    by_cases e : k = n + 1
    · subst e; exact h
    · simp [patTo, ih (by omega)]
def someD (t : Pt) : Bool := t.V.any fun x => decide (0 < x)
def ptB (t : Pt) : Bool := inB t.L.size 1 6 && someD t
def ptP (p : ByteArray) : Pt × Bool := match patTo p p.size with
  | some t => (t, ptB t)
  | none => (⟨ByteArray.empty, [], 0⟩, false)
def patB (p : ByteArray) : Bool := match patTo p p.size with
  | some t => ptB t
  | none => false
theorem patB_some {p : ByteArray} {t : Pt} (h : patTo p p.size = some t) : patB p = ptB t := by simp [patB, h]
theorem patB_none {p : ByteArray} (h : patTo p p.size = none) : patB p = false := by simp [patB, h]
theorem patB_step {p : ByteArray} {k : Nat} {t : Pt} (h : patTo p k = some t) (hk : k < p.size) (hs : patStep p k t = none) : patTo p p.size = none :=
  patTo_none (by rw [patTo_succ h, hs]) _ hk
structure PtOk (t : Pt) : Prop where
  len : t.I.length = t.L.size
  lo : 0 ≤ t.d
  hi : t.d ≤ 9
  all : ∀ x ∈ t.I, 0 ≤ x ∧ x ≤ 9
theorem patTo_ok (p : ByteArray) : ∀ k t, k ≤ p.size → patTo p k = some t → PtOk t ∧ t.L.size ≤ k := by
  intro k
  induction k with
  | zero => intro t _ h; simp [patTo] at h; subst h; exact ⟨⟨by simp, by simp, by simp, fun x hx => by simp at hx⟩, by simp⟩
  | succ k ih =>
    intro t hk h
    cases hp : patTo p k with
    | none => simp [patTo, hp] at h
    | some t0 =>
      obtain ⟨h0, h1⟩ := ih t0 (by omega) hp
      rw [patTo_succ hp, patStep] at h
      split at h
      · injection h with h; subst h
        have hs : (p.extract k (k + 1)).size = 1 := by simp [ByteArray.size_extract]; omega
        refine ⟨⟨by simp [h0.len, ByteArray.size_append, hs], by simp, by simp, fun x hx => ?_⟩, by simp [ByteArray.size_append, hs]; omega⟩
        rcases List.mem_append.1 hx with hx | hx
        · exact h0.all x hx
        · simp at hx; subst hx; exact ⟨h0.lo, h0.hi⟩
      · split at h
        · rename_i hd
          injection h with h; subst h
          simp only [isD, Bool.and_eq_true, decide_eq_true_eq] at hd
          refine ⟨⟨h0.len, ?_, ?_, h0.all⟩, by show t0.L.size ≤ _; omega⟩ <;> show _ ≤ _ <;> simp only [] <;> omega
        · cases h
/-- What the patterns' loops carry on: the flag of the reference. -/
theorem someD_letter (L : ByteArray) (t : Pt) : someD ⟨L, t.I ++ [t.d], 0⟩ = someD t := by simp [someD, Pt.V]
theorem someD_digit (t : Pt) {x : Int} (h : 0 < x) : someD ⟨t.L, t.I, x⟩ = true := by simp [someD, Pt.V, h]
theorem patStep_letter {p : ByteArray} {k : Nat} {t : Pt} (h : chLOk (by8 p k) = true) : patStep p k t = some ⟨t.L ++ p.extract k (k + 1), t.I ++ [t.d], 0⟩ := by simp [patStep, h]
theorem letter_digit {c : UInt8} (h : chLOk c = true) : isD c = false := by
  simp only [chLOk, chL, Bool.and_eq_true, decide_eq_true_eq] at h
  simp [isD]; omega
theorem patStep_digit {p : ByteArray} {k : Nat} {t : Pt} (h : isD (by8 p k) = true) (hd : t.d = 0) : patStep p k t = some ⟨t.L, t.I, ((by8 p k).toNat : Int) - 48⟩ := by
  have : chLOk (by8 p k) = false := by cases e : chLOk (by8 p k); rfl; rw [letter_digit e] at h; cases h
  simp [patStep, h, hd, this]
theorem patStep_bad {p : ByteArray} {k : Nat} {t : Pt} (h : chLOk (by8 p k) = false) (hd : (isD (by8 p k) && (t.d == 0)) = false) : patStep p k t = none := by
  simp only [patStep, h, hd]; rfl
/-- The greater value at a place. -/
def setM (o : List Int) (j v : Int) : List Int := if inB j 0 ((o.length : Int) - 1) then o.set j.toNat (if o[j.toNat]?.getD 0 < v then v else o[j.toNat]?.getD 0) else o
theorem setM_len (o : List Int) (j v : Int) : (setM o j v).length = o.length := by unfold setM; split <;> simp
def updTo (V : List Int) (a : Nat) : Nat → List Int → List Int
  | 0, o => o
  | k + 1, o => setM (updTo V a k o) ((a : Int) + k - 1) (V[k]?.getD 0)
theorem updTo_len (V : List Int) (a k : Nat) (o : List Int) : (updTo V a k o).length = o.length := by
  induction k with
  | zero => rfl
  | succ k ih => rw [updTo, setM_len, ih]
def atTo (t : Pt) (r : List UInt8) : Nat → List Int → List Int
  | 0, o => o
  | a + 1, o => if preB (bl t.L) (r.drop a) then updTo t.V a t.V.length (atTo t r a o) else atTo t r a o
theorem atTo_len (t : Pt) (r : List UInt8) (a : Nat) (o : List Int) : (atTo t r a o).length = o.length := by
  induction a with
  | zero => rfl
  | succ a ih => rw [atTo]; split <;> simp [updTo_len, ih]
/-- Behind the last place where the letters may begin nothing changes. -/
theorem atTo_end (t : Pt) (r : List UInt8) (a : Nat) (o : List Int) (h : ∀ b, a ≤ b → preB (bl t.L) (r.drop b) = false) : ∀ n, a ≤ n → atTo t r n o = atTo t r a o := by
  intro n
  induction n with
  | zero => intro hn; obtain rfl : a = 0 := by omega
            rfl
  | succ n ih =>
    intro hn
    by_cases e : a = n + 1
    · rw [e]
    · rw [atTo, h n (by omega), if_neg (by simp), ih (by omega)]
def vaTo (ps : List ByteArray) (r : List UInt8) : Nat → List Int
  | 0 => List.replicate (r.length - 1) 0
  | k + 1 => match ps[k]? with
    | some p => atTo (ptP p).1 r r.length (vaTo ps r k)
    | none => vaTo ps r k
theorem vaTo_len (ps : List ByteArray) (r : List UInt8) (k : Nat) : (vaTo ps r k).length = r.length - 1 := by
  induction k with
  | zero => simp [vaTo]
  | succ k ih => rw [vaTo]; split <;> simp [atTo_len, ih]
def vaL (ps : List ByteArray) (word : ByteArray) : List Int := vaTo ps (bl word) ps.length
theorem vaL_len (ps : List ByteArray) (word : ByteArray) : (vaL ps word).length = word.size - 1 := by rw [vaL, vaTo_len, bl_len]
def patsB (ps : List ByteArray) : Bool := ps.all patB && decide ((ps.length : Int) ≤ 20)
def vaB (ps : List ByteArray) (word : ByteArray) : Bool := patsB ps && lets word 1 16
def vaP (ps : List ByteArray) (word : ByteArray) : List Int × Bool := if vaB ps word then (vaL ps word, true) else ([], false)
theorem vaP_bad {ps : List ByteArray} {word : ByteArray} (h : vaB ps word = false) : vaP ps word = ([], false) := by simp only [vaP, h]; rfl
theorem vaP_good {ps : List ByteArray} {word : ByteArray} (h : vaB ps word = true) : vaP ps word = (vaL ps word, true) := by simp only [vaP, h]; rfl
theorem vaB_parts {ps : List ByteArray} {word : ByteArray} (h : vaB ps word = true) : ps.all patB = true ∧ ps.length ≤ 20 ∧ 1 ≤ word.size ∧ word.size ≤ 16 ∧ lets word 1 16 = true := by
  simp only [vaB, patsB, Bool.and_eq_true, decide_eq_true_eq] at h
  have := lets_size h.2
  exact ⟨h.1.1, by omega, by omega, by omega, h.2⟩
theorem vaP_len (ps : List ByteArray) (word : ByteArray) : (vaP ps word).1.length ≤ 4000000 := by
  cases h : vaB ps word
  · rw [vaP_bad h]; simp
  · rw [vaP_good h]
    have := vaB_parts h
    show (vaL ps word).length ≤ _
    rw [vaL_len]; omega
theorem pat_at {ps : List ByteArray} (h : ps.all patB = true) {k : Nat} {p : ByteArray} (hp : ps[k]? = some p) : ∃ t, patTo p p.size = some t ∧ ptP p = (t, true) ∧ PtOk t ∧ 1 ≤ t.L.size ∧ t.L.size ≤ 6 := by
  have h1 := (List.all_eq_true.1 h) p (List.mem_of_getElem? hp)
  unfold patB at h1
  cases hq : patTo p p.size with
  | none => rw [hq] at h1; cases h1
  | some t =>
    rw [hq] at h1
    simp only [] at h1
    have h2 := h1
    simp only [ptB, Bool.and_eq_true] at h2
    have h3 := inB_iff.1 h2.1
    exact ⟨t, rfl, by simp [ptP, hq, h1], (patTo_ok p _ t (Nat.le_refl _) hq).1, by omega, by omega⟩
end Go.Proofs.Ytnkkpphjahpadaa
