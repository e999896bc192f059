/- The plain functions of cut-ins: no program in sight. -/
import Derived.Test.YtllgjgoimnimaaaMem
namespace Go.Proofs.Ytllgjgoimnimaaa
open Go.RowKit
set_option linter.unusedVariables false
structure Cut where
  line : Int
  lines : Int
  wide : Int
  side : Int
def Cut.enc (x : Cut) : List Value := [.int .i64 x.line, .int .i64 x.lines, .int .i64 x.wide, .int .i64 x.side]
def Cut.agg (x : Cut) : Value := .agg #[.int .i64 x.line, .int .i64 x.lines, .int .i64 x.wide, .int .i64 x.side]
def RdC (w : World) (lo hi : Nat) (A : Option Addr) (l : List Cut) : Prop := Rd w lo hi A (l.flatMap Cut.enc)
theorem flat4 (l : List Cut) (k : Nat) (h : k < l.length) :
    (l.flatMap Cut.enc)[k * 4]? = some (.int .i64 l[k].line) ∧ (l.flatMap Cut.enc)[k * 4 + 1]? = some (.int .i64 l[k].lines) ∧
    (l.flatMap Cut.enc)[k * 4 + 2]? = some (.int .i64 l[k].wide) ∧ (l.flatMap Cut.enc)[k * 4 + 3]? = some (.int .i64 l[k].side) := by
  induction l generalizing k with
  | nil => simp at h
  | cons x l ih =>
    cases k with
    | zero => simp [List.flatMap_cons, Cut.enc]
    | succ k =>
      have h' : k < l.length := by simpa using h
      obtain ⟨h0, h1, h2, h3⟩ := ih k h'
      have hl : (Cut.enc x).length = 4 := rfl
      simp only [List.flatMap_cons, List.getElem_cons_succ]
      refine ⟨?_, ?_, ?_, ?_⟩ <;> (rw [List.getElem?_append_right (by rw [hl]; omega), hl])
      · rw [show (k + 1) * 4 - 4 = k * 4 by omega]; exact h0
      · rw [show (k + 1) * 4 + 1 - 4 = k * 4 + 1 by omega]; exact h1
      · rw [show (k + 1) * 4 + 2 - 4 = k * 4 + 2 by omega]; exact h2
      · rw [show (k + 1) * 4 + 3 - 4 = k * 4 + 3 by omega]; exact h3
theorem len4 (l : List Cut) : (l.flatMap Cut.enc).length = l.length * 4 := by
  induction l with
  | nil => rfl
  | cons x l ih => rw [List.flatMap_cons, List.length_append, ih]; simp [Cut.enc]; omega
theorem RdC.ext {w w' : World} {lo hi : Nat} {A : Option Addr} {l : List Cut} (h : RdC w lo hi A l) (hb : Ext w w') : RdC w' lo hi A l := Rd.ext h hb
theorem RdC.out {w w' : World} {lo hi : Nat} {A : Option Addr} {l : List Cut} {lo' hi' : Nat} (h : RdC w lo hi A l) (ho : Out lo' hi' w w') (hd : hi ≤ lo' ∨ hi' ≤ lo) : RdC w' lo hi A l := Rd.out h ho hd
theorem flat_take (l : List Cut) (k : Nat) : (l.take k).flatMap Cut.enc = (l.flatMap Cut.enc).take (k * 4) := by
  induction l generalizing k with
  | nil => simp
  | cons x l ih =>
    cases k with
    | zero => simp
    | succ k =>
      have hl : (Cut.enc x).length = 4 := rfl
      have h1 : (Cut.enc x).take ((k + 1) * 4) = Cut.enc x := List.take_of_length_le (by rw [hl]; omega)
      rw [List.take_succ_cons, List.flatMap_cons, List.flatMap_cons, ih, List.take_append, hl, h1, show (k + 1) * 4 - 4 = k * 4 by omega]
theorem RdC.take {w : World} {lo hi : Nat} {A : Option Addr} {l : List Cut} (h : RdC w lo hi A l) (k : Nat) : RdC w lo hi A (l.take k) := by
  unfold RdC
  rw [flat_take]
  exact Rd.take h _
/-- The cell facts of element k. -/
theorem getC {w : World} {lo hi : Nat} {A : Option Addr} {l : List Cut} (h : RdA w lo hi A (l.flatMap Cut.enc)) {k : Nat} (hk : k < l.length) :
    ∃ x b off, Hid (l[k]? = some x) ∧ A = some ⟨b, off, none⟩ ∧ lo ≤ b ∧ b < hi ∧ b < w.heap.size ∧
      w.cell? ⟨b, off + k * 4, none⟩ = some (.int .i64 x.line) ∧ w.cell? ⟨b, off + k * 4 + 1, none⟩ = some (.int .i64 x.lines) ∧
      w.cell? ⟨b, off + k * 4 + 2, none⟩ = some (.int .i64 x.wide) ∧ w.cell? ⟨b, off + k * 4 + 3, none⟩ = some (.int .i64 x.side) := by
  obtain ⟨b, off, e, h1, h2, h3, hc⟩ := h.at_ (k := k * 4) (by rw [len4]; omega)
  obtain ⟨c0, c1, c2, c3⟩ := flat4 l k hk
  exact ⟨l[k], b, off, List.getElem?_eq_getElem hk, e, h1, h2, h3, hc _ _ c0, hc _ _ c1, hc _ _ c2, hc _ _ c3⟩
theorem RdC.get {w : World} {lo hi : Nat} {A : Option Addr} {l : List Cut} (h : RdC w lo hi A l) {k : Nat} (hk : k < l.length) :
    ∃ x b off, Hid (l[k]? = some x) ∧ A = some ⟨b, off, none⟩ ∧ lo ≤ b ∧ b < hi ∧ b < w.heap.size ∧
      w.cell? ⟨b, off + k * 4, none⟩ = some (.int .i64 x.line) ∧ w.cell? ⟨b, off + k * 4 + 1, none⟩ = some (.int .i64 x.lines) ∧
      w.cell? ⟨b, off + k * 4 + 2, none⟩ = some (.int .i64 x.wide) ∧ w.cell? ⟨b, off + k * 4 + 3, none⟩ = some (.int .i64 x.side) := getC (Rd.toA h) hk

def isCut (x : Cut) : Bool := inB x.line 0 200 && inB x.lines 1 30 && inB x.wide 1 600 && inB x.side 0 1
def beside (x : Cut) (n : Int) : Bool := inB n x.line (wrap64 (wrap64 (x.line + x.lines) - 1))
def measStep (n : Int) (m : Int) (x : Cut) : Int := if beside x n then wrap64 (m - x.wide) else m
def meas (m : Int) (l : List Cut) (n : Int) : Int := l.foldl (measStep n) m
theorem meas_snoc {m : Int} {l : List Cut} {n : Int} {k : Nat} {x : Cut} (h : l[k]? = some x) : meas m (l.take (k + 1)) n = measStep n (meas m (l.take k) n) x := by
  rw [take_snoc h]; simp [meas]
/-- The two lie at one side and overlap. -/
def clashC (x y : Cut) : Bool := (x.side == y.side && decide (x.line < wrap64 (y.line + y.lines))) && decide (y.line < wrap64 (x.line + x.lines))
/-- The cut-in i is well-formed and clashes with none before it. -/
def goodAt (l : List Cut) (i : Nat) (x : Cut) : Bool := isCut x && (l.take i).all (fun y => !clashC x y)
def goodTo (l : List Cut) (k : Nat) : Bool := (List.range k).all fun i => match l[i]? with | some x => goodAt l i x | none => true
def roomTo (m : Int) (l : List Cut) (k : Nat) : Bool := (List.range k).all fun i => decide (40 ≤ meas m l i)
def areCut (m : Int) (l : List Cut) : Bool := goodTo l l.length && roomTo m l 230 && inB m 40 600 && decide (l.length ≤ 10)
theorem goodTo_succ {l : List Cut} {k : Nat} {x : Cut} (h : l[k]? = some x) : goodTo l (k + 1) = (goodTo l k && goodAt l k x) := by
  simp [goodTo, List.range_succ, h]
theorem roomTo_succ (m : Int) (l : List Cut) (k : Nat) : roomTo m l (k + 1) = (roomTo m l k && decide (40 ≤ meas m l k)) := by
  simp [roomTo, List.range_succ]
theorem all_mono {k n : Nat} (hk : k ≤ n) (p : Nat → Bool) (h : (List.range k).all p = false) : (List.range n).all p = false := by
  rw [List.all_eq_false] at h ⊢
  obtain ⟨i, hi, hp⟩ := h
  exact ⟨i, List.mem_range.2 (by have := List.mem_range.1 hi; omega), hp⟩
theorem goodTo_mono {l : List Cut} {k : Nat} (n : Nat) (hk : k ≤ n) (h : goodTo l k = false) : goodTo l n = false := all_mono hk _ h
theorem roomTo_mono {m : Int} {l : List Cut} {k : Nat} (n : Nat) (hk : k ≤ n) (h : roomTo m l k = false) : roomTo m l n = false := all_mono hk _ h
end Go.Proofs.Ytllgjgoimnimaaa
