/- How an argument that is a slice is opened into a list. No program in sight. -/
import Derived.Test.YtclcclhdmciggaaDoorMem
import Derived.ProofKit
import Derived.OpenShut
import Derived.ShutString
import Derived.ChangeOld
import Derived.Deep.Slices
import Derived.Deep.Fields
import Derived.Lib.SmallJoins
namespace Go.Proofs.YtclcclhdmciggaaDoor
open Go.ChangeShapes Go.WideShapes Go.ChangeAt Go.RowKit Go.Deep

theorem list_of_all {α : Type} (p : Nat → α → Prop) (n : Nat) (h : ∀ i, i < n → ∃ x, p i x) : ∃ l : List α, l.length = n ∧ ∀ (i : Nat) x, l[i]? = some x → p i x := by
  induction n with
  | zero => exact ⟨[], rfl, fun i x hx => by simp at hx⟩
  | succ n ih =>
    obtain ⟨l, hl, hp⟩ := ih fun i hi => h i (by omega)
    obtain ⟨x, hx⟩ := h n (by omega)
    refine ⟨l ++ [x], by simp [hl], fun i y hy => ?_⟩
    rcases Nat.lt_or_ge i l.length with hi | hi
    · rw [List.getElem?_append_left hi] at hy; exact hp i y hy
    · rw [List.getElem?_append_right hi] at hy
      have h0 : i - l.length = 0 := by
        have := (List.getElem?_eq_some_iff.1 hy).1
        simpa using this
      rw [h0] at hy
      simp at hy
      subst hy
      rwa [show i = n by omega]

theorem flat_at {α : Type} (f : α → List Value) (k : Nat) (hk : ∀ x, (f x).length = k) (l : List α) : ∀ (m : Nat) (u : Value), (l.flatMap f)[m]? = some u → ∃ (i j : Nat) (x : α), m = i * k + j ∧ j < k ∧ l[i]? = some x ∧ (f x)[j]? = some u := by
  induction l with
  | nil => intro m u h; simp at h
  | cons x l ih =>
    intro m u h
    rw [List.flatMap_cons] at h
    rcases Nat.lt_or_ge m k with hm | hm
    · rw [List.getElem?_append_left (by rw [hk]; exact hm)] at h
      exact ⟨0, m, x, by omega, hm, rfl, h⟩
    · rw [List.getElem?_append_right (by rw [hk]; exact hm), hk] at h
      obtain ⟨i, j, y, h1, h2, h3, h4⟩ := ih _ _ h
      exact ⟨i + 1, j, y, by rw [Nat.add_mul]; omega, h2, by simpa using h3, h4⟩

section
variable {H : Type} {enc : TypeId × Value → H} {P : Program} {W : World}
/-- A slice whose elements are flat: each is k cells, which f gives. -/
theorem open_flat {α : Type} (f : α → List Value) (k : Nat) (hk : ∀ x, (f x).length = k) {t e : TypeId} (ht : P.underlying t = some (.slice e)) (hC : P.cellsOf e = k)
    (Q : α → Prop) (hdec : ∀ (n : Nat) (cs : List Value) (y : DataW H × List MemPlace), DataW.trod enc P W 0 (fun _ => true) true n e cs = some y → ∃ x, cs = f x ∧ Q x)
    {A : Option Addr} {len cap : Nat} {d : DataW H} {p : List MemPlace} (h : DataW.Trod enc P W 0 (fun _ => true) true t (.slice A len cap) d p) :
    ∃ l : List α, len = l.length ∧ len ≤ cap ∧ cap ≤ maxLen ∧ RdA W 0 W.heap.size A (l.flatMap f) ∧ ∀ x ∈ l, Q x := by
  obtain ⟨fuel, hf⟩ := h
  rcases open_slice ht hf with ⟨hcs, _⟩ | ⟨a, len', cap', m, n, D, Pl, hcs, _, hl, hm, hmm, _, hi⟩
  · simp [Value.cells] at hcs
    obtain ⟨rfl, rfl, rfl⟩ := hcs
    exact ⟨[], rfl, Nat.le_refl _, by simp [maxLen], ⟨Nat.le_refl _, fun h => absurd rfl h⟩, fun x hx => by simp at hx⟩
  · simp [Value.cells] at hcs
    obtain ⟨rfl, rfl, rfl⟩ := hcs
    simp at hmm
    subst hmm
    obtain ⟨l, hll, hp⟩ := list_of_all (fun i x => W.cells? 0 (a.add (i * P.cellsOf e)) (P.cellsOf e) = some (f x) ∧ Q x) len (fun i hil => by
      obtain ⟨cs', h1, h2⟩ := hi i (by omega)
      obtain ⟨x, rfl, hQ⟩ := hdec _ _ _ h2
      exact ⟨x, h1, hQ⟩)
    have hcell : ∀ (m : Nat) (u : Value), (l.flatMap f)[m]? = some u → W.cell? (a.add m) = some u := by
      intro m u hu
      obtain ⟨i, j, x, rfl, hj, hx, hu⟩ := flat_at f k hk l m u hu
      have h1 := (hp i x hx).1
      rw [hC] at h1
      obtain ⟨_, _, h3⟩ := World.cells?_some h1
      have h4 := h3 j hj
      rw [Go.Deep.add_add, hu] at h4
      exact h4
    refine ⟨l, hll.symm, hl, hm, ⟨Nat.le_refl _, fun hne => ?_⟩, fun x hx => by
      obtain ⟨i, hx'⟩ := List.mem_iff_getElem?.1 hx
      exact (hp i x hx').2⟩
    obtain ⟨u, hu⟩ : ∃ u, (l.flatMap f)[0]? = some u := ⟨_, List.getElem?_eq_getElem (List.length_pos_iff.2 hne)⟩
    have hs := World.cell?_spot (hcell 0 u hu)
    have hb := World.block_lt_of_cell? W _ (hcell 0 u hu)
    obtain ⟨b, off, spot⟩ := a
    have hspot : spot = none := by simpa [Addr.add] using hs
    subst hspot
    refine ⟨b, off, rfl, Nat.zero_le _, by simpa [Addr.add] using hb, fun j u hu => ?_⟩
    have := hcell j u hu
    rwa [Addr.add_lit] at this

/-- A struct of one-cell fields, read field by field. -/
theorem dec_fields {e : TypeId} {fs : Array Field} (he : P.underlying e = some (.struct fs)) (hone : oneCellFields P fs = true) (hC : P.cellsOf e = fs.size)
    (n : Nat) (cs : List Value) (y : DataW H × List MemPlace) (h : DataW.trod enc P W 0 (fun _ => true) true n e cs = some y) :
    cs.length = fs.size ∧ ∀ (j : Nat) (f : Field), fs[j]? = some f → ∃ v m z, cs[j]? = some v ∧ DataW.trod enc P W 0 (fun _ => true) true m f.type [v] = some z := by
  obtain ⟨ys, n', _, _, hlen, hyl, hf⟩ := DataW.trod_struct he h
  rw [hC] at hlen
  refine ⟨hlen, fun j f hj => ?_⟩
  obtain ⟨ho, hk⟩ := hone_of hone j f hj
  have hjl : j < fs.size := (Array.getElem?_eq_some_iff.1 hj).1
  have h1 := hf j f hj
  rw [ho, hk] at h1
  have hv : cs[j]? = some (cs[j]'(by omega)) := List.getElem?_eq_getElem (by omega)
  have hone' : (cs.drop j).take 1 = [cs[j]'(by omega)] := by
    rw [List.drop_eq_getElem_cons (by omega)]
    rfl
  rw [hone', List.getElem?_eq_getElem (by omega)] at h1
  exact ⟨_, _, _, hv, h1⟩
theorem dec_int {t : TypeId} (ht : P.underlying t = some (.int .i64)) {n : Nat} {v : Value} {z : DataW H × List MemPlace} (h : DataW.trod enc P W 0 (fun _ => true) true n t [v] = some z) : ∃ a : Int, v = .int .i64 a ∧ InR a := by
  obtain ⟨a, h1, _, h2⟩ := DataW.trod_int ht h
  exact ⟨a, by simpa using h1, bounds_i64 h2⟩
theorem dec_string {t : TypeId} (ht : P.underlying t = some .string) {n : Nat} {v : Value} {z : DataW H × List MemPlace} (h : DataW.trod enc P W 0 (fun _ => true) true n t [v] = some z) : ∃ s : ByteArray, v = .string s ∧ s.size ≤ maxLen := by
  obtain ⟨a, h1, _, h2⟩ := DataW.trod_string ht h
  exact ⟨a, by simpa using h1, h2⟩
theorem list4 {α : Type} {l : List α} {a b c d : α} (hl : l.length = 4) (h0 : l[0]? = some a) (h1 : l[1]? = some b) (h2 : l[2]? = some c) (h3 : l[3]? = some d) : l = [a, b, c, d] := by
  match l, hl with
  | [_, _, _, _], _ => simp_all
theorem list3 {α : Type} {l : List α} {a b c : α} (hl : l.length = 3) (h0 : l[0]? = some a) (h1 : l[1]? = some b) (h2 : l[2]? = some c) : l = [a, b, c] := by
  match l, hl with
  | [_, _, _], _ => simp_all
theorem list2 {α : Type} {l : List α} {a b : α} (hl : l.length = 2) (h0 : l[0]? = some a) (h1 : l[1]? = some b) : l = [a, b] := by
  match l, hl with
  | [_, _], _ => simp_all
/-- A slice of int. -/
theorem open_intsQ {t e : TypeId} (ht : P.underlying t = some (.slice e)) (he : P.underlying e = some (.int .i64)) (hC : P.cellsOf e = 1)
    {A : Option Addr} {len cap : Nat} {d : DataW H} {p : List MemPlace} (h : DataW.Trod enc P W 0 (fun _ => true) true t (.slice A len cap) d p) :
    ∃ l : List Int, len = l.length ∧ len ≤ cap ∧ cap ≤ maxLen ∧ RdA W 0 W.heap.size A (l.map (Value.int .i64)) ∧ ∀ x ∈ l, InR x := by
  obtain ⟨l, h1, h2, h3, h4, h5⟩ := open_flat (fun x : Int => [Value.int .i64 x]) 1 (fun _ => rfl) ht hC InR (fun n cs y hy => by
    obtain ⟨a, q1, _, q2⟩ := DataW.trod_int he hy
    exact ⟨a, q1, bounds_i64 q2⟩) h
  exact ⟨l, h1, h2, h3, by rwa [show l.flatMap (fun x => [Value.int .i64 x]) = l.map (Value.int .i64) from by rw [List.map_eq_flatMap]] at h4, h5⟩
theorem dec_int4 {e : TypeId} {f0 f1 f2 f3 : Field} (he : P.underlying e = some (.struct #[f0, f1, f2, f3])) (hone : oneCellFields P #[f0, f1, f2, f3] = true) (hC : P.cellsOf e = 4)
    (h0 : P.underlying f0.type = some (.int .i64)) (h1 : P.underlying f1.type = some (.int .i64)) (h2 : P.underlying f2.type = some (.int .i64)) (h3 : P.underlying f3.type = some (.int .i64))
    (n : Nat) (cs : List Value) (y : DataW H × List MemPlace) (h : DataW.trod enc P W 0 (fun _ => true) true n e cs = some y) :
    ∃ a b c d : Int, cs = [.int .i64 a, .int .i64 b, .int .i64 c, .int .i64 d] ∧ InR a ∧ InR b ∧ InR c ∧ InR d := by
  obtain ⟨hl, hf⟩ := dec_fields he hone hC n cs y h
  obtain ⟨v0, _, _, c0, t0⟩ := hf 0 f0 rfl
  obtain ⟨v1, _, _, c1, t1⟩ := hf 1 f1 rfl
  obtain ⟨v2, _, _, c2, t2⟩ := hf 2 f2 rfl
  obtain ⟨v3, _, _, c3, t3⟩ := hf 3 f3 rfl
  obtain ⟨a, rfl, qa⟩ := dec_int h0 t0
  obtain ⟨b, rfl, qb⟩ := dec_int h1 t1
  obtain ⟨c, rfl, qc⟩ := dec_int h2 t2
  obtain ⟨d, rfl, qd⟩ := dec_int h3 t3
  exact ⟨a, b, c, d, list4 hl c0 c1 c2 c3, qa, qb, qc, qd⟩
theorem dec_int3 {e : TypeId} {f0 f1 f2 : Field} (he : P.underlying e = some (.struct #[f0, f1, f2])) (hone : oneCellFields P #[f0, f1, f2] = true) (hC : P.cellsOf e = 3)
    (h0 : P.underlying f0.type = some (.int .i64)) (h1 : P.underlying f1.type = some (.int .i64)) (h2 : P.underlying f2.type = some (.int .i64))
    (n : Nat) (cs : List Value) (y : DataW H × List MemPlace) (h : DataW.trod enc P W 0 (fun _ => true) true n e cs = some y) :
    ∃ a b c : Int, cs = [.int .i64 a, .int .i64 b, .int .i64 c] ∧ InR a ∧ InR b ∧ InR c := by
  obtain ⟨hl, hf⟩ := dec_fields he hone hC n cs y h
  obtain ⟨v0, _, _, c0, t0⟩ := hf 0 f0 rfl
  obtain ⟨v1, _, _, c1, t1⟩ := hf 1 f1 rfl
  obtain ⟨v2, _, _, c2, t2⟩ := hf 2 f2 rfl
  obtain ⟨a, rfl, qa⟩ := dec_int h0 t0
  obtain ⟨b, rfl, qb⟩ := dec_int h1 t1
  obtain ⟨c, rfl, qc⟩ := dec_int h2 t2
  exact ⟨a, b, c, list3 hl c0 c1 c2, qa, qb, qc⟩
end
end Go.Proofs.YtclcclhdmciggaaDoor
