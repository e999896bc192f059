/- How an argument that is a slice of strings is opened. No program in sight. -/
import Derived.Test.YtclcclhdmciggaaDoorOpen
namespace Go.Proofs.YtclcclhdmciggaaDoor
open Go.ChangeShapes Go.WideShapes Go.ChangeAt Go.RowKit Go.Deep
section
variable {H : Type} {enc : TypeId × Value → H} {P : Program} {W : World}
theorem open_strsQ {t e : TypeId} (ht : P.underlying t = some (.slice e)) (he : P.underlying e = some .string) (hC : P.cellsOf e = 1)
    {A : Option Addr} {len cap : Nat} {d : DataW H} {p : List MemPlace} (h : DataW.Trod enc P W 0 (fun _ => true) true t (.slice A len cap) d p) :
    ∃ l : List ByteArray, len = l.length ∧ len ≤ cap ∧ cap ≤ maxLen ∧ RdA W 0 W.heap.size A (l.map Value.string) ∧ ∀ s ∈ l, s.size ≤ maxLen := by
  obtain ⟨l, h1, h2, h3, h4, h5⟩ := open_flat (fun x : ByteArray => [Value.string x]) 1 (fun _ => rfl) ht hC (fun s => s.size ≤ maxLen) (fun n cs y hy => by
    obtain ⟨a, q1, _, q2⟩ := DataW.trod_string he hy
    exact ⟨a, q1, q2⟩) h
  exact ⟨l, h1, h2, h3, by rwa [show l.flatMap (fun x => [Value.string x]) = l.map Value.string from by rw [List.map_eq_flatMap]] at h4, h5⟩
theorem dec_int3s {e : TypeId} {f0 f1 f2 f3 : Field} (he : P.underlying e = some (.struct #[f0, f1, f2, f3])) (hone : oneCellFields P #[f0, f1, f2, f3] = true) (hC : P.cellsOf e = 4)
    (h0 : P.underlying f0.type = some (.int .i64)) (h1 : P.underlying f1.type = some (.int .i64)) (h2 : P.underlying f2.type = some (.int .i64)) (h3 : P.underlying f3.type = some .string)
    (n : Nat) (cs : List Value) (y : DataW H × List MemPlace) (h : DataW.trod enc P W 0 (fun _ => true) true n e cs = some y) :
    ∃ (a b c : Int) (s : ByteArray), cs = [.int .i64 a, .int .i64 b, .int .i64 c, .string s] ∧ s.size ≤ maxLen := by
  obtain ⟨hl, hf⟩ := dec_fields he hone hC n cs y h
  obtain ⟨v0, _, _, c0, t0⟩ := hf 0 f0 rfl
  obtain ⟨v1, _, _, c1, t1⟩ := hf 1 f1 rfl
  obtain ⟨v2, _, _, c2, t2⟩ := hf 2 f2 rfl
  obtain ⟨v3, _, _, c3, t3⟩ := hf 3 f3 rfl
  obtain ⟨a, rfl, _⟩ := dec_int h0 t0
  obtain ⟨b, rfl, _⟩ := dec_int h1 t1
  obtain ⟨c, rfl, _⟩ := dec_int h2 t2
  obtain ⟨s, rfl, qs⟩ := dec_string h3 t3
  exact ⟨a, b, c, s, list4 hl c0 c1 c2 c3, qs⟩
theorem dec_s1 {e : TypeId} {f0 f1 : Field} (he : P.underlying e = some (.struct #[f0, f1])) (hone : oneCellFields P #[f0, f1] = true) (hC : P.cellsOf e = 2)
    (h0 : P.underlying f0.type = some .string) (h1 : P.underlying f1.type = some (.int .i64))
    (n : Nat) (cs : List Value) (y : DataW H × List MemPlace) (h : DataW.trod enc P W 0 (fun _ => true) true n e cs = some y) :
    ∃ (s : ByteArray) (a : Int), cs = [.string s, .int .i64 a] ∧ s.size ≤ maxLen := by
  obtain ⟨hl, hf⟩ := dec_fields he hone hC n cs y h
  obtain ⟨v0, _, _, c0, t0⟩ := hf 0 f0 rfl
  obtain ⟨v1, _, _, c1, t1⟩ := hf 1 f1 rfl
  obtain ⟨s, rfl, qs⟩ := dec_string h0 t0
  obtain ⟨a, rfl, _⟩ := dec_int h1 t1
  exact ⟨s, a, list2 hl c0 c1, qs⟩
theorem dec_s3 {e : TypeId} {f0 f1 f2 f3 : Field} (he : P.underlying e = some (.struct #[f0, f1, f2, f3])) (hone : oneCellFields P #[f0, f1, f2, f3] = true) (hC : P.cellsOf e = 4)
    (h0 : P.underlying f0.type = some .string) (h1 : P.underlying f1.type = some (.int .i64)) (h2 : P.underlying f2.type = some (.int .i64)) (h3 : P.underlying f3.type = some (.int .i64))
    (n : Nat) (cs : List Value) (y : DataW H × List MemPlace) (h : DataW.trod enc P W 0 (fun _ => true) true n e cs = some y) :
    ∃ (s : ByteArray) (a b c : Int), cs = [.string s, .int .i64 a, .int .i64 b, .int .i64 c] ∧ s.size ≤ maxLen := by
  obtain ⟨hl, hf⟩ := dec_fields he hone hC n cs y h
  obtain ⟨v0, _, _, c0, t0⟩ := hf 0 f0 rfl
  obtain ⟨v1, _, _, c1, t1⟩ := hf 1 f1 rfl
  obtain ⟨v2, _, _, c2, t2⟩ := hf 2 f2 rfl
  obtain ⟨v3, _, _, c3, t3⟩ := hf 3 f3 rfl
  obtain ⟨s, rfl, qs⟩ := dec_string h0 t0
  obtain ⟨a, rfl, _⟩ := dec_int h1 t1
  obtain ⟨b, rfl, _⟩ := dec_int h2 t2
  obtain ⟨c, rfl, _⟩ := dec_int h3 t3
  exact ⟨s, a, b, c, list4 hl c0 c1 c2 c3, qs⟩
end
end Go.Proofs.YtclcclhdmciggaaDoor
