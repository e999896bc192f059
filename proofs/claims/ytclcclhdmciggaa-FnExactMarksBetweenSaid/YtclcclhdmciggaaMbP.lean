/- The plain functions of the marks between two lines. No program in sight. -/
import Derived.Test.YtclcclhdmciggaaMcP
import Derived.Test.YtclcclhdmciggaaApp
import Derived.Laws.RangeString
namespace Go.Proofs.Ytclcclhdmciggaa
open Go.RowKit
set_option linter.unusedVariables false
def upTo (c : Nat → Bool) : Nat → Nat → Nat
  | 0, n => n
  | k + 1, n => if c n then upTo c k (n + 1) else n
theorem upTo_no {c : Nat → Bool} {n : Nat} (h : c n = false) (k : Nat) : upTo c k n = n := by cases k <;> simp [upTo, h]
theorem upTo_yes {c : Nat → Bool} {n k : Nat} (h : c n = true) : upTo c (k + 1) n = upTo c k (n + 1) := by simp [upTo, h]
theorem upTo_le {c : Nat → Bool} {N : Nat} (h : ∀ n, N ≤ n → c n = false) : ∀ k n, n ≤ N → upTo c k n ≤ N := by
  intro k
  induction k with
  | zero => intro n hn; exact hn
  | succ k ih =>
    intro n hn
    rw [upTo]
    split
    · rename_i hc
      refine ih _ ?_
      rcases Nat.lt_or_ge n N with hl | hl
      · omega
      · rw [h n hl] at hc; cases hc
    · exact hn
/-- The byte at a place, as a number. -/
def byN (s : ByteArray) (n : Nat) : Int := match s.data.toList[n]? with | some c => (c.toNat : Int) | none => -1
theorem byN_at {s : ByteArray} {n : Nat} (h : n < s.size) : byN s n = ((s[n]'h).toNat : Int) := by
  have : s.data.toList[n]? = some (s[n]'h) := by rw [List.getElem?_eq_getElem (by simpa using h)]; rfl
  simp [byN, this]
def preC (a b : ByteArray) (n : Nat) : Bool := (decide (n < a.size) && decide (n < b.size)) && (byN a n == byN b n)
def preN (a b : ByteArray) : Nat := upTo (preC a b) a.size 0
theorem preN_le (a b : ByteArray) : preN a b ≤ a.size ∧ preN a b ≤ b.size :=
  ⟨upTo_le (fun n hn => by simp [preC]; omega) _ _ (Nat.zero_le _), upTo_le (fun n hn => by simp [preC]; omega) _ _ (Nat.zero_le _)⟩
def sufC (a b : ByteArray) (F n : Nat) : Bool := (decide (n < a.size - F) && decide (n < b.size - F)) && (byN a (a.size - 1 - n) == byN b (b.size - 1 - n))
def sufN (a b : ByteArray) : Nat := upTo (sufC a b (preN a b)) a.size 0
theorem sufN_le (a b : ByteArray) : sufN a b ≤ a.size - preN a b ∧ sufN a b ≤ b.size - preN a b :=
  ⟨upTo_le (fun n hn => by simp [sufC]; omega) _ _ (Nat.zero_le _), upTo_le (fun n hn => by simp [sufC]; omega) _ _ (Nat.zero_le _)⟩
def mbAt (old now : ByteArray) (F i : Nat) : List Mrk :=
  if now.size ≤ i then [⟨0, (F : Int) + (i : Int), 1, ByteArray.empty⟩] else if byN old i = byN now i then [] else [⟨0, (F : Int) + (i : Int), 3, now.extract i (i + 1)⟩]
def mbTo (old now : ByteArray) (F i : Nat) : List Mrk := (List.range i).flatMap (mbAt old now F)
theorem mbTo_succ (old now : ByteArray) (F i : Nat) : mbTo old now F (i + 1) = mbTo old now F i ++ mbAt old now F i := by simp [mbTo, List.range_succ]
theorem mbTo_len (old now : ByteArray) (F i : Nat) : (mbTo old now F i).length ≤ i := by
  induction i with
  | zero => simp [mbTo]
  | succ i ih =>
    rw [mbTo_succ, List.length_append]
    have : (mbAt old now F i).length ≤ 1 := by unfold mbAt; split <;> (try split) <;> simp
    omega
def mbEnd (old now : ByteArray) (F : Nat) : List Mrk := if old.size < now.size then [⟨0, (F : Int) + (old.size : Int), 2, now.extract old.size now.size⟩] else []
def mbL (old now : ByteArray) (F : Nat) : List Mrk := mbTo old now F old.size ++ mbEnd old now F
theorem mbL_len (old now : ByteArray) (F : Nat) : (mbL old now F).length ≤ old.size + 1 := by
  have := mbTo_len old now F old.size
  have : (mbEnd old now F).length ≤ 1 := by unfold mbEnd; split <;> simp
  rw [mbL, List.length_append]; omega
theorem mbL_size (old now : ByteArray) (F : Nat) : ∀ m ∈ mbL old now F, m.text.size ≤ now.size := by
  intro m hm
  simp only [mbL, List.mem_append, mbTo, List.mem_flatMap] at hm
  rcases hm with ⟨i, _, hm⟩ | hm
  · unfold mbAt at hm
    split at hm
    · simp at hm; subst hm; simp
    · split at hm
      · simp at hm
      · simp at hm; subst hm; simp [ByteArray.size_extract]; omega
  · unfold mbEnd at hm
    split at hm
    · simp at hm; subst hm; simp [ByteArray.size_extract]
    · simp at hm
def oldB (a b : ByteArray) : ByteArray := a.extract (preN a b) (a.size - sufN a b)
def nowB (a b : ByteArray) : ByteArray := b.extract (preN a b) (b.size - sufN a b)
theorem oldB_size (a b : ByteArray) : (oldB a b).size = a.size - sufN a b - preN a b := by simp [oldB, ByteArray.size_extract]
theorem nowB_size (a b : ByteArray) : (nowB a b).size = b.size - sufN a b - preN a b := by simp [nowB, ByteArray.size_extract]
def btw (a b : ByteArray) : List Mrk := mbL (oldB a b) (nowB a b) (preN a b)
theorem btw_len (a b : ByteArray) : (btw a b).length ≤ a.size + 1 := by
  have := mbL_len (oldB a b) (nowB a b) (preN a b)
  have := oldB_size a b
  unfold btw; omega
theorem btw_size (a b : ByteArray) : ∀ m ∈ btw a b, m.text.size ≤ b.size := fun m hm => by
  have := mbL_size (oldB a b) (nowB a b) (preN a b) m hm
  have := nowB_size a b
  omega
theorem txt_byte {s : ByteArray} {lo hi : Int} (h : txt s lo hi = true) {n : Nat} (hn : n < s.size) : (s[n]'hn).toNat < 128 := by
  simp only [txt, Bool.and_eq_true, List.all_eq_true] at h
  have := h.1 (s[n]'hn) (by show s.data[n] ∈ _; exact Array.getElem_mem_toList _)
  simp [chOk, chN] at this
  omega
theorem txt_size {s : ByteArray} (h : txt s 0 40 = true) : s.size ≤ 40 := by
  simp only [txt, Bool.and_eq_true] at h
  have := (inB_iff.1 h.2).2
  omega
theorem oldB_byte {a b : ByteArray} {lo hi : Int} (h : txt a lo hi = true) {n : Nat} (hn : n < (oldB a b).size) : ((oldB a b)[n]'hn).toNat < 128 := by
  have hs := oldB_size a b
  have h1 : (oldB a b)[n]'hn = a[preN a b + n]'(by omega) := by
    simp only [oldB]
    exact ByteArray.getElem_extract ..
  rw [h1]
  exact txt_byte h _
def mbOk (a b : ByteArray) : Bool := txt a 0 40 && txt b 0 40
def msP (a b : ByteArray) : List Mrk × Bool := if mbOk a b && aMk [a] (btw a b) then (btw a b, true) else ([], false)
theorem msP_bad {a b : ByteArray} (h : (mbOk a b && aMk [a] (btw a b)) = false) : msP a b = ([], false) := by simp only [msP, h]; rfl
theorem msP_good {a b : ByteArray} (h1 : mbOk a b = true) (h2 : aMk [a] (btw a b) = true) : msP a b = (btw a b, true) := by simp [msP, h1, h2]
theorem msP_len (a b : ByteArray) : (msP a b).1.length ≤ 4000000 := by
  cases h : mbOk a b && aMk [a] (btw a b)
  · rw [msP_bad h]; simp
  · simp only [Bool.and_eq_true] at h
    rw [msP_good h.1 h.2]
    have := aMk_len h.2
    show (btw a b).length ≤ _
    omega
theorem prf_one (a : ByteArray) : prf [a] = txt a 0 40 := by simp [prf, inB]
/-- One step of an iterator over a text, wherever it lies. -/
theorem next_at {w : World} {g pos : Nat} {s : ByteArray} (h : w.heap[g]? = some (.stringIter s pos)) (hp : pos < s.size) (ha : (s[pos]'hp).toNat < 128) :
    ∃ w', (∀ (P : Program) ty, (Instr.next (.pointer (some ⟨g, 0, none⟩)) true ty).run P w = .ok (.tuple #[.bool true, .int .i64 pos, .int .i32 (s[pos]'hp).toNat]) w') ∧
      w'.heap[g]? = some (.stringIter s (pos + 1)) ∧ w'.heap.size = w.heap.size ∧ (∀ k, k ≠ g → w'.heap[k]? = w.heap[k]?) ∧ w'.os = w.os ∧ w'.tape = w.tape ∧ w'.output = w.output := by
  have hg : g < w.heap.size := (Array.getElem?_eq_some_iff.1 h).1
  refine ⟨{ w with heap := w.heap.setIfInBounds g (.stringIter s (pos + 1)) }, fun P ty => ?_, ?_, ?_, ?_, rfl, rfl, rfl⟩
  · simp only [Instr.next, getObj, setObj, Sem.run_bind, Sem.run, h, Result.andThen, hp, if_true, decode_ascii s pos hp ha]
    simp [goInt, Sem.run, h]
  · simp [hg]
  · simp
  · intro k hk
    rw [Array.getElem?_setIfInBounds, if_neg (fun e => hk e.symm)]
theorem own_ne {w : World} {base e size n g pos : Nat} {v : Value} {xs : List Value} {s : ByteArray} (h : w.ownsRow base e size v n xs) (hg : w.heap[g]? = some (.stringIter s pos)) : v.ownBlock ≠ some g := by
  intro e
  rcases h.2 with ⟨hv, _⟩ | ⟨g', cap, cur, hv, _, hh, _⟩
  · rw [hv] at e; simp [Value.ownBlock] at e
  · rw [hv] at e
    have : g' = g := by simpa [Value.ownBlock] using e
    subst this
    rw [hg] at hh
    cases hh
theorem own_iter {w w' : World} {base e size n g pos : Nat} {v : Value} {xs : List Value} {s : ByteArray} (h : w.ownsRow base e size v n xs) (hg : w.heap[g]? = some (.stringIter s pos)) (hb : ∀ k, k ≠ g → w'.heap[k]? = w.heap[k]?) : w'.ownsRow base e size v n xs := by
  have hne := own_ne h hg
  obtain ⟨h1, h2⟩ := h
  refine ⟨h1, ?_⟩
  rcases h2 with h2 | ⟨g', cap, cur, hv, hgb, hh, r⟩
  · exact .inl h2
  · refine .inr ⟨g', cap, cur, hv, hgb, (hb g' (fun e => hne (by rw [hv, e]; simp [Value.ownBlock]))).trans hh, r⟩
theorem iter_grown {w w' : World} {base e size n g pos : Nat} {v : Value} {xs : List Value} {s : ByteArray} {o : Obj} (h : w.ownsRow base e size v n xs) (hg : w.heap[g]? = some (.stringIter s pos)) (hgr : (w.alloc o).grownBy w' v.ownBlock) : w'.heap[g]? = some (.stringIter s pos) := by
  have hlt : g < w.heap.size := (Array.getElem?_eq_some_iff.1 hg).1
  have h1 : (w.alloc o).heap[g]? = some (.stringIter s pos) := (Below.block (Ext.alloc w o) g hlt).trans hg
  exact (hgr.block g (by simp; omega) (fun e => own_ne h hg e.symm)).trans h1
theorem iter_new (w : World) (s : ByteArray) : (w.iter s 0).heap[w.heap.size]? = some (.stringIter s 0) := World.iter_heap w s 0
theorem Ext.iterNew {W w : World} (h : Ext W w) (s : ByteArray) : Ext W (w.iter s 0) := h.trans (Ext.alloc w _)
theorem next_stop {w : World} {g pos : Nat} {s : ByteArray} (h : w.heap[g]? = some (.stringIter s pos)) (hp : ¬ pos < s.size) (P : Program) (ty : TypeId) :
    (Instr.next (.pointer (some ⟨g, 0, none⟩)) true ty).run P w = .ok (.tuple #[.bool false]) w := by
  simp [Instr.next, getObj, Sem.run, h, hp]
end Go.Proofs.Ytclcclhdmciggaa
