/- Walks of the book's sheets at bytes: paint, spill, clean. -/
import Derived.Test.YtdifdbkbpeanhaaDoorRows
import Derived.Test.YtdifdbkbpeanhaaDoorMg1
import Derived.Handy
import Derived.Lib.Hide
import Derived.Deep.QuietTactic
import Derived.BigQuiet
set_option linter.unusedSimpArgs false
set_option linter.unusedVariables false
namespace Herb
open Go Go.RowKit
/-- All blocks but g lie as they lay. -/
structure KeepG (g : Nat) (w w' : World) : Prop where
  os : w'.os = w.os
  tape : w'.tape = w.tape
  output : w'.output = w.output
  size : w.heap.size ≤ w'.heap.size
  block : ∀ k, k < w.heap.size → k ≠ g → w'.heap[k]? = w.heap[k]?
theorem KeepG.refl (g : Nat) (w : World) : KeepG g w w := ⟨rfl, rfl, rfl, Nat.le_refl _, fun _ _ _ => rfl⟩
theorem KeepG.trans {g : Nat} {a b c : World} (h : KeepG g a b) (k : KeepG g b c) : KeepG g a c :=
  ⟨k.os.trans h.os, k.tape.trans h.tape, k.output.trans h.output, Nat.le_trans h.size k.size, fun i hi hg => (k.block i (Nat.lt_of_lt_of_le hi h.size) hg).trans (h.block i hi hg)⟩
theorem KeepG.of_below {g : Nat} {a b : World} (h : Below a.heap.size a b) : KeepG g a b := ⟨h.os, h.tape, h.output, h.size, fun i hi _ => h.block i hi⟩
theorem KeepG.set {g : Nat} {a b : World} (h : KeepG g a b) (j : Nat) (v : Value) : KeepG g a (b.setCell ⟨g, j, none⟩ v) :=
  ⟨h.os, h.tape, h.output, by simpa using h.size, fun i hi hg => (heap_setCell_other b ⟨g, j, none⟩ i v hg).trans (h.block i hi hg)⟩
theorem KeepG.drewN {g : Nat} {a b : World} (h : KeepG g a b) (n : Nat) : KeepG g a (b.drewN n) := ⟨h.os, h.tape, h.output, h.size, h.block⟩
theorem KeepG.blk {g k : Nat} {a b : World} (h : KeepG g a b) {t : TypeId} {cs : Array Value} (hb : Blk a k t cs) (hk : k ≠ g) : Blk b k t cs := (h.block k hb.lt hk).trans hb
theorem KeepG.below {g B : Nat} {w a b : World} (h : KeepG g a b) (hw : Below B w a) (hB : B ≤ w.heap.size) (hg : B ≤ g) : Below B w b :=
  ⟨h.os.trans hw.os, h.tape.trans hw.tape, h.output.trans hw.output, Nat.le_trans hw.size h.size, fun i hi => (h.block i (Nat.lt_of_lt_of_le hi (Nat.le_trans hB hw.size)) (by omega)).trans (hw.block i hi)⟩
/-- Cells a .. b hold v. -/
def fr (cs : Array Value) (v : Value) (a b : Nat) : Array Value := (List.range' a (b - a)).foldl (fun c i => c.setIfInBounds i v) cs
theorem fr_self (cs : Array Value) (v : Value) (a : Nat) : fr cs v a a = cs := by simp [fr]
theorem fr_succ (cs : Array Value) (v : Value) (a b : Nat) (h : a ≤ b) : fr cs v a (b + 1) = (fr cs v a b).setIfInBounds b v := by
  unfold fr
  rw [show b + 1 - a = (b - a) + 1 by omega, List.range'_1_concat, List.foldl_append]
  simp only [List.foldl_cons, List.foldl_nil]
  rw [show a + (b - a) = b by omega]
theorem fr_size (cs : Array Value) (v : Value) (a b : Nat) (h : a ≤ b) : (fr cs v a b).size = cs.size := by
  obtain ⟨n, rfl⟩ : ∃ n, b = a + n := ⟨b - a, by omega⟩
  induction n with
  | zero => rw [Nat.add_zero, fr_self]
  | succ n ih => rw [← Nat.add_assoc, fr_succ _ _ _ _ (by omega), Array.size_setIfInBounds, ih (by omega)]
theorem fr_get (cs : Array Value) (v : Value) (a b j : Nat) (h : a ≤ b) (hb : b ≤ cs.size) : (fr cs v a b)[j]? = if a ≤ j ∧ j < b then some v else cs[j]? := by
  obtain ⟨n, rfl⟩ : ∃ n, b = a + n := ⟨b - a, by omega⟩
  induction n with
  | zero => rw [Nat.add_zero, fr_self, if_neg (by omega)]
  | succ n ih =>
    rw [← Nat.add_assoc, fr_succ _ _ _ _ (by omega), Array.getElem?_setIfInBounds, ih (by omega) (by omega), fr_size _ _ _ _ (by omega)]
    by_cases e : a + n = j
    · subst e
      rw [if_pos rfl, if_pos (by omega), if_pos (by omega)]
    · rw [if_neg e]
      by_cases e2 : a ≤ j ∧ j < a + n
      · rw [if_pos e2, if_pos (by omega)]
      · rw [if_neg e2, if_neg (by omega)]
end Herb
namespace Go.Proofs.YtdifdbkbpeanhaaDoor
open Go Go.RowKit Herb

end Go.Proofs.YtdifdbkbpeanhaaDoor
