/- Walks of the book's sheets at bytes: paint, spill, clean. -/
import Derived.Test.YtidnhcningkcaaaDoorRows
import Derived.Test.YtidnhcningkcaaaDoorBase
import Derived.Handy
import Derived.Lib.Hide
import Derived.Deep.QuietTactic
import Derived.BigQuiet
set_option linter.unusedSimpArgs false
set_option linter.unusedVariables false
namespace Herb
open Go Go.RowKit
/-- All blocks but g lie as they lay. -/
structure KeepG (g : Nat) (w w' : World) : Prop where
  os : w'.os = w.os
  tape : w'.tape = w.tape
  output : w'.output = w.output
  size : w.heap.size ≤ w'.heap.size
  block : ∀ k, k < w.heap.size → k ≠ g → w'.heap[k]? = w.heap[k]?
theorem KeepG.refl (g : Nat) (w : World) : KeepG g w w := ⟨rfl, rfl, rfl, Nat.le_refl _, fun _ _ _ => rfl⟩
theorem KeepG.trans {g : Nat} {a b c : World} (h : KeepG g a b) (k : KeepG g b c) : KeepG g a c :=
  ⟨k.os.trans h.os, k.tape.trans h.tape, k.output.trans h.output, Nat.le_trans h.size k.size, fun i hi hg => (k.block i (Nat.lt_of_lt_of_le hi h.size) hg).trans (h.block i hi hg)⟩
theorem KeepG.of_below {g : Nat} {a b : World} (h : Below a.heap.size a b) : KeepG g a b := ⟨h.os, h.tape, h.output, h.size, fun i hi _ => h.block i hi⟩
theorem KeepG.set {g : Nat} {a b : World} (h : KeepG g a b) (j : Nat) (v : Value) : KeepG g a (b.setCell ⟨g, j, none⟩ v) :=
  ⟨h.os, h.tape, h.output, by simpa using h.size, fun i hi hg => (heap_setCell_other b ⟨g, j, none⟩ i v hg).trans (h.block i hi hg)⟩
theorem KeepG.drewN {g : Nat} {a b : World} (h : KeepG g a b) (n : Nat) : KeepG g a (b.drewN n) := ⟨h.os, h.tape, h.output, h.size, h.block⟩
theorem KeepG.blk {g k : Nat} {a b : World} (h : KeepG g a b) {t : TypeId} {cs : Array Value} (hb : Blk a k t cs) (hk : k ≠ g) : Blk b k t cs := (h.block k hb.lt hk).trans hb
theorem KeepG.below {g B : Nat} {w a b : World} (h : KeepG g a b) (hw : Below B w a) (hB : B ≤ w.heap.size) (hg : B ≤ g) : Below B w b :=
  ⟨h.os.trans hw.os, h.tape.trans hw.tape, h.output.trans hw.output, Nat.le_trans hw.size h.size, fun i hi => (h.block i (Nat.lt_of_lt_of_le hi (Nat.le_trans hB hw.size)) (by omega)).trans (hw.block i hi)⟩
/-- Cells a .. b hold v. -/
def fr (cs : Array Value) (v : Value) (a b : Nat) : Array Value := (List.range' a (b - a)).foldl (fun c i => c.setIfInBounds i v) cs
theorem fr_self (cs : Array Value) (v : Value) (a : Nat) : fr cs v a a = cs := by simp [fr]
theorem fr_succ (cs : Array Value) (v : Value) (a b : Nat) (h : a ≤ b) : fr cs v a (b + 1) = (fr cs v a b).setIfInBounds b v := by
  unfold fr
  rw [show b + 1 - a = (b - a) + 1 by omega, List.range'_1_concat, List.foldl_append]
  simp only [List.foldl_cons, List.foldl_nil]
  rw [show a + (b - a) = b by omega]
theorem fr_size (cs : Array Value) (v : Value) (a b : Nat) (h : a ≤ b) : (fr cs v a b).size = cs.size := by
  obtain ⟨n, rfl⟩ : ∃ n, b = a + n := ⟨b - a, by omega⟩
  induction n with
  | zero => rw [Nat.add_zero, fr_self]
  | succ n ih => rw [← Nat.add_assoc, fr_succ _ _ _ _ (by omega), Array.size_setIfInBounds, ih (by omega)]
theorem fr_get (cs : Array Value) (v : Value) (a b j : Nat) (h : a ≤ b) (hb : b ≤ cs.size) : (fr cs v a b)[j]? = if a ≤ j ∧ j < b then some v else cs[j]? := by
  obtain ⟨n, rfl⟩ : ∃ n, b = a + n := ⟨b - a, by omega⟩
  induction n with
  | zero => rw [Nat.add_zero, fr_self, if_neg (by omega)]
  | succ n ih =>
    rw [← Nat.add_assoc, fr_succ _ _ _ _ (by omega), Array.getElem?_setIfInBounds, ih (by omega) (by omega), fr_size _ _ _ _ (by omega)]
    by_cases e : a + n = j
    · subst e
      rw [if_pos rfl, if_pos (by omega), if_pos (by omega)]
    · rw [if_neg e]
      by_cases e2 : a ≤ j ∧ j < a + n
      · rw [if_pos e2, if_pos (by omega)]
      · rw [if_neg e2, if_neg (by omega)]
end Herb
namespace Go.Proofs.YtidnhcningkcaaaDoor
open Go Go.RowKit Herb

set_option maxHeartbeats 800000 in
theorem paint_b (w : World) (g n c : Nat) (v : UInt8) (cs : Array Value) (hnc : n ≤ c) (hc : c ≤ cs.size) (hcs : c ≤ 9223372036854775807) (hg : Blk w g 5 cs) :
    Calls Tryd.prog 63 #[.agg #[.slice (some ⟨g, 0, none⟩) n c, .int .u8 (v.toNat : Int)]] w fun e w' => e = .returned (.tuple #[]) ∧ Blk w' g 5 (fr cs (.int .u8 (v.toNat : Int)) 0 n) ∧ KeepG g w w' := by
  have hg1 := hg.lt
  have k0 := KeepG.of_below (g := g) ((Below.refl w.heap.size w).alloc (Nat.le_refl _) (.cells #[.slice (some ⟨g, 0, none⟩) n c, .int .u8 (v.toNat : Int)] 74))
  have b0 := Blk.new w 74 #[.slice (some ⟨g, 0, none⟩) n c, .int .u8 (v.toNat : Int)]
  have g0 := hg.alloc (.cells #[.slice (some ⟨g, 0, none⟩) n c, .int .u8 (v.toNat : Int)] 74)
  go_enter Tryd.func63, Tryd.ntmps63
  go_wp2
  go_loopw [2] (fun i wr => ∃ k : Nat, k ≤ n ∧ i = .int .i64 (k : Int) ∧ Blk wr g 5 (fr cs (.int .u8 (v.toNat : Int)) 0 k) ∧ Blk wr w.heap.size 74 #[.slice (some ⟨g, 0, none⟩) n c, .int .u8 (v.toNat : Int)] ∧ KeepG g w wr) (fun i _ => n - (intOf i).toNat)
  case atStart => exact ⟨0, by omega, rfl, by rw [fr_self]; exact g0, b0, k0⟩
  case round =>
    clear b0 g0 k0
    obtain ⟨k, hk, rfl, hG, hb, hK⟩ := hrel
    have c0 : wr.cell? ⟨w.heap.size, 0, none⟩ = some (.slice (some ⟨g, 0, none⟩) n c) := hb.cell 0
    by_cases hlt : k < n
    · have c1 : wr.cell? ⟨w.heap.size, 1, none⟩ = some (.int .u8 (v.toNat : Int)) := hb.cell 1
      obtain ⟨u, hu⟩ : ∃ u, (fr cs (.int .u8 (v.toNat : Int)) 0 k)[k]? = some u := some_of_lt _ _ (by rw [fr_size _ _ _ _ (by omega)]; omega)
      have cg : wr.cell? ⟨g, k, none⟩ = some u := (hG.cell k).trans hu
      have fg := hG.frozen k
      have hG2 := hG.store k (.int .u8 (v.toNat : Int))
      rw [← fr_succ _ _ _ _ (by omega)] at hG2
      have hb2 := hb.far (p := ⟨g, k, none⟩) (show w.heap.size ≠ g by omega) (.int .u8 (v.toNat : Int))
      have hK2 := hK.set k (.int .u8 (v.toNat : Int))
      replace hu := Lib.hid hu
      clear hG hb hK
      go_wp2
      go_roundw
      case rel => exact ⟨k + 1, by omega, by go_num, hG2, hb2, hK2⟩
      case measure => simp [intOf]; omega
    · obtain rfl : k = n := by omega
      go_wp2
      go_end0
      exact ⟨rfl, hG, hK⟩

set_option maxHeartbeats 800000 in
theorem spill_b (w : World) (g n c : Nat) (v : UInt8) (cs : Array Value) (hnc : n ≤ c) (hc : c ≤ cs.size) (hcs : c ≤ 9223372036854775807) (hg : Blk w g 5 cs) :
    Calls Tryd.prog 64 #[.agg #[.slice (some ⟨g, 0, none⟩) n c, .int .u8 (v.toNat : Int)]] w fun e w' => e = .returned (.tuple #[]) ∧ Blk w' g 5 (fr cs (.int .u8 (v.toNat : Int)) n c) ∧ KeepG g w w' := by
  have hg1 := hg.lt
  have k0 := KeepG.of_below (g := g) ((Below.refl w.heap.size w).alloc (Nat.le_refl _) (.cells #[.slice (some ⟨g, 0, none⟩) n c, .int .u8 (v.toNat : Int)] 74))
  have b0 := Blk.new w 74 #[.slice (some ⟨g, 0, none⟩) n c, .int .u8 (v.toNat : Int)]
  have g0 := hg.alloc (.cells #[.slice (some ⟨g, 0, none⟩) n c, .int .u8 (v.toNat : Int)] 74)
  go_enter Tryd.func64, Tryd.ntmps64
  go_wp2
  go_loopw [3] (fun i wr => ∃ k : Nat, n ≤ k ∧ k ≤ c ∧ i = .int .i64 (k : Int) ∧ Blk wr g 5 (fr cs (.int .u8 (v.toNat : Int)) n k) ∧ Blk wr w.heap.size 74 #[.slice (some ⟨g, 0, none⟩) n c, .int .u8 (v.toNat : Int)] ∧ KeepG g w wr) (fun i _ => c - (intOf i).toNat)
  case atStart => exact ⟨n, by omega, by omega, rfl, by rw [fr_self]; exact g0, b0, k0⟩
  case round =>
    clear b0 g0 k0
    obtain ⟨k, hnk, hk, rfl, hG, hb, hK⟩ := hrel
    by_cases hlt : k < c
    · have c1 : wr.cell? ⟨w.heap.size, 1, none⟩ = some (.int .u8 (v.toNat : Int)) := hb.cell 1
      obtain ⟨u, hu⟩ : ∃ u, (fr cs (.int .u8 (v.toNat : Int)) n k)[k]? = some u := some_of_lt _ _ (by rw [fr_size _ _ _ _ (by omega)]; omega)
      have cg : wr.cell? ⟨g, k, none⟩ = some u := (hG.cell k).trans hu
      have fg := hG.frozen k
      have hG2 := hG.store k (.int .u8 (v.toNat : Int))
      rw [← fr_succ _ _ _ _ (by omega)] at hG2
      have hb2 := hb.far (p := ⟨g, k, none⟩) (show w.heap.size ≠ g by omega) (.int .u8 (v.toNat : Int))
      have hK2 := hK.set k (.int .u8 (v.toNat : Int))
      replace hu := Lib.hid hu
      clear hG hb hK
      go_wp2
      go_roundw
      case rel => exact ⟨k + 1, by omega, by omega, by go_num, hG2, hb2, hK2⟩
      case measure => simp [intOf]; omega
    · obtain rfl : k = c := by omega
      go_wp2
      go_end0
      exact ⟨rfl, hG, hK⟩

set_option maxHeartbeats 800000 in
theorem clean_b (w : World) (g n c : Nat) (v : UInt8) (cs : Array Value) (hnc : n ≤ c) (hcs : c ≤ 9223372036854775807) (hg : Blk w g 5 cs) (hv : ∀ j, j < c → cs[j]? = some (.int .u8 (v.toNat : Int))) :
    Calls Tryd.prog 62 #[.agg #[.slice (some ⟨g, 0, none⟩) n c, .int .u8 (v.toNat : Int)]] w fun e w' => e = .returned (.bool true) ∧ Below w.heap.size w w' := by
  have hg1 := hg.lt
  have k0 := (Below.refl w.heap.size w).alloc (Nat.le_refl _) (.cells #[.slice (some ⟨g, 0, none⟩) n c, .int .u8 (v.toNat : Int)] 74)
  have b0 := Blk.new w 74 #[.slice (some ⟨g, 0, none⟩) n c, .int .u8 (v.toNat : Int)]
  replace hv := Lib.hid hv
  go_enter Tryd.func62, Tryd.ntmps62
  go_wp2
  go_loopw [4] (fun i wr => ∃ k : Nat, k ≤ c ∧ i = .int .i64 (k : Int) ∧ Blk wr w.heap.size 74 #[.slice (some ⟨g, 0, none⟩) n c, .int .u8 (v.toNat : Int)] ∧ Below w.heap.size w wr) (fun i _ => c - (intOf i).toNat)
  case atStart => exact ⟨0, by omega, rfl, b0, k0⟩
  case round =>
    clear b0 k0
    obtain ⟨k, hk, rfl, hb, hK⟩ := hrel
    by_cases hlt : k < c
    · have c1 : wr.cell? ⟨w.heap.size, 1, none⟩ = some (.int .u8 (v.toNat : Int)) := hb.cell 1
      have cg : wr.cell? ⟨g, k, none⟩ = some (.int .u8 (v.toNat : Int)) := ((hg.below hK hg1).cell k).trans (hv.out k hlt)
      go_wp2
      go_quiet (fail)
      go_wp2
      go_roundw
      case rel => exact ⟨k + 1, by omega, by go_num, hb.drewN _, below_drewN hK _⟩
      case measure => simp [intOf]; omega
    · go_wp2
      go_ret
      exact ⟨rfl, hK⟩
end Go.Proofs.YtidnhcningkcaaaDoor
