/- All blocks but some lie as they lay. No function of the program is named. -/
import Derived.Test.YtnlmchbigpjamaaBase
import Derived.Lib.Hide
set_option linter.unusedSimpArgs false
set_option linter.unusedVariables false
namespace Herb
open Go Go.RowKit
/-- All blocks but some lie as they lay. -/
structure KeepBut (S : Nat → Prop) (w w' : World) : Prop where
  os : w'.os = w.os
  tape : w'.tape = w.tape
  output : w'.output = w.output
  size : w.heap.size ≤ w'.heap.size
  block : ∀ k, k < w.heap.size → ¬ S k → w'.heap[k]? = w.heap[k]?
section
variable {S S' : Nat → Prop} {w w' w'' : World}
theorem KeepBut.of_below (h : Below w.heap.size w w') : KeepBut S w w' := ⟨h.os, h.tape, h.output, h.size, fun k hk _ => h.block k hk⟩
theorem KeepBut.refl (w : World) : KeepBut S w w := ⟨rfl, rfl, rfl, Nat.le_refl _, fun _ _ _ => rfl⟩
theorem KeepBut.trans (h : KeepBut S w w') (h' : KeepBut S w' w'') : KeepBut S w w'' :=
  ⟨h'.os.trans h.os, h'.tape.trans h.tape, h'.output.trans h.output, Nat.le_trans h.size h'.size, fun k hk hn => (h'.block k (Nat.lt_of_lt_of_le hk h.size) hn).trans (h.block k hk hn)⟩
theorem KeepBut.weak (h : KeepBut S w w') (hs : ∀ k, k < w.heap.size → S k → S' k) : KeepBut S' w w' := ⟨h.os, h.tape, h.output, h.size, fun k hk hn => h.block k hk (fun e => hn (hs k hk e))⟩
theorem KeepBut.below {B : Nat} (h : KeepBut S w w') (hB : B ≤ w.heap.size) (hs : ∀ k, S k → B ≤ k) : Below B w w' :=
  ⟨h.os, h.tape, h.output, h.size, fun k hk => h.block k (by omega) (fun e => by have := hs k e; omega)⟩
theorem KeepBut.of_grown {row : Option Nat} (h : w.grownBy w' row) (hs : ∀ k, row = some k → S k) : KeepBut S w w' :=
  ⟨h.os, h.tape, h.output, h.size, fun k hk hn => h.block k hk (fun e => hn (hs k e.symm))⟩
theorem KeepBut.drew (h : KeepBut S w w') : KeepBut S w w'.drew := ⟨h.os, h.tape, h.output, h.size, h.block⟩
theorem KeepBut.drewN (h : KeepBut S w w') (n : Nat) : KeepBut S w (w'.drewN n) := ⟨h.os, h.tape, h.output, h.size, h.block⟩
theorem KeepBut.setCell (h : KeepBut S w w') {p : Addr} (hp : S p.block) (u : Value) : KeepBut S w (w'.setCell p u) :=
  ⟨h.os, h.tape, h.output, by simpa [World.setCell] using h.size, fun k hk hn => (Below.heap_setCell w' p u k (fun e => hn (e ▸ hp))).trans (h.block k hk hn)⟩
theorem KeepBut.set_at (w : World) (g o : Nat) (u : Value) : KeepBut (fun k => k = g) w (w.setCell ⟨g, o, none⟩ u) := KeepBut.setCell (S := fun k => k = g) (p := ⟨g, o, none⟩) (KeepBut.refl w) rfl u
theorem KeepBut.setCell_new (h : KeepBut S w w') {p : Addr} (hp : w.heap.size ≤ p.block) (u : Value) : KeepBut S w (w'.setCell p u) :=
  ⟨h.os, h.tape, h.output, by simpa [World.setCell] using h.size, fun k hk hn => (Below.heap_setCell w' p u k (fun e => by omega)).trans (h.block k hk hn)⟩
theorem KeepBut.alloc (h : KeepBut S w w') (o : Obj) : KeepBut S w (w'.alloc o) :=
  ⟨h.os, h.tape, h.output, by have := h.size; simp; omega, fun k hk hn => (Below.heap_alloc w' o k (Nat.lt_of_lt_of_le hk h.size)).trans (h.block k hk hn)⟩
theorem Rd.but {A : Option Addr} {size n : Nat} {xs : List Value} (h : Rd w size A n xs) (hlt : ∀ a, A = some a → 0 < n → ¬ S a.block) (hk : KeepBut S w w') : Rd w' size A n xs := by
  refine ⟨h.1, fun hn => ?_⟩
  obtain ⟨b, off, rfl, hb, hc⟩ := h.2 hn
  refine ⟨b, off, rfl, Nat.lt_of_lt_of_le hb hk.size, fun j u hu => ?_⟩
  have hbl := hk.block b hb (hlt _ rfl hn)
  rw [← hc j u hu]
  unfold World.cell?
  rw [hbl]
theorem KeepBut.blk {g : Nat} {t : TypeId} {cs : Array Value} (hk : KeepBut S w w') (h : Blk w g t cs) (hs : ¬ S g) : Blk w' g t cs := (hk.block g h.lt hs).trans h
theorem KeepBut.own {base n size : Nat} {e : TypeId} {v : Value} {xs : List Value} (hk : KeepBut S w w') (h : w.ownsRow base e size v n xs) (hs : ∀ k, v.ownBlock = some k → ¬ S k) : w'.ownsRow base e size v n xs := by
  refine ⟨h.1, ?_⟩
  rcases h.2 with h1 | ⟨g, cap, cur, rfl, hb, hg, hc⟩
  · exact .inl h1
  · exact .inr ⟨g, cap, cur, rfl, hb, (hk.block g (Array.getElem?_eq_some_iff.1 hg).1 (hs g rfl)).trans hg, hc⟩
end
end Herb
