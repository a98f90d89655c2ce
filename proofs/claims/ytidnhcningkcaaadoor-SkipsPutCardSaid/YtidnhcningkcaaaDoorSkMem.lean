/- Skip lists in memory. -/
import Derived.Test.YtidnhcningkcaaaDoorSkIns
import Derived.Test.YtidnhcningkcaaaDoorApp
import Derived.Laws.OwnMore
import Derived.Deep.MidRow
import Derived.Deep.Onto
set_option linter.unusedSimpArgs false
set_option linter.unusedVariables false
namespace Herb
open Go Go.RowKit
theorem flat_length {N : List Nd} (h8 : Ok8 N) : (flat N).length = N.length * 10 := by
  unfold flat
  induction N with
  | nil => rfl
  | cons d N ih =>
    have h1 := h8 d (by simp)
    rw [List.flatMap_cons, List.length_append, ih (fun x hx => h8 x (by simp [hx])), List.length_cons]
    simp [Nd.cells, h1]
    omega
theorem flat_get {N : List Nd} (h8 : Ok8 N) : ∀ {i : Nat}, i < N.length → ∀ {j : Nat}, j < 10 → (flat N)[i * 10 + j]? = (N.getD i Nd.zero).cells[j]? := by
  induction N with
  | nil => intro i hi; simp at hi
  | cons d N ih =>
    intro i hi j hj
    have h1 := h8 d (by simp)
    have hl : d.cells.length = 10 := by simp [Nd.cells, h1]
    have e : flat (d :: N) = d.cells ++ flat N := rfl
    rw [e]
    cases i with
    | zero =>
      rw [List.getElem?_append_left (by omega)]
      simp
    | succ i =>
      rw [List.getElem?_append_right (by omega), show (i + 1) * 10 + j - d.cells.length = i * 10 + j by omega, ih (fun x hx => h8 x (by simp [hx])) (by simpa using hi) hj]
      simp
theorem flat_set {N : List Nd} (h8 : Ok8 N) {f v : Nat} (hf : f < 8) : ∀ {i : Nat}, i < N.length → (flat N).set (i * 10 + 2 + f) (.int .i64 (v : Int)) = flat (setNx N i f v) := by
  induction N with
  | nil => intro i hi; simp at hi
  | cons d N ih =>
    intro i hi
    have h1 := h8 d (by simp)
    have hl : d.cells.length = 10 := by simp [Nd.cells, h1]
    have e : ∀ d N, flat (d :: N) = d.cells ++ flat N := fun _ _ => rfl
    rw [e]
    cases i with
    | zero =>
      rw [List.set_append_left _ _ (by omega)]
      simp only [setNx, List.set_cons_zero, e]
      congr 1
      simp [Nd.cells, List.map_set, show 2 + f = f + 1 + 1 by omega]
    | succ i =>
      rw [List.set_append_right _ _ (by omega), show (i + 1) * 10 + 2 + f - d.cells.length = i * 10 + 2 + f by omega, ih (fun x hx => h8 x (by simp [hx])) (by simpa using hi)]
      simp [setNx, e]
theorem flat_snoc (N : List Nd) (d : Nd) : flat (N ++ [d]) = flat N ++ d.cells := by simp [flat]
/-- A key in memory: a block of bytes' head. -/
def KeyAt (w : World) (tb : TypeId) (A : Option Addr) (l : List UInt8) : Prop := l = [] ∨ ∃ (g : Nat) (cs : Array Value) (fr : Nat × Nat), A = some ⟨g, 0, none⟩ ∧ w.heap[g]? = some (.cells cs tb fr) ∧ ∀ (j : Nat) (u : Value), (bvs l)[j]? = some u → (cs : Array Value)[j]? = some u
theorem KeyAt.bs {w : World} {tb : TypeId} {A : Option Addr} {l : List UInt8} (h : KeyAt w tb A l) : Bs w A l := by
  refine ⟨by rw [bvs_length]; omega, fun hn => ?_⟩
  rcases h with rfl | ⟨g, cs, fr, rfl, hg, hc⟩
  · simp at hn
  · exact ⟨g, 0, rfl, (Array.getElem?_eq_some_iff.1 hg).1, fun j u hu => by
      rw [Nat.zero_add, cell_of_row w g j cs tb fr hg]
      exact hc j u hu⟩
/-- All blocks but some lie as they lay. -/
structure KeepBut (S : Nat → Prop) (w w' : World) : Prop where
  os : w'.os = w.os
  tape : w'.tape = w.tape
  output : w'.output = w.output
  size : w.heap.size ≤ w'.heap.size
  block : ∀ k, k < w.heap.size → ¬ S k → w'.heap[k]? = w.heap[k]?
section
variable {S S' : Nat → Prop} {w w' w'' : World}
theorem KeepBut.of_below (h : Below w.heap.size w w') : KeepBut S w w' := ⟨h.os, h.tape, h.output, h.size, fun k hk _ => h.block k hk⟩
theorem KeepBut.refl (w : World) : KeepBut S w w := ⟨rfl, rfl, rfl, Nat.le_refl _, fun _ _ _ => rfl⟩
theorem KeepBut.trans (h : KeepBut S w w') (h' : KeepBut S w' w'') : KeepBut S w w'' :=
  ⟨h'.os.trans h.os, h'.tape.trans h.tape, h'.output.trans h.output, Nat.le_trans h.size h'.size, fun k hk hn => (h'.block k (Nat.lt_of_lt_of_le hk h.size) hn).trans (h.block k hk hn)⟩
theorem KeepBut.weak (h : KeepBut S w w') (hs : ∀ k, k < w.heap.size → S k → S' k) : KeepBut S' w w' := ⟨h.os, h.tape, h.output, h.size, fun k hk hn => h.block k hk (fun e => hn (hs k hk e))⟩
theorem KeepBut.below {B : Nat} (h : KeepBut S w w') (hB : B ≤ w.heap.size) (hs : ∀ k, S k → B ≤ k) : Below B w w' :=
  ⟨h.os, h.tape, h.output, h.size, fun k hk => h.block k (by omega) (fun e => by have := hs k e; omega)⟩
theorem KeepBut.of_grown {row : Option Nat} (h : w.grownBy w' row) (hs : ∀ k, row = some k → S k) : KeepBut S w w' :=
  ⟨h.os, h.tape, h.output, h.size, fun k hk hn => h.block k hk (fun e => hn (hs k e.symm))⟩
theorem KeepBut.drew (h : KeepBut S w w') : KeepBut S w w'.drew := ⟨h.os, h.tape, h.output, h.size, h.block⟩
theorem KeepBut.drewN (h : KeepBut S w w') (n : Nat) : KeepBut S w (w'.drewN n) := ⟨h.os, h.tape, h.output, h.size, h.block⟩
theorem KeepBut.setCell (h : KeepBut S w w') {p : Addr} (hp : S p.block) (u : Value) : KeepBut S w (w'.setCell p u) :=
  ⟨h.os, h.tape, h.output, by simpa [World.setCell] using h.size, fun k hk hn => (Below.heap_setCell w' p u k (fun e => hn (e ▸ hp))).trans (h.block k hk hn)⟩
theorem KeepBut.set_at (w : World) (g o : Nat) (u : Value) : KeepBut (fun k => k = g) w (w.setCell ⟨g, o, none⟩ u) := KeepBut.setCell (S := fun k => k = g) (p := ⟨g, o, none⟩) (KeepBut.refl w) rfl u
theorem KeepBut.setCell_new (h : KeepBut S w w') {p : Addr} (hp : w.heap.size ≤ p.block) (u : Value) : KeepBut S w (w'.setCell p u) :=
  ⟨h.os, h.tape, h.output, by simpa [World.setCell] using h.size, fun k hk hn => (Below.heap_setCell w' p u k (fun e => by omega)).trans (h.block k hk hn)⟩
theorem KeepBut.alloc (h : KeepBut S w w') (o : Obj) : KeepBut S w (w'.alloc o) :=
  ⟨h.os, h.tape, h.output, by have := h.size; simp; omega, fun k hk hn => (Below.heap_alloc w' o k (Nat.lt_of_lt_of_le hk h.size)).trans (h.block k hk hn)⟩
theorem KeyAt.keep {tb : TypeId} {A : Option Addr} {l : List UInt8} (h : KeyAt w tb A l) (hk : KeepBut S w w') (hs : ∀ k cs fr, w.heap[k]? = some (.cells cs tb fr) → ¬ S k) : KeyAt w' tb A l := by
  rcases h with rfl | ⟨g, cs, fr, rfl, hg, hc⟩
  · exact .inl rfl
  · exact .inr ⟨g, cs, fr, rfl, (hk.block g (Array.getElem?_eq_some_iff.1 hg).1 (hs g cs fr hg)).trans hg, hc⟩
theorem Bs.but {A : Option Addr} {l : List UInt8} {B : Nat} (h : Bs w A l) (hlt : ∀ a, A = some a → 0 < l.length → ¬ S a.block) (hk : KeepBut S w w') : Bs w' A l := by
  refine ⟨h.1, fun hn => ?_⟩
  obtain ⟨b, off, rfl, hb, hc⟩ := h.2 hn
  refine ⟨b, off, rfl, Nat.lt_of_lt_of_le hb hk.size, fun j u hu => ?_⟩
  have hbl := hk.block b hb (hlt _ rfl hn)
  rw [← hc j u hu]
  unfold World.cell?
  rw [hbl]
end
end Herb
namespace Go.Proofs.YtidnhcningkcaaaDoor
open Go Go.RowKit Herb
/-- A list in memory: at p, its nodes in block g. -/
structure SkAt (w : World) (base p g cap : Nat) (N : List Nd) : Prop where
  box : Blk w p 45 #[.slice (some ⟨g, 0, none⟩) N.length cap]
  row : w.ownsRow base 54 10 (.slice (some ⟨g, 0, none⟩) N.length cap) N.length (flat N)
  keys : ∀ d ∈ N, KeyAt w 5 d.A d.key ∧ d.key.length ≤ 140737488355328
  pb : base ≤ p
section
variable {w w' : World} {base p g cap : Nat} {N : List Nd}
theorem SkAt.gblk (h : SkAt w base p g cap N) : ∃ cur, w.heap[g]? = some (.cells cur 54 (0, 0)) ∧ base ≤ g ∧ N.length ≤ cap := by
  rcases h.row.2 with ⟨h1, _⟩ | ⟨g', cap', cur, hv, hb, hg, hc, _⟩
  · cases h1
  · cases hv
    exact ⟨cur, hg, hb, hc⟩
theorem SkAt.ne (h : SkAt w base p g cap N) : p ≠ g := by
  rintro rfl
  obtain ⟨cur, hg, _⟩ := h.gblk
  have hb := h.box
  unfold Blk at hb
  rw [hb] at hg
  injection hg with hg
  injection hg with _ ht
  exact absurd ht (by decide)
theorem SkAt.lt (h : SkAt w base p g cap N) : p < w.heap.size ∧ g < w.heap.size := by
  obtain ⟨cur, hg, _⟩ := h.gblk
  exact ⟨h.box.lt, (Array.getElem?_eq_some_iff.1 hg).1⟩
theorem SkAt.keep {S : Nat → Prop} (h : SkAt w base p g cap N) (hk : KeepBut S w w') (hp : ¬ S p) (hg : ¬ S g) (hs : ∀ k cs fr, w.heap[k]? = some (.cells cs 5 fr) → ¬ S k) : SkAt w' base p g cap N := by
  refine ⟨(hk.block p h.lt.1 hp).trans h.box, ⟨h.row.1, ?_⟩, fun d hd => ⟨(h.keys d hd).1.keep hk hs, (h.keys d hd).2⟩, h.pb⟩
  rcases h.row.2 with ⟨h1, _⟩ | ⟨g', cap', cur, hv, hb, hgg, hc⟩
  · cases h1
  · cases hv
    exact .inr ⟨g, cap, cur, rfl, hb, (hk.block g h.lt.2 hg).trans hgg, hc⟩
theorem SkAt.below (h : SkAt w base p g cap N) (hb : Below w.heap.size w w') : SkAt w' base p g cap N :=
  h.keep (S := fun _ => False) (KeepBut.of_below hb) (fun e => e) (fun e => e) (fun _ _ _ _ e => e)
theorem SkAt.drew (h : SkAt w base p g cap N) : SkAt w.drew base p g cap N := ⟨h.box, h.row, h.keys, h.pb⟩
theorem mem_setNx {N : List Nd} {i f v : Nat} {d : Nd} (hi : i < N.length) (h : d ∈ setNx N i f v) : ∃ d' ∈ N, d.key = d'.key ∧ d.A = d'.A := by
  unfold setNx at h
  rcases List.mem_or_eq_of_mem_set h with h1 | h1
  · exact ⟨d, h1, rfl, rfl⟩
  · exact ⟨_, getD_mem hi, by rw [h1], by rw [h1]⟩
theorem SkAt.setNx (h : SkAt w base p g cap N) (h8 : Ok8 N) {i f : Nat} (hi : i < N.length) (hf : f < 8) (v : Nat) : SkAt (w.setCell ⟨g, i * 10 + 2 + f, none⟩ (.int .i64 (v : Int))) base p g cap (Herb.setNx N i f v) := by
  have hk : KeepBut (fun k => k = g) w (w.setCell ⟨g, i * 10 + 2 + f, none⟩ (.int .i64 (v : Int))) := KeepBut.set_at w g (i * 10 + 2 + f) _
  refine ⟨?_, ?_, ?_, h.pb⟩
  · rw [setNx_length]
    exact h.box.far (p := ⟨g, i * 10 + 2 + f, none⟩) h.ne _
  · have := h.row.stored (i * 10 + 2 + f) (.int .i64 (v : Int))
    rw [flat_set h8 hf hi] at this
    rw [setNx_length]
    exact this.1
  · intro d hd
    obtain ⟨d', hd', e1, e2⟩ := mem_setNx hi hd
    rw [e1, e2]
    refine ⟨(h.keys d' hd').1.keep hk (fun k cs fr hc e => ?_), (h.keys d' hd').2⟩
    obtain ⟨cur, hg, _⟩ := h.gblk
    rw [e, hg] at hc
    injection hc with hc
    injection hc with _ ht
    exact absurd ht (by decide)
theorem SkAt.cellKey (h : SkAt w base p g cap N) {i : Nat} (h8 : Ok8 N) (hi : i < N.length) : w.cell? ⟨g, i * 10, none⟩ = some (.slice (N.getD i Nd.zero).A (N.getD i Nd.zero).key.length (N.getD i Nd.zero).c) := by
  rw [h.row.cellAt (i * 10) (by omega)]
  have := flat_get h8 hi (show 0 < 10 by omega)
  rw [Nat.add_zero] at this
  rw [this]
  rfl
theorem SkAt.cellNum (h : SkAt w base p g cap N) {i : Nat} (h8 : Ok8 N) (hi : i < N.length) : w.cell? ⟨g, i * 10 + 1, none⟩ = some (.int .i64 (numOf N i)) := by
  rw [h.row.cellAt (i * 10 + 1) (by omega), flat_get h8 hi (show 1 < 10 by omega)]
  rfl
theorem SkAt.cellNx (h : SkAt w base p g cap N) {i f : Nat} (h8 : Ok8 N) (hi : i < N.length) (hf : f < 8) : w.cell? ⟨g, i * 10 + 2 + f, none⟩ = some (.int .i64 (nxOf N f i : Int)) := by
  rw [h.row.cellAt (i * 10 + 2 + f) (by omega), Nat.add_assoc, flat_get h8 hi (show 2 + f < 10 by omega)]
  have hl := h8 _ (getD_mem hi)
  unfold nxOf
  generalize N.getD i Nd.zero = d at hl
  unfold Nd.cells
  rw [show 2 + f = f + 1 + 1 by omega, List.getElem?_cons_succ, List.getElem?_cons_succ, List.getElem?_map]
  simp [List.getD, show f < d.nx.length by omega]
end
end Go.Proofs.YtidnhcningkcaaaDoor
