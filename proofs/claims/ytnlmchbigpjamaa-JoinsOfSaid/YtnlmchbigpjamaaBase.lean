/- Words for memory that all walks of this seat share: 'Rd' (a slice that reads as a list of cells, nil let in), bytes as cells, small facts on worlds. No function of the program is named. -/
import Derived.WalkKit
import Derived.Deep.Draws
import Derived.Deep.AppendLies
import Derived.Maps.AppendAt
set_option linter.unusedSimpArgs false
set_option linter.unusedVariables false
namespace Herb
open Go Go.RowKit

/-- A byte as a cell; a text as cells. -/
def bv (c : UInt8) : Value := .int .u8 (c.toNat : Int)
def bvs (l : List UInt8) : List Value := l.map bv
theorem bvs_length (l : List UInt8) : (bvs l).length = l.length := by simp [bvs]
theorem bvs_append (a b : List UInt8) : bvs (a ++ b) = bvs a ++ bvs b := by simp [bvs]
theorem bvs_get {l : List UInt8} {k : Nat} (h : k < l.length) : (bvs l)[k]? = some (bv l[k]) := by simp [bvs, h]
theorem bvs_one (l : List UInt8) : ∀ u ∈ bvs l, u.oneCell' = true := by
  intro u hu
  simp only [bvs, List.mem_map] at hu
  obtain ⟨c, _, rfl⟩ := hu
  rfl

theorem add_eq (b off j : Nat) : (⟨b, off, none⟩ : Addr).add j = ⟨b, off + j, none⟩ := by
  unfold Addr.add
  split
  · simp_all
  · rfl

/-- The slice '.slice A n c' reads as the cells xs, 'size' cells an element. -/
def Rd (w : World) (size : Nat) (A : Option Addr) (n : Nat) (xs : List Value) : Prop :=
  xs.length = n * size ∧ (0 < n → ∃ b off, A = some ⟨b, off, none⟩ ∧ b < w.heap.size ∧ ∀ j u, xs[j]? = some u → w.cell? ⟨b, off + j, none⟩ = some u)

section
variable {w w' : World} {size n : Nat} {A : Option Addr} {xs : List Value}
theorem Rd.nil_ (w : World) (size : Nat) (A : Option Addr) : Rd w size A 0 [] := ⟨by simp, fun h => absurd h (by omega)⟩
theorem Rd.keep (h : Rd w size A n xs) (hs : w.heap.size ≤ w'.heap.size) (hk : ∀ p : Addr, p.block < w.heap.size → w'.cell? p = w.cell? p) : Rd w' size A n xs :=
  ⟨h.1, fun hn => by
    obtain ⟨b, off, e, hb, hc⟩ := h.2 hn
    exact ⟨b, off, e, by omega, fun j u hu => (hk ⟨b, off + j, none⟩ hb).trans (hc j u hu)⟩⟩
theorem Rd.below (h : Rd w size A n xs) (hb : Below w.heap.size w w') : Rd w' size A n xs := h.keep hb.size fun _ hp => hb.cell hp
theorem Rd.alloc (h : Rd w size A n xs) (o : Obj) : Rd (w.alloc o) size A n xs := h.below ((Below.refl _ _).alloc (Nat.le_refl _) o)
theorem Rd.drew (h : Rd w size A n xs) : Rd w.drew size A n xs := h
theorem Rd.drewN (h : Rd w size A n xs) (k : Nat) : Rd (w.drewN k) size A n xs := h
theorem Rd.at_ (h : Rd w size A n xs) {k : Nat} (hk : k < n) : ∃ b off, A = some ⟨b, off, none⟩ ∧ b < w.heap.size ∧ ∀ j u, xs[j]? = some u → w.cell? ⟨b, off + j, none⟩ = some u := h.2 (by omega)
theorem Rd.of_own {base : Nat} {e : TypeId} {c : Nat} (h : w.ownsRow base e size (.slice A n c) n xs) : Rd w size A n xs := by
  refine ⟨h.1, fun hn => ?_⟩
  obtain ⟨g, cap, hv, _, hlt⟩ := h.form hn
  have hA : A = some ⟨g, 0, none⟩ := by injection hv
  subst hA
  refine ⟨g, 0, rfl, hlt, fun j u hu => ?_⟩
  have := h.cells (g := g) rfl j u hu
  rwa [add_eq] at this
theorem own_slice {base : Nat} {e : TypeId} {v : Value} (h : w.ownsRow base e size v n xs) : ∃ A c, v = .slice A n c := by
  rcases h.2 with ⟨rfl, rfl⟩ | ⟨g, cap, cur, rfl, _⟩
  · exact ⟨_, _, rfl⟩
  · exact ⟨_, _, rfl⟩
/-- A cut 's[k:m]' as the model writes it. -/
theorem Rd.cut (h : Rd w size A n xs) {k m : Nat} (hk : k ≤ m) (hm : m ≤ n) {A' : Option Addr} (hA : k < m → A' = A.map (·.add (k * size))) :
    Rd w size A' (m - k) ((xs.drop (k * size)).take ((m - k) * size)) := by
  have hl := h.1
  refine ⟨?_, fun hn => ?_⟩
  · rw [List.length_take, List.length_drop, hl]
    have : m * size ≤ n * size := Nat.mul_le_mul_right _ hm
    have h2 : (m - k) * size = m * size - k * size := Nat.sub_mul _ _ _
    omega
  · obtain ⟨b, off, rfl, hb, hc⟩ := h.2 (by omega)
    refine ⟨b, off + k * size, by rw [hA (by omega)]; simp [add_eq], hb, fun j u hu => ?_⟩
    rw [List.getElem?_take] at hu
    split at hu
    · rw [List.getElem?_drop] at hu
      rw [Nat.add_assoc]
      exact hc _ _ hu
    · cases hu
end

/-- A text that a slice of bytes holds. -/
def Bs (w : World) (A : Option Addr) (l : List UInt8) : Prop := Rd w 1 A l.length (bvs l)
section
variable {w w' : World} {A : Option Addr} {l : List UInt8}
theorem Bs.nil_ (w : World) (A : Option Addr) : Bs w A [] := Rd.nil_ w 1 A
theorem Bs.below (h : Bs w A l) (hb : Below w.heap.size w w') : Bs w' A l := Rd.below h hb
theorem Bs.alloc (h : Bs w A l) (o : Obj) : Bs (w.alloc o) A l := Rd.alloc h o
theorem Bs.drew (h : Bs w A l) : Bs w.drew A l := h
theorem Bs.drewN (h : Bs w A l) (k : Nat) : Bs (w.drewN k) A l := h
theorem Bs.at_ (h : Bs w A l) {k : Nat} (hk : k < l.length) : ∃ b off, A = some ⟨b, off, none⟩ ∧ b < w.heap.size ∧ ∀ j (hj : j < l.length), w.cell? ⟨b, off + j, none⟩ = some (.int .u8 (l[j].toNat : Int)) := by
  obtain ⟨b, off, e, hb, hc⟩ := Rd.at_ h hk
  exact ⟨b, off, e, hb, fun j hj => hc j _ (bvs_get hj)⟩
/-- The first bytes of a text. -/
theorem Bs.take (h : Bs w A l) (k : Nat) : Bs w A (l.take k) := by
  refine ⟨by simp [bvs_length], fun hn => ?_⟩
  obtain ⟨b, off, e, hb, hc⟩ := h.2 (by simp at hn; omega)
  refine ⟨b, off, e, hb, fun j u hu => hc j u ?_⟩
  unfold bvs at hu ⊢
  rw [List.map_take] at hu
  rw [List.getElem?_take] at hu
  split at hu
  · exact hu
  · cases hu
theorem Bs.of_own {base : Nat} {e : TypeId} {n c : Nat} (h : w.ownsRow base e 1 (.slice A n c) n (bvs l)) : n = l.length ∧ Bs w A l := by
  have hn : n = l.length := by have := h.1; rw [bvs_length] at this; omega
  subst hn
  exact ⟨rfl, Rd.of_own h⟩
end

theorem cell_new_any (w : World) (C : Array Value) (t : TypeId) (fr : Nat × Nat) (j : Nat) : (w.alloc (.cells C t fr)).cell? ⟨w.heap.size, j, none⟩ = C[j]? :=
  cell_of_row _ w.heap.size j C t fr (heap_alloc_new w _)
/-- A new block of bytes, with whatever mark. -/
theorem Bs.new (w : World) (e : TypeId) (l : List UInt8) (fr : Nat × Nat) : Bs (w.alloc (.cells (bvs l).toArray e fr)) (some ⟨w.heap.size, 0, none⟩) l :=
  ⟨by rw [bvs_length]; omega, fun _ => ⟨w.heap.size, 0, rfl, by simp, fun j u hu => by rw [cell_new_any]; simpa using hu⟩⟩
/-- A new block of one cell. -/
theorem Rd.one (w : World) (e : TypeId) (u : Value) : Rd (w.alloc (.cells #[u] e)) 1 (some ⟨w.heap.size, 0, none⟩) 1 [u] :=
  ⟨rfl, fun _ => ⟨w.heap.size, 0, rfl, by simp, fun j x hx => by
    rw [cell_new_any]
    cases j with
    | zero => simpa using hx
    | succ j => simp at hx⟩⟩
theorem oneCell_one {u : Value} (h : u.oneCell' = true) : ∀ x ∈ [u], x.oneCell' = true := by
  intro x hx
  simp only [List.mem_singleton] at hx
  rw [hx]
  exact h
theorem bvs_snoc (l : List UInt8) (c : UInt8) : bvs l ++ [Value.int .u8 (c.toNat : Int)] = bvs (l ++ [c]) := by simp [bvs, bv]
theorem bvs_take_snoc (l : List UInt8) (k : Nat) (h : k < l.length) (c : UInt8) (hc : l[k] = c) : bvs (l.take k) ++ [Value.int .u8 (c.toNat : Int)] = bvs (l.take (k + 1)) := by
  rw [bvs_snoc, List.take_succ_eq_append_getElem h, hc]
/-- Block g is just the cells cs of type t, none frozen. -/
def Blk (w : World) (g : Nat) (t : TypeId) (cs : Array Value) : Prop := w.heap[g]? = some (.cells cs t (0, 0))
section
variable {w w' : World} {g : Nat} {t : TypeId} {cs : Array Value}
theorem Blk.lt (h : Blk w g t cs) : g < w.heap.size := (Array.getElem?_eq_some_iff.1 h).1
theorem Blk.cell (h : Blk w g t cs) (i : Nat) : w.cell? ⟨g, i, none⟩ = cs[i]? := cell_of_row w g i cs t (0, 0) h
theorem Blk.frozen (h : Blk w g t cs) (i : Nat) : w.frozen? ⟨g, i, none⟩ = false := frozen_of_row w g i cs t h
theorem Blk.new (w : World) (t : TypeId) (cs : Array Value) : Blk (w.alloc (.cells cs t)) w.heap.size t cs := heap_alloc_new w _
theorem Blk.below {B : Nat} (h : Blk w g t cs) (hb : Below B w w') (hg : g < B) : Blk w' g t cs := (hb.block g hg).trans h
theorem Blk.drew (h : Blk w g t cs) : Blk w.drew g t cs := h
theorem Blk.drewN (h : Blk w g t cs) (n : Nat) : Blk (w.drewN n) g t cs := h
theorem Blk.alloc (h : Blk w g t cs) (o : Obj) : Blk (w.alloc o) g t cs := (Below.heap_alloc w o g h.lt).trans h
theorem Blk.store (h : Blk w g t cs) (i : Nat) (u : Value) : Blk (w.setCell ⟨g, i, none⟩ u) g t (cs.setIfInBounds i u) := heap_setCell_same w g i cs t u h
theorem Blk.far (h : Blk w g t cs) {p : Addr} (hp : g ≠ p.block) (u : Value) : Blk (w.setCell p u) g t cs := (heap_setCell_other w p g u hp).trans h
theorem Blk.grown {row : Option Nat} (h : Blk w g t cs) (hb : w.grownBy w' row) (hg : some g ≠ row) : Blk w' g t cs := (hb.block g h.lt hg).trans h
theorem Blk.ne_ {g' : Nat} {t' : TypeId} {cs' : Array Value} (h : Blk w g t cs) (h' : Blk w g' t' cs') (hne : t ≠ t') : g ≠ g' := by
  rintro rfl
  unfold Blk at h h'
  rw [h] at h'
  injection h' with h'
  injection h' with _ ht
  exact hne ht
/-- A part of a block's cells reads as a list. -/
theorem Blk.rd {size n o : Nat} {xs : List Value} (h : Blk w g t cs) (hn : xs.length = n * size) (hx : ∀ j u, xs[j]? = some u → cs[o + j]? = some u) : Rd w size (some ⟨g, o, none⟩) n xs :=
  ⟨hn, fun _ => ⟨g, o, rfl, h.lt, fun j u hu => (h.cell (o + j)).trans (hx j u hu)⟩⟩
end

/-- A row that is filled from its head on: k of its cells are laid, the others hold z. -/
def fillA (xs : List Value) (z : Value) (k : Nat) : Array Value := (xs.take k ++ List.replicate (xs.length - k) z).toArray
theorem fillA_zero (xs : List Value) (z : Value) : fillA xs z 0 = (List.replicate xs.length z).toArray := by simp [fillA]
theorem fillA_end (xs : List Value) (z : Value) (k : Nat) (h : xs.length ≤ k) : fillA xs z k = xs.toArray := by
  unfold fillA
  rw [List.take_of_length_le h, Nat.sub_eq_zero_of_le h]
  simp
theorem fillA_size (xs : List Value) (z : Value) (k : Nat) (h : k ≤ xs.length) : (fillA xs z k).size = xs.length := by
  simp [fillA]; omega
theorem fillA_step (xs : List Value) (z : Value) (k : Nat) (h : k < xs.length) (v : Value) (hv : xs[k]? = some v) : (fillA xs z k).setIfInBounds k v = fillA xs z (k + 1) := by
  have hv' : xs[k] = v := by rw [List.getElem?_eq_getElem h] at hv; exact Option.some.inj hv
  unfold fillA
  rw [← Array.toList_inj]
  simp only [List.setIfInBounds_toArray]
  have hlen : (xs.take k).length = k := by rw [List.length_take]; omega
  rw [List.set_append_right _ _ (by omega), List.take_succ_eq_append_getElem h, List.append_assoc, hlen, Nat.sub_self, show xs.length - k = (xs.length - (k + 1)) + 1 by omega, List.replicate_succ, List.set_cons_zero, hv']
  rfl
theorem set_set (c : Array Value) (k : Nat) (u v : Value) : (c.setIfInBounds k u).setIfInBounds k v = c.setIfInBounds k v := by
  rw [← Array.toList_inj]
  simp
theorem some_of_lt (c : Array Value) (k : Nat) (h : k < c.size) : ∃ v, c[k]? = some v := ⟨_, Array.getElem?_eq_getElem h⟩

/-- 'make([]T, n)' at an element of one cell. -/
theorem make_one {P : Program} {t e : TypeId} {z : Value} {bytes : Nat} (ht : P.underlying t = some (.slice e)) (hi : (P.info? e).map (fun i => (i.zero, i.size, i.bytes)) = some (some z, 1, bytes))
    (hz : z.cells = #[z]) (n : Nat) (L : Int) (hL : L = (n : Int)) (hb : bytes * n ≤ 281474976710656) (hm : n ≤ 9223372036854775807) (w : World) :
    (Instr.makeSlice t (.int .i64 L) (.int .i64 L)).run P w = .ok (.slice (some ⟨w.heap.size, 0, none⟩) n n) (w.alloc (.cells (List.replicate n z).toArray e)) := by
  subst hL
  obtain ⟨i, hi, h1, h2, h3⟩ := info_parts hi
  have hb' : (i.bytes : Int) * (n : Int) ≤ 281474976710656 := by
    have h : ((i.bytes * n : Nat) : Int) ≤ 281474976710656 := by rw [h3]; omega
    rwa [Int.natCast_mul] at h
  have hr := run_make (P := P) w t e i z ht hi h1 .i64 .i64 n n (by omega) (by omega) hb' (by omega)
  rw [hr]
  simp only [Int.toNat_natCast, h2, Nat.mul_one, hz]
  rw [← Array.toArray_toList (xs := madeCells #[z] n), toList_madeCells_one]

/-- min and max of integers. -/
theorem run_min2 {P : Program} (at_ : Array TypeId) (ty : TypeId) (k : IntKind) (a b : Int) (w : World) : (Builtin.min_ at_ ty #[.int k a, .int k b]).run P w = .ok (.int k (min a b)) w := by
  have e : (if b < a then b else a) = min a b := by split <;> omega
  simp [Builtin.min_, Builtin.min2, e]
theorem run_max2 {P : Program} (at_ : Array TypeId) (ty : TypeId) (k : IntKind) (a b : Int) (w : World) : (Builtin.max_ at_ ty #[.int k a, .int k b]).run P w = .ok (.int k (max a b)) w := by
  have e : (if a < b then b else a) = max a b := by split <;> omega
  simp [Builtin.max_, Builtin.max2, e]
theorem run_min4 {P : Program} (at_ : Array TypeId) (ty : TypeId) (k : IntKind) (a b c d : Int) (w : World) : (Builtin.min_ at_ ty #[.int k a, .int k b, .int k c, .int k d]).run P w = .ok (.int k (min (min (min a b) c) d)) w := by
  have e : ∀ a b : Int, (if b < a then b else a) = min a b := fun a b => by split <;> omega
  simp [Builtin.min_, Builtin.min2, e]

theorem byte_lt (c : UInt8) : (c.toNat : Int) < 256 := by have := c.toNat_lt; omega
/-- The copy that TwinBytes makes reads as the text. -/
theorem Bs.twin {w : World} {g : Nat} {t : TypeId} {l m : List UInt8} (h : Blk w g t (bvs (l ++ m)).toArray) : Bs w (some ⟨g, 0, none⟩) l :=
  h.rd (by rw [bvs_length]; omega) (fun j u hu => by
    rw [bvs_append]
    have hj : j < (bvs l).length := by
      rcases Nat.lt_or_ge j (bvs l).length with h | h
      · exact h
      · rw [List.getElem?_eq_none h] at hu; cases hu
    simp only [Nat.zero_add, List.getElem?_toArray]
    rw [List.getElem?_append_left hj]
    exact hu)
theorem below_drewN {B : Nat} {a w : World} (h : Below B a w) (n : Nat) : Below B a (w.drewN n) := ⟨h.os, h.tape, h.output, h.size, h.block⟩
end Herb
