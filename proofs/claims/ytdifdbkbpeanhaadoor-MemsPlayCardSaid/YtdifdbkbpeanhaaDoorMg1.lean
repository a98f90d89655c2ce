/- Words for memory that all walks of this seat share: 'Rd' (a slice that reads as a list of cells, nil let in), bytes as cells, small facts on worlds. No function of the program is named. The order of texts, byte by byte. No program. Skip lists: the plain law. No program. Skip lists: a key more: the plain law. No program. append onto a row of the call's own, whatever the source (nil, empty, or not): a law for the walk. Skip lists in memory. 'string(b)' of bytes that a slice holds; a cut of them. No function of the program is named. Walks of bytes.Compare, bytes.Equal, slices.Clone, and of skips' there, New, Len. Loads and stores of whole blocks (structs, arrays). No function of the program is named. -/
import Derived.WalkKit
import Derived.Deep.Draws
import Derived.Deep.AppendLies
import Derived.Maps.AppendAt
import Derived.Below
import Derived.Laws.Strings
import Derived.Laws.OwnMore
import Derived.Deep.MidRow
import Derived.Deep.Onto
import Derived.Laws.IdiomStrings
import Derived.Handy
import Derived.Test.YtdifdbkbpeanhaaDoorRows
import Derived.Lib.Bytealg
import Derived.Lib.Hide
import Derived.Lib.SliceRun
import Derived.Laws.Externs
import Derived.WalkLawsBesides
import Derived.Deep.WholeRow
import Derived.BigFrame
set_option linter.unusedSimpArgs false
set_option linter.unusedVariables false
namespace Herb
open Go Go.RowKit

/-- A byte as a cell; a text as cells. -/
def bv (c : UInt8) : Value := .int .u8 (c.toNat : Int)
def bvs (l : List UInt8) : List Value := l.map bv
theorem bvs_length (l : List UInt8) : (bvs l).length = l.length := by simp [bvs]
theorem bvs_append (a b : List UInt8) : bvs (a ++ b) = bvs a ++ bvs b := by simp [bvs]
theorem bvs_get {l : List UInt8} {k : Nat} (h : k < l.length) : (bvs l)[k]? = some (bv l[k]) := by simp [bvs, h]
theorem bvs_one (l : List UInt8) : ∀ u ∈ bvs l, u.oneCell' = true := by
  intro u hu
  simp only [bvs, List.mem_map] at hu
  obtain ⟨c, _, rfl⟩ := hu
  rfl

theorem add_eq (b off j : Nat) : (⟨b, off, none⟩ : Addr).add j = ⟨b, off + j, none⟩ := by
  unfold Addr.add
  split
  · simp_all
  · rfl

/-- The slice '.slice A n c' reads as the cells xs, 'size' cells an element. -/
def Rd (w : World) (size : Nat) (A : Option Addr) (n : Nat) (xs : List Value) : Prop :=
  xs.length = n * size ∧ (0 < n → ∃ b off, A = some ⟨b, off, none⟩ ∧ b < w.heap.size ∧ ∀ j u, xs[j]? = some u → w.cell? ⟨b, off + j, none⟩ = some u)

section
variable {w w' : World} {size n : Nat} {A : Option Addr} {xs : List Value}
theorem Rd.nil_ (w : World) (size : Nat) (A : Option Addr) : Rd w size A 0 [] := ⟨by simp, fun h => absurd h (by omega)⟩
theorem Rd.keep (h : Rd w size A n xs) (hs : w.heap.size ≤ w'.heap.size) (hk : ∀ p : Addr, p.block < w.heap.size → w'.cell? p = w.cell? p) : Rd w' size A n xs :=
  ⟨h.1, fun hn => by
    obtain ⟨b, off, e, hb, hc⟩ := h.2 hn
    exact ⟨b, off, e, by omega, fun j u hu => (hk ⟨b, off + j, none⟩ hb).trans (hc j u hu)⟩⟩
theorem Rd.below (h : Rd w size A n xs) (hb : Below w.heap.size w w') : Rd w' size A n xs := h.keep hb.size fun _ hp => hb.cell hp
theorem Rd.alloc (h : Rd w size A n xs) (o : Obj) : Rd (w.alloc o) size A n xs := h.below ((Below.refl _ _).alloc (Nat.le_refl _) o)
theorem Rd.drew (h : Rd w size A n xs) : Rd w.drew size A n xs := h
theorem Rd.drewN (h : Rd w size A n xs) (k : Nat) : Rd (w.drewN k) size A n xs := h
theorem Rd.at_ (h : Rd w size A n xs) {k : Nat} (hk : k < n) : ∃ b off, A = some ⟨b, off, none⟩ ∧ b < w.heap.size ∧ ∀ j u, xs[j]? = some u → w.cell? ⟨b, off + j, none⟩ = some u := h.2 (by omega)
theorem Rd.of_own {base : Nat} {e : TypeId} {c : Nat} (h : w.ownsRow base e size (.slice A n c) n xs) : Rd w size A n xs := by
  refine ⟨h.1, fun hn => ?_⟩
  obtain ⟨g, cap, hv, _, hlt⟩ := h.form hn
  have hA : A = some ⟨g, 0, none⟩ := by injection hv
  subst hA
  refine ⟨g, 0, rfl, hlt, fun j u hu => ?_⟩
  have := h.cells (g := g) rfl j u hu
  rwa [add_eq] at this
theorem own_slice {base : Nat} {e : TypeId} {v : Value} (h : w.ownsRow base e size v n xs) : ∃ A c, v = .slice A n c := by
  rcases h.2 with ⟨rfl, rfl⟩ | ⟨g, cap, cur, rfl, _⟩
  · exact ⟨_, _, rfl⟩
  · exact ⟨_, _, rfl⟩
/-- A cut 's[k:m]' as the model writes it. -/
theorem Rd.cut (h : Rd w size A n xs) {k m : Nat} (hk : k ≤ m) (hm : m ≤ n) {A' : Option Addr} (hA : k < m → A' = A.map (·.add (k * size))) :
    Rd w size A' (m - k) ((xs.drop (k * size)).take ((m - k) * size)) := by
  have hl := h.1
  refine ⟨?_, fun hn => ?_⟩
  · rw [List.length_take, List.length_drop, hl]
    have : m * size ≤ n * size := Nat.mul_le_mul_right _ hm
    have h2 : (m - k) * size = m * size - k * size := Nat.sub_mul _ _ _
    omega
  · obtain ⟨b, off, rfl, hb, hc⟩ := h.2 (by omega)
    refine ⟨b, off + k * size, by rw [hA (by omega)]; simp [add_eq], hb, fun j u hu => ?_⟩
    rw [List.getElem?_take] at hu
    split at hu
    · rw [List.getElem?_drop] at hu
      rw [Nat.add_assoc]
      exact hc _ _ hu
    · cases hu
end

/-- A text that a slice of bytes holds. -/
def Bs (w : World) (A : Option Addr) (l : List UInt8) : Prop := Rd w 1 A l.length (bvs l)
section
variable {w w' : World} {A : Option Addr} {l : List UInt8}
theorem Bs.nil_ (w : World) (A : Option Addr) : Bs w A [] := Rd.nil_ w 1 A
theorem Bs.below (h : Bs w A l) (hb : Below w.heap.size w w') : Bs w' A l := Rd.below h hb
theorem Bs.alloc (h : Bs w A l) (o : Obj) : Bs (w.alloc o) A l := Rd.alloc h o
theorem Bs.drew (h : Bs w A l) : Bs w.drew A l := h
theorem Bs.drewN (h : Bs w A l) (k : Nat) : Bs (w.drewN k) A l := h
theorem Bs.at_ (h : Bs w A l) {k : Nat} (hk : k < l.length) : ∃ b off, A = some ⟨b, off, none⟩ ∧ b < w.heap.size ∧ ∀ j (hj : j < l.length), w.cell? ⟨b, off + j, none⟩ = some (.int .u8 (l[j].toNat : Int)) := by
  obtain ⟨b, off, e, hb, hc⟩ := Rd.at_ h hk
  exact ⟨b, off, e, hb, fun j hj => hc j _ (bvs_get hj)⟩
/-- The first bytes of a text. -/
theorem Bs.take (h : Bs w A l) (k : Nat) : Bs w A (l.take k) := by
  refine ⟨by simp [bvs_length], fun hn => ?_⟩
  obtain ⟨b, off, e, hb, hc⟩ := h.2 (by simp at hn; omega)
  refine ⟨b, off, e, hb, fun j u hu => hc j u ?_⟩
  unfold bvs at hu ⊢
  rw [List.map_take] at hu
  rw [List.getElem?_take] at hu
  split at hu
  · exact hu
  · cases hu
theorem Bs.of_own {base : Nat} {e : TypeId} {n c : Nat} (h : w.ownsRow base e 1 (.slice A n c) n (bvs l)) : n = l.length ∧ Bs w A l := by
  have hn : n = l.length := by have := h.1; rw [bvs_length] at this; omega
  subst hn
  exact ⟨rfl, Rd.of_own h⟩
end

theorem cell_new_any (w : World) (C : Array Value) (t : TypeId) (fr : Nat × Nat) (j : Nat) : (w.alloc (.cells C t fr)).cell? ⟨w.heap.size, j, none⟩ = C[j]? :=
  cell_of_row _ w.heap.size j C t fr (heap_alloc_new w _)
/-- A new block of bytes, with whatever mark. -/
theorem Bs.new (w : World) (e : TypeId) (l : List UInt8) (fr : Nat × Nat) : Bs (w.alloc (.cells (bvs l).toArray e fr)) (some ⟨w.heap.size, 0, none⟩) l :=
  ⟨by rw [bvs_length]; omega, fun _ => ⟨w.heap.size, 0, rfl, by simp, fun j u hu => by rw [cell_new_any]; simpa using hu⟩⟩
/-- A new block of one cell. -/
theorem Rd.one (w : World) (e : TypeId) (u : Value) : Rd (w.alloc (.cells #[u] e)) 1 (some ⟨w.heap.size, 0, none⟩) 1 [u] :=
  ⟨rfl, fun _ => ⟨w.heap.size, 0, rfl, by simp, fun j x hx => by
    rw [cell_new_any]
    cases j with
    | zero => simpa using hx
    | succ j => simp at hx⟩⟩
theorem oneCell_one {u : Value} (h : u.oneCell' = true) : ∀ x ∈ [u], x.oneCell' = true := by
  intro x hx
  simp only [List.mem_singleton] at hx
  rw [hx]
  exact h
theorem bvs_snoc (l : List UInt8) (c : UInt8) : bvs l ++ [Value.int .u8 (c.toNat : Int)] = bvs (l ++ [c]) := by simp [bvs, bv]
theorem bvs_take_snoc (l : List UInt8) (k : Nat) (h : k < l.length) (c : UInt8) (hc : l[k] = c) : bvs (l.take k) ++ [Value.int .u8 (c.toNat : Int)] = bvs (l.take (k + 1)) := by
  rw [bvs_snoc, List.take_succ_eq_append_getElem h, hc]
/-- Block g is just the cells cs of type t, none frozen. -/
def Blk (w : World) (g : Nat) (t : TypeId) (cs : Array Value) : Prop := w.heap[g]? = some (.cells cs t (0, 0))
section
variable {w w' : World} {g : Nat} {t : TypeId} {cs : Array Value}
theorem Blk.lt (h : Blk w g t cs) : g < w.heap.size := (Array.getElem?_eq_some_iff.1 h).1
theorem Blk.cell (h : Blk w g t cs) (i : Nat) : w.cell? ⟨g, i, none⟩ = cs[i]? := cell_of_row w g i cs t (0, 0) h
theorem Blk.frozen (h : Blk w g t cs) (i : Nat) : w.frozen? ⟨g, i, none⟩ = false := frozen_of_row w g i cs t h
theorem Blk.new (w : World) (t : TypeId) (cs : Array Value) : Blk (w.alloc (.cells cs t)) w.heap.size t cs := heap_alloc_new w _
theorem Blk.below {B : Nat} (h : Blk w g t cs) (hb : Below B w w') (hg : g < B) : Blk w' g t cs := (hb.block g hg).trans h
theorem Blk.drew (h : Blk w g t cs) : Blk w.drew g t cs := h
theorem Blk.drewN (h : Blk w g t cs) (n : Nat) : Blk (w.drewN n) g t cs := h
theorem Blk.alloc (h : Blk w g t cs) (o : Obj) : Blk (w.alloc o) g t cs := (Below.heap_alloc w o g h.lt).trans h
theorem Blk.store (h : Blk w g t cs) (i : Nat) (u : Value) : Blk (w.setCell ⟨g, i, none⟩ u) g t (cs.setIfInBounds i u) := heap_setCell_same w g i cs t u h
theorem Blk.far (h : Blk w g t cs) {p : Addr} (hp : g ≠ p.block) (u : Value) : Blk (w.setCell p u) g t cs := (heap_setCell_other w p g u hp).trans h
theorem Blk.grown {row : Option Nat} (h : Blk w g t cs) (hb : w.grownBy w' row) (hg : some g ≠ row) : Blk w' g t cs := (hb.block g h.lt hg).trans h
theorem Blk.ne_ {g' : Nat} {t' : TypeId} {cs' : Array Value} (h : Blk w g t cs) (h' : Blk w g' t' cs') (hne : t ≠ t') : g ≠ g' := by
  rintro rfl
  unfold Blk at h h'
  rw [h] at h'
  injection h' with h'
  injection h' with _ ht
  exact hne ht
/-- A part of a block's cells reads as a list. -/
theorem Blk.rd {size n o : Nat} {xs : List Value} (h : Blk w g t cs) (hn : xs.length = n * size) (hx : ∀ j u, xs[j]? = some u → cs[o + j]? = some u) : Rd w size (some ⟨g, o, none⟩) n xs :=
  ⟨hn, fun _ => ⟨g, o, rfl, h.lt, fun j u hu => (h.cell (o + j)).trans (hx j u hu)⟩⟩
end

/-- A row that is filled from its head on: k of its cells are laid, the others hold z. -/
def fillA (xs : List Value) (z : Value) (k : Nat) : Array Value := (xs.take k ++ List.replicate (xs.length - k) z).toArray
theorem fillA_zero (xs : List Value) (z : Value) : fillA xs z 0 = (List.replicate xs.length z).toArray := by simp [fillA]
theorem fillA_end (xs : List Value) (z : Value) (k : Nat) (h : xs.length ≤ k) : fillA xs z k = xs.toArray := by
  unfold fillA
  rw [List.take_of_length_le h, Nat.sub_eq_zero_of_le h]
  simp
theorem fillA_size (xs : List Value) (z : Value) (k : Nat) (h : k ≤ xs.length) : (fillA xs z k).size = xs.length := by
  simp [fillA]; omega
theorem fillA_step (xs : List Value) (z : Value) (k : Nat) (h : k < xs.length) (v : Value) (hv : xs[k]? = some v) : (fillA xs z k).setIfInBounds k v = fillA xs z (k + 1) := by
  have hv' : xs[k] = v := by rw [List.getElem?_eq_getElem h] at hv; exact Option.some.inj hv
  unfold fillA
  rw [← Array.toList_inj]
  simp only [List.setIfInBounds_toArray]
  have hlen : (xs.take k).length = k := by rw [List.length_take]; omega
  rw [List.set_append_right _ _ (by omega), List.take_succ_eq_append_getElem h, List.append_assoc, hlen, Nat.sub_self, show xs.length - k = (xs.length - (k + 1)) + 1 by omega, List.replicate_succ, List.set_cons_zero, hv']
  rfl
theorem set_set (c : Array Value) (k : Nat) (u v : Value) : (c.setIfInBounds k u).setIfInBounds k v = c.setIfInBounds k v := by
  rw [← Array.toList_inj]
  simp
theorem some_of_lt (c : Array Value) (k : Nat) (h : k < c.size) : ∃ v, c[k]? = some v := ⟨_, Array.getElem?_eq_getElem h⟩

/-- 'make([]T, n)' at an element of one cell. -/
theorem make_one {P : Program} {t e : TypeId} {z : Value} {bytes : Nat} (ht : P.underlying t = some (.slice e)) (hi : (P.info? e).map (fun i => (i.zero, i.size, i.bytes)) = some (some z, 1, bytes))
    (hz : z.cells = #[z]) (n : Nat) (L : Int) (hL : L = (n : Int)) (hb : bytes * n ≤ 281474976710656) (hm : n ≤ 9223372036854775807) (w : World) :
    (Instr.makeSlice t (.int .i64 L) (.int .i64 L)).run P w = .ok (.slice (some ⟨w.heap.size, 0, none⟩) n n) (w.alloc (.cells (List.replicate n z).toArray e)) := by
  subst hL
  obtain ⟨i, hi, h1, h2, h3⟩ := info_parts hi
  have hb' : (i.bytes : Int) * (n : Int) ≤ 281474976710656 := by
    have h : ((i.bytes * n : Nat) : Int) ≤ 281474976710656 := by rw [h3]; omega
    rwa [Int.natCast_mul] at h
  have hr := run_make (P := P) w t e i z ht hi h1 .i64 .i64 n n (by omega) (by omega) hb' (by omega)
  rw [hr]
  simp only [Int.toNat_natCast, h2, Nat.mul_one, hz]
  rw [← Array.toArray_toList (xs := madeCells #[z] n), toList_madeCells_one]

/-- min and max of integers. -/
theorem run_min2 {P : Program} (at_ : Array TypeId) (ty : TypeId) (k : IntKind) (a b : Int) (w : World) : (Builtin.min_ at_ ty #[.int k a, .int k b]).run P w = .ok (.int k (min a b)) w := by
  have e : (if b < a then b else a) = min a b := by split <;> omega
  simp [Builtin.min_, Builtin.min2, e]
theorem run_max2 {P : Program} (at_ : Array TypeId) (ty : TypeId) (k : IntKind) (a b : Int) (w : World) : (Builtin.max_ at_ ty #[.int k a, .int k b]).run P w = .ok (.int k (max a b)) w := by
  have e : (if a < b then b else a) = max a b := by split <;> omega
  simp [Builtin.max_, Builtin.max2, e]
theorem run_min4 {P : Program} (at_ : Array TypeId) (ty : TypeId) (k : IntKind) (a b c d : Int) (w : World) : (Builtin.min_ at_ ty #[.int k a, .int k b, .int k c, .int k d]).run P w = .ok (.int k (min (min (min a b) c) d)) w := by
  have e : ∀ a b : Int, (if b < a then b else a) = min a b := fun a b => by split <;> omega
  simp [Builtin.min_, Builtin.min2, e]

theorem byte_lt (c : UInt8) : (c.toNat : Int) < 256 := by have := c.toNat_lt; omega
/-- The copy that TwinBytes makes reads as the text. -/
theorem Bs.twin {w : World} {g : Nat} {t : TypeId} {l m : List UInt8} (h : Blk w g t (bvs (l ++ m)).toArray) : Bs w (some ⟨g, 0, none⟩) l :=
  h.rd (by rw [bvs_length]; omega) (fun j u hu => by
    rw [bvs_append]
    have hj : j < (bvs l).length := by
      rcases Nat.lt_or_ge j (bvs l).length with h | h
      · exact h
      · rw [List.getElem?_eq_none h] at hu; cases hu
    simp only [Nat.zero_add, List.getElem?_toArray]
    rw [List.getElem?_append_left hj]
    exact hu)
theorem below_drewN {B : Nat} {a w : World} (h : Below B a w) (n : Nat) : Below B a (w.drewN n) := ⟨h.os, h.tape, h.output, h.size, h.block⟩
end Herb
set_option linter.unusedSimpArgs false
set_option linter.unusedVariables false
namespace Herb
open Go
/-- One text stands ahead of another. -/
abbrev less (a b : List UInt8) : Bool := Op.bytesLess a b
theorem less_cons_eq (x : UInt8) (a b : List UInt8) : less (x :: a) (x :: b) = less a b := by simp [less, Op.bytesLess]
theorem less_cons_lt {x y : UInt8} (h : x < y) (a b : List UInt8) : less (x :: a) (y :: b) = true := by simp [less, Op.bytesLess, h]
theorem less_cons_gt {x y : UInt8} (h : y < x) (a b : List UInt8) : less (x :: a) (y :: b) = false := by
  have h1 : ¬ x < y := fun h2 => by rw [UInt8.lt_iff_toNat_lt] at h h2; omega
  have h2 : (x == y) = false := beq_eq_false_iff_ne.2 (fun e => by subst e; rw [UInt8.lt_iff_toNat_lt] at h; omega)
  simp [less, Op.bytesLess, h1, h2]
theorem less_nil (a : List UInt8) : less a [] = false := by cases a <;> rfl
theorem nil_less (y : UInt8) (b : List UInt8) : less [] (y :: b) = true := rfl
theorem u8_tri (x y : UInt8) : x < y ∨ x = y ∨ y < x := by
  rw [UInt8.lt_iff_toNat_lt, UInt8.lt_iff_toNat_lt, ← UInt8.toNat_inj]
  omega
theorem less_irrefl : ∀ a : List UInt8, less a a = false
  | [] => rfl
  | x :: a => by rw [less_cons_eq]; exact less_irrefl a
theorem less_asymm : ∀ {a b : List UInt8}, less a b = true → less b a = false
  | _, [], h => by rw [less_nil] at h; cases h
  | [], y :: b, _ => less_nil _
  | x :: a, y :: b, h => by
    rcases u8_tri x y with h1 | rfl | h1
    · exact less_cons_gt h1 _ _
    · rw [less_cons_eq] at h ⊢
      exact less_asymm h
    · rw [less_cons_gt h1] at h; cases h
theorem less_total : ∀ {a b : List UInt8}, less a b = false → less b a = false → a = b
  | [], [], _, _ => rfl
  | x :: a, [], _, h => by cases h
  | [], y :: b, h, _ => by cases h
  | x :: a, y :: b, h, h' => by
    rcases u8_tri x y with h1 | rfl | h1
    · rw [less_cons_lt h1] at h; cases h
    · rw [less_cons_eq] at h h'
      rw [less_total h h']
    · rw [less_cons_lt h1] at h'; cases h'
theorem less_trans : ∀ {a b c : List UInt8}, less a b = true → less b c = true → less a c = true
  | _, [], _, h, _ => by rw [less_nil] at h; cases h
  | _, _ :: _, [], _, h => by cases h
  | [], _ :: _, _ :: _, _, _ => rfl
  | x :: a, y :: b, z :: c, h, h' => by
    rcases u8_tri x y with h1 | rfl | h1
    · rcases u8_tri y z with h2 | rfl | h2
      · exact less_cons_lt (by rw [UInt8.lt_iff_toNat_lt] at *; omega) _ _
      · exact less_cons_lt h1 _ _
      · rw [less_cons_gt h2] at h'; cases h'
    · rcases u8_tri x z with h2 | rfl | h2
      · exact less_cons_lt h2 _ _
      · rw [less_cons_eq] at h h' ⊢
        exact less_trans h h'
      · rw [less_cons_gt h2] at h'; cases h'
    · rw [less_cons_gt h1] at h; cases h
theorem less_append : ∀ (p a b : List UInt8), less (p ++ a) (p ++ b) = less a b
  | [], _, _ => rfl
  | x :: p, a, b => by rw [List.cons_append, List.cons_append, less_cons_eq, less_append p a b]
/-- Of the same length: the first part decides, unless it is the same. -/
theorem less_same : ∀ {a b : List UInt8} (c d : List UInt8), a.length = b.length → a ≠ b → less (a ++ c) (b ++ d) = less a b
  | [], [], _, _, _, h => absurd rfl h
  | [], _ :: _, _, _, h, _ => by simp at h
  | _ :: _, [], _, _, h, _ => by simp at h
  | x :: a, y :: b, c, d, hl, hne => by
    rcases u8_tri x y with h1 | rfl | h1
    · rw [List.cons_append, List.cons_append, less_cons_lt h1, less_cons_lt h1]
    · rw [List.cons_append, List.cons_append, less_cons_eq, less_cons_eq, less_same c d (by simpa using hl) (fun e => hne (by rw [e]))]
    · rw [List.cons_append, List.cons_append, less_cons_gt h1, less_cons_gt h1]
theorem ba_toList (s : ByteArray) : s.toList = s.data.toList := by
  simp [ByteArray.toList_eq]
theorem ba_ext {a b : ByteArray} (h : a.data.toList = b.data.toList) : a = b := by
  cases a; cases b
  congr 1
  exact Array.toList_inj.1 h
end Herb
set_option linter.unusedSimpArgs false
set_option linter.unusedVariables false
namespace Herb
open Go
/-- A node: its key and where that lies, its number, and on each floor the next one's place. -/
structure Nd where
  key : List UInt8
  n : Int
  A : Option Addr
  c : Nat
  nx : List Nat
def Nd.zero : Nd := ⟨[], 0, none, 0, List.replicate 8 0⟩
def Nd.cells (d : Nd) : List Value := .slice d.A d.key.length d.c :: .int .i64 d.n :: d.nx.map (fun (k : Nat) => .int .i64 (k : Int))
def flat (N : List Nd) : List Value := N.flatMap Nd.cells
def keyOf (N : List Nd) (i : Nat) : List UInt8 := (N.getD i Nd.zero).key
def numOf (N : List Nd) (i : Nat) : Int := (N.getD i Nd.zero).n
def nxOf (N : List Nd) (f i : Nat) : Nat := (N.getD i Nd.zero).nx.getD f 0
/-- A node's floor is laid. -/
def setNx (N : List Nd) (i f v : Nat) : List Nd := N.set i { N.getD i Nd.zero with nx := (N.getD i Nd.zero).nx.set f v }
def Ok8 (N : List Nd) : Prop := ∀ d ∈ N, d.nx.length = 8
section
variable {N : List Nd}
theorem setNx_length (i f v : Nat) : (setNx N i f v).length = N.length := by simp [setNx]
theorem getD_mem {i : Nat} (h : i < N.length) : N.getD i Nd.zero ∈ N := by
  simp [List.getD, h]
theorem Ok8.set (h : Ok8 N) (i f v : Nat) : Ok8 (setNx N i f v) := by
  intro d hd
  unfold setNx at hd
  rcases Nat.lt_or_ge i N.length with hi | hi
  · rcases List.mem_or_eq_of_mem_set hd with h1 | h1
    · exact h d h1
    · rw [h1]
      simp only [List.length_set]
      exact h _ (getD_mem hi)
  · rw [List.set_eq_of_length_le hi] at hd
    exact h d hd
theorem getD_setNx {i : Nat} (hi : i < N.length) (f v k : Nat) : (setNx N i f v).getD k Nd.zero = if k = i then { N.getD i Nd.zero with nx := (N.getD i Nd.zero).nx.set f v } else N.getD k Nd.zero := by
  unfold setNx
  simp only [List.getD, List.getElem?_set]
  by_cases h : i = k
  · subst h
    simp [hi]
  · rw [if_neg h, if_neg (fun e => h e.symm)]
theorem keyOf_setNx {i : Nat} (hi : i < N.length) (f v k : Nat) : keyOf (setNx N i f v) k = keyOf N k := by
  unfold keyOf
  rw [getD_setNx hi]
  split
  · rename_i e; rw [e]
  · rfl
theorem numOf_setNx {i : Nat} (hi : i < N.length) (f v k : Nat) : numOf (setNx N i f v) k = numOf N k := by
  unfold numOf
  rw [getD_setNx hi]
  split
  · rename_i e; rw [e]
  · rfl
theorem nxOf_setNx (h8 : Ok8 N) {i f : Nat} (hi : i < N.length) (hf : f < 8) (v k g : Nat) : nxOf (setNx N i f v) g k = if k = i ∧ g = f then v else nxOf N g k := by
  unfold nxOf
  rw [getD_setNx hi]
  have hl := h8 _ (getD_mem hi)
  by_cases h : k = i
  · subst h
    rw [if_pos rfl]
    simp only [List.getD, List.getElem?_set]
    by_cases h2 : f = g
    · subst h2
      have : f < (N[k]?.getD Nd.zero).nx.length := by
        have : N.getD k Nd.zero = N[k]?.getD Nd.zero := rfl
        rw [← this, hl]; exact hf
      simp [this]
    · simp [h2]
      intro e
      exact absurd e.symm h2
  · rw [if_neg h, if_neg (fun e => h e.1)]
end
/-! ### chains -/
def Chain (nx : Nat → Nat) : List Nat → Prop
  | [] => True
  | [a] => nx a = 0
  | a :: b :: r => nx a = b ∧ Chain nx (b :: r)
theorem Chain.tail {nx : Nat → Nat} {a : Nat} {l : List Nat} (h : Chain nx (a :: l)) : Chain nx l := by
  cases l with
  | nil => trivial
  | cons b r => exact h.2
theorem Chain.congr {nx nx' : Nat → Nat} : ∀ {l : List Nat}, Chain nx l → (∀ i ∈ l, nx' i = nx i) → Chain nx' l
  | [], _, _ => trivial
  | [a], h, hc => (hc a (by simp)).trans h
  | a :: b :: r, h, hc => ⟨(hc a (by simp)).trans h.1, Chain.congr h.2 (fun i hi => hc i (by simp only [List.mem_cons] at hi ⊢; exact .inr hi))⟩
theorem Chain.mid {nx : Nat → Nat} {a : Nat} {B : List Nat} : ∀ {X : List Nat}, Chain nx (X ++ a :: B) → nx a = B.headD 0
  | [], h => by
    cases B with
    | nil => exact h
    | cons b r => exact h.1
  | x :: X, h => Chain.mid (X := X) (Chain.tail h)
theorem Chain.ins {nx nx' : Nat → Nat} {a p : Nat} {B : List Nat} (ha : nx' a = p) (hp : nx' p = B.headD 0) (ho : ∀ i, i ≠ a → i ≠ p → nx' i = nx i) :
    ∀ {X : List Nat}, Chain nx (X ++ a :: B) → a ∉ X → p ∉ X → a ∉ B → p ∉ B → Chain nx' (X ++ a :: p :: B)
  | [], h, _, _, h3, h4 => by
    refine ⟨ha, ?_⟩
    cases B with
    | nil => exact hp
    | cons b r => exact ⟨hp, Chain.congr (Chain.tail h) (fun i hi => ho i (fun e => h3 (e ▸ hi)) (fun e => h4 (e ▸ hi)))⟩
  | [x], h, h1, h2, h3, h4 => by
    have hi := Chain.ins ha hp ho (X := []) (Chain.tail h) (by simp) (by simp) h3 h4
    refine ⟨?_, hi⟩
    rw [ho x (fun e => h1 (by simp [e])) (fun e => h2 (by simp [e]))]
    exact h.1
  | x :: y :: X, h, h1, h2, h3, h4 => by
    have hi := Chain.ins ha hp ho (X := y :: X) (Chain.tail h) (fun e => h1 (List.mem_cons_of_mem _ e)) (fun e => h2 (List.mem_cons_of_mem _ e)) h3 h4
    refine ⟨?_, hi⟩
    rw [ho x (fun e => h1 (by simp [e])) (fun e => h2 (by simp [e]))]
    exact h.1
/-! ### the invariant -/
/-- L: the places in the order of their keys; h: the towers' heights. -/
structure Inv (N : List Nd) (L : List Nat) (h : Nat → Nat) : Prop where
  ok8 : Ok8 N
  nodup : L.Nodup
  lt : ∀ i ∈ L, 0 < i ∧ i < N.length
  len : L.length + 1 = N.length
  rise : L.Pairwise (fun i j => less (keyOf N i) (keyOf N j) = true)
  chain : ∀ f, f < 8 → Chain (nxOf N f) (0 :: L.filter (fun i => decide (f < h i)))
  high : ∀ i ∈ L, 0 < h i
/-- Those whose keys stand ahead of one; the others. -/
def aheadL (N : List Nd) (L : List Nat) (K : List UInt8) : List Nat := L.takeWhile (fun i => less (keyOf N i) K)
def restL (N : List Nd) (L : List Nat) (K : List UInt8) : List Nat := L.dropWhile (fun i => less (keyOf N i) K)
theorem ahead_rest (N : List Nd) (L : List Nat) (K : List UInt8) : aheadL N L K ++ restL N L K = L := List.takeWhile_append_dropWhile
/-- On each floor the place of the last one ahead. -/
def onFloor (h : Nat → Nat) (f : Nat) (l : List Nat) : List Nat := l.filter (fun i => decide (f < h i))
def topOf (N : List Nd) (L : List Nat) (h : Nat → Nat) (K : List UInt8) (f : Nat) : Nat := (onFloor h f (aheadL N L K)).getLastD 0
theorem ahead_less {N : List Nd} {L : List Nat} {K : List UInt8} {i : Nat} (hi : i ∈ aheadL N L K) : less (keyOf N i) K = true := (List.all_eq_true.1 (List.all_takeWhile (p := fun i => less (keyOf N i) K) (l := L))) i hi
theorem ahead_mem {N : List Nd} {L : List Nat} {K : List UInt8} {i : Nat} (hi : i ∈ aheadL N L K) : i ∈ L := by
  rw [← ahead_rest N L K]
  exact List.mem_append_left _ hi
theorem rest_mem {N : List Nd} {L : List Nat} {K : List UInt8} {i : Nat} (hi : i ∈ restL N L K) : i ∈ L := by
  rw [← ahead_rest N L K]
  exact List.mem_append_right _ hi
section
variable {N : List Nd} {L : List Nat} {h : Nat → Nat} (I : Inv N L h) (K : List UInt8)
include I
theorem Inv.rest_not {i : Nat} (hi : i ∈ restL N L K) : less (keyOf N i) K = false := by
  obtain ⟨r, hr⟩ : ∃ r, restL N L K = r := ⟨_, rfl⟩
  have hp := I.rise
  rw [← ahead_rest N L K, hr] at hp
  rw [hr] at hi
  have hp2 := (List.pairwise_append.1 hp).2.1
  cases r with
  | nil => cases hi
  | cons b r =>
    have hb : less (keyOf N b) K = false := by
      have := List.head?_dropWhile_not (fun i => less (keyOf N i) K) L
      unfold restL at hr
      rw [hr] at this
      simpa using this
    rcases List.mem_cons.1 hi with rfl | hi
    · exact hb
    · have hbi := (List.pairwise_cons.1 hp2).1 i hi
      rcases hc : less (keyOf N i) K with _ | _
      · rfl
      · rw [less_trans hbi hc] at hb; cases hb
theorem Inv.floor (f : Nat) (hf : f < 8) : Chain (nxOf N f) (0 :: onFloor h f (aheadL N L K) ++ onFloor h f (restL N L K)) := by
  have := I.chain f hf
  rw [← ahead_rest N L K, List.filter_append] at this
  exact this
end
theorem onFloor_sub {h : Nat → Nat} {f : Nat} {l : List Nat} {i : Nat} (hi : i ∈ onFloor h (f + 1) l) : i ∈ onFloor h f l := by
  unfold onFloor at *
  rw [List.mem_filter] at hi ⊢
  exact ⟨hi.1, by have := hi.2; simp at this ⊢; omega⟩
theorem last_split {A X : List Nat} {a : Nat} (h : 0 :: A = X ++ [a]) : a = A.getLastD 0 := by
  have h1 : (0 :: A).getLast? = some a := by rw [h]; simp
  rw [List.getLast?_cons] at h1
  simp at h1
  rw [List.getLastD_eq_getLast?]
  exact h1.symm
theorem split_last (A : List Nat) : ∃ X, 0 :: A = X ++ [A.getLastD 0] := by
  have hne : (0 :: A) ≠ [] := by simp
  refine ⟨(0 :: A).dropLast, ?_⟩
  conv => lhs; rw [← List.dropLast_concat_getLast hne]
  congr 2
  rw [List.getLastD_eq_getLast?, List.getLast_eq_iff_getLast?_eq_some, List.getLast?_cons]
theorem drop_split {A X S : List Nat} {a : Nat} (h : A = X ++ a :: S) (hn : A.Nodup) : (A.dropWhile (fun i => i != a)).length = S.length + 1 := by
  subst h
  have hx : ∀ x ∈ X, x ≠ a := fun x hx e => by
    rw [List.nodup_append] at hn
    exact hn.2.2 x hx a (by simp) e
  have : (X ++ a :: S).dropWhile (fun i => i != a) = a :: S := by
    clear hn
    induction X with
    | nil => simp
    | cons x X ih =>
      rw [List.cons_append, List.dropWhile_cons_of_pos (by simpa using hx x (by simp))]
      exact ih (fun y hy => hx y (by simp [hy]))
  rw [this]
  simp
end Herb
set_option linter.unusedSimpArgs false
set_option linter.unusedVariables false
namespace Herb
open Go
theorem rep0 (n f : Nat) : (List.replicate n (0 : Nat)).getD f 0 = 0 := by
  simp only [List.getD, List.getElem?_replicate]
  split <;> rfl
theorem nxOf_out {N : List Nd} {f i : Nat} (h : N.length ≤ i) : nxOf N f i = 0 := by
  unfold nxOf
  have : N.getD i Nd.zero = Nd.zero := by simp [List.getD, List.getElem?_eq_none h]
  rw [this]
  exact rep0 8 f
/-- The first k floors' last ones ahead are laid. -/
def stepN (N : List Nd) (T : Nat → Nat) (p : Nat) : Nat → List Nd
  | 0 => N
  | k + 1 => setNx (stepN N T p k) (T k) k p
/-- What the new node's first k floors are. -/
def newNx (N : List Nd) (T : Nat → Nat) : Nat → List Nat
  | 0 => List.replicate 8 0
  | k + 1 => (newNx N T k).set k (nxOf N k (T k))
theorem stepN_length (N : List Nd) (T : Nat → Nat) (p : Nat) : ∀ k, (stepN N T p k).length = N.length
  | 0 => rfl
  | k + 1 => by rw [stepN, setNx_length, stepN_length N T p k]
theorem newNx_length (N : List Nd) (T : Nat → Nat) : ∀ k, (newNx N T k).length = 8
  | 0 => rfl
  | k + 1 => by rw [newNx, List.length_set, newNx_length N T k]
theorem stepN_ok {N : List Nd} (h8 : Ok8 N) (T : Nat → Nat) (p : Nat) : ∀ k, Ok8 (stepN N T p k)
  | 0 => h8
  | k + 1 => (stepN_ok h8 T p k).set _ _ _
section
variable {N : List Nd} {T : Nat → Nat} {p : Nat} (hT : ∀ f, T f < N.length)
include hT
theorem stepN_key (k i : Nat) : keyOf (stepN N T p k) i = keyOf N i := by
  induction k with
  | zero => rfl
  | succ k ih => rw [stepN, keyOf_setNx (by rw [stepN_length]; exact hT k), ih]
theorem stepN_num (k i : Nat) : numOf (stepN N T p k) i = numOf N i := by
  induction k with
  | zero => rfl
  | succ k ih => rw [stepN, numOf_setNx (by rw [stepN_length]; exact hT k), ih]
theorem stepN_nx (h8 : Ok8 N) (k : Nat) (hk : k ≤ 8) (f i : Nat) : nxOf (stepN N T p k) f i = if f < k ∧ i = T f then p else nxOf N f i := by
  induction k with
  | zero => simp [stepN]
  | succ k ih =>
    rw [stepN, nxOf_setNx (stepN_ok h8 T p k) (by rw [stepN_length]; exact hT k) (by omega), ih (by omega)]
    by_cases h1 : f = k
    · subst h1
      by_cases h2 : i = T f
      · simp [h2]
      · simp [h2]
    · by_cases h2 : i = T f
      · by_cases h3 : f < k
        · rw [if_neg (by omega), if_pos ⟨h3, h2⟩, if_pos ⟨by omega, h2⟩]
        · rw [if_neg (by omega), if_neg (by omega), if_neg (by omega)]
      · rw [if_neg (by omega), if_neg (fun e => h2 e.2), if_neg (fun e => h2 e.2)]
end
theorem newNx_get (N : List Nd) (T : Nat → Nat) (k : Nat) (hk : k ≤ 8) (f : Nat) (hf : f < 8) : (newNx N T k).getD f 0 = if f < k then nxOf N f (T f) else 0 := by
  induction k with
  | zero =>
    rw [if_neg (by omega)]
    exact rep0 8 f
  | succ k ih =>
    rw [newNx]
    simp only [List.getD, List.getElem?_set]
    have hl := newNx_length N T k
    by_cases h1 : k = f
    · subst h1
      simp [hl, hf]
    · rw [if_neg h1]
      have := ih (by omega)
      simp only [List.getD] at this
      rw [this]
      by_cases h2 : f < k
      · rw [if_pos h2, if_pos (by omega)]
      · rw [if_neg h2, if_neg (by omega)]
/-- All nodes behind a key more. -/
def insN (N : List Nd) (T : Nat → Nat) (H : Nat) (d : Nd) : List Nd := stepN N T N.length H ++ [{ d with nx := newNx N T H }]
section
variable {N : List Nd} {T : Nat → Nat} {H : Nat} {d : Nd}
theorem getD_app_lt {M : List Nd} {x : Nd} {i : Nat} (h : i < M.length) : (M ++ [x]).getD i Nd.zero = M.getD i Nd.zero := by
  simp [List.getD, List.getElem?_append_left h]
theorem getD_app_eq {M : List Nd} {x : Nd} : (M ++ [x]).getD M.length Nd.zero = x := by simp [List.getD]
theorem insN_key (hT : ∀ f, T f < N.length) {i : Nat} (hi : i < N.length) : keyOf (insN N T H d) i = keyOf N i := by
  have := stepN_key (p := N.length) hT H i
  unfold keyOf at *
  unfold insN
  rw [getD_app_lt (by rw [stepN_length]; exact hi), this]
theorem insN_num (hT : ∀ f, T f < N.length) {i : Nat} (hi : i < N.length) : numOf (insN N T H d) i = numOf N i := by
  have := stepN_num (p := N.length) hT H i
  unfold numOf at *
  unfold insN
  rw [getD_app_lt (by rw [stepN_length]; exact hi), this]
theorem insN_last : (insN N T H d).getD N.length Nd.zero = { d with nx := newNx N T H } := by
  unfold insN
  have := getD_app_eq (M := stepN N T N.length H) (x := { d with nx := newNx N T H })
  rwa [stepN_length] at this
theorem insN_nx (hT : ∀ f, T f < N.length) (h8 : Ok8 N) (hH : H ≤ 8) {i f : Nat} (hi : i < N.length) : nxOf (insN N T H d) f i = if f < H ∧ i = T f then N.length else nxOf N f i := by
  rw [← stepN_nx hT h8 H hH f i]
  unfold nxOf insN
  rw [getD_app_lt (by rw [stepN_length]; exact hi)]
theorem insN_nx_last (hH : H ≤ 8) {f : Nat} (hf : f < 8) : nxOf (insN N T H d) f N.length = if f < H then nxOf N f (T f) else 0 := by
  unfold nxOf
  rw [insN_last]
  exact newNx_get N T H hH f hf
theorem insN_length : (insN N T H d).length = N.length + 1 := by unfold insN; rw [List.length_append, stepN_length]; rfl
end
/-- The order behind a key more. -/
def insL (N : List Nd) (L : List Nat) (K : List UInt8) : List Nat := aheadL N L K ++ N.length :: restL N L K
theorem Inv.top_lt {N : List Nd} {L : List Nat} {h : Nat → Nat} (I : Inv N L h) (K : List UInt8) (f : Nat) : topOf N L h K f < N.length := by
  unfold topOf
  rw [List.getLastD_eq_getLast?]
  rcases hg : (onFloor h f (aheadL N L K)).getLast? with _ | a
  · have := I.len; simp; omega
  · have hm := List.mem_of_getLast? hg
    unfold onFloor at hm
    exact (I.lt a (ahead_mem (List.mem_filter.1 hm).1)).2
theorem Inv.ins {N : List Nd} {L : List Nat} {h : Nat → Nat} (I : Inv N L h) (K : List UInt8) (H : Nat) (hH1 : 1 ≤ H) (hH8 : H ≤ 8) (d : Nd) (hd : d.key = K) (hnew : ∀ i ∈ restL N L K, keyOf N i ≠ K) :
    Inv (insN N (topOf N L h K) H d) (insL N L K) (fun i => if i = N.length then H else h i) := by
  have hT := I.top_lt K
  have hltL : ∀ i ∈ L, i < N.length := fun i hi => (I.lt i hi).2
  have hnotA : N.length ∉ aheadL N L K := fun e => absurd (hltL _ (ahead_mem e)) (Nat.lt_irrefl _)
  have hnotB : N.length ∉ restL N L K := fun e => absurd (hltL _ (rest_mem e)) (Nat.lt_irrefl _)
  have hnd : (aheadL N L K ++ restL N L K).Nodup := by rw [ahead_rest]; exact I.nodup
  have hri : (aheadL N L K ++ restL N L K).Pairwise (fun i j => less (keyOf N i) (keyOf N j) = true) := by rw [ahead_rest]; exact I.rise
  have hmem : ∀ i, i ∈ insL N L K → i = N.length ∨ i ∈ L := by
    intro i hi
    unfold insL at hi
    rcases List.mem_append.1 hi with h1 | h1
    · exact .inr (ahead_mem h1)
    · rcases List.mem_cons.1 h1 with h2 | h2
      · exact .inl h2
      · exact .inr (rest_mem h2)
  have hkn : keyOf (insN N (topOf N L h K) H d) N.length = K := by
    unfold keyOf
    rw [insN_last]
    exact hd
  refine ⟨?_, ?_, ?_, ?_, ?_, ?_, ?_⟩
  · intro x hx
    unfold insN at hx
    rcases List.mem_append.1 hx with h1 | h1
    · exact stepN_ok I.ok8 _ _ _ x h1
    · rw [List.mem_singleton.1 h1]; exact newNx_length _ _ _
  · unfold insL
    rw [List.nodup_append] at hnd ⊢
    refine ⟨hnd.1, List.nodup_cons.2 ⟨hnotB, hnd.2.1⟩, ?_⟩
    intro a ha b hb
    rcases List.mem_cons.1 hb with rfl | h2
    · exact fun e => hnotA (e ▸ ha)
    · exact hnd.2.2 a ha b h2
  · intro i hi
    rw [insN_length]
    have h0 := I.len
    rcases hmem i hi with rfl | h1
    · omega
    · have := I.lt i h1; omega
  · rw [insN_length, ← I.len, ← ahead_rest N L K]
    unfold insL
    rw [ahead_rest]
    simp only [List.length_append, List.length_cons]
    have := congrArg List.length (ahead_rest N L K)
    rw [List.length_append] at this
    omega
  · unfold insL
    have hk : ∀ i ∈ L, keyOf (insN N (topOf N L h K) H d) i = keyOf N i := fun i hi => insN_key hT (hltL i hi)
    rw [List.pairwise_append] at hri ⊢
    refine ⟨hri.1.imp_of_mem (fun {a b} ha hb hab => by rw [hk a (ahead_mem ha), hk b (ahead_mem hb)]; exact hab), List.pairwise_cons.2 ⟨?_, hri.2.1.imp_of_mem (fun {a b} ha hb hab => by rw [hk a (rest_mem ha), hk b (rest_mem hb)]; exact hab)⟩, ?_⟩
    · intro i hi
      rw [hkn, hk i (rest_mem hi)]
      have h1 := I.rest_not K hi
      have h2 := hnew i hi
      rcases h3 : less K (keyOf N i) with _ | _
      · exact absurd (less_total h1 h3) h2
      · rfl
    · intro a ha b hb
      rw [hk a (ahead_mem ha)]
      rcases List.mem_cons.1 hb with rfl | h2
      · rw [hkn]; exact ahead_less ha
      · rw [hk b (rest_mem h2)]; exact hri.2.2 a ha b h2
  · intro f hf
    have hch := I.floor K f hf
    have hfl : ∀ l : List Nat, (∀ i ∈ l, i < N.length) → l.filter (fun i => decide (f < if i = N.length then H else h i)) = onFloor h f l := by
      intro l hl
      unfold onFloor
      apply List.filter_congr
      intro i hi
      have := hl i hi
      rw [if_neg (by omega)]
    have hAl : ∀ i ∈ aheadL N L K, i < N.length := fun i hi => hltL i (ahead_mem hi)
    have hBl : ∀ i ∈ restL N L K, i < N.length := fun i hi => hltL i (rest_mem hi)
    have hfA : ∀ i ∈ onFloor h f (aheadL N L K), i ∈ aheadL N L K := fun i hi => (List.mem_filter.1 hi).1
    have hfB : ∀ i ∈ onFloor h f (restL N L K), i ∈ restL N L K := fun i hi => (List.mem_filter.1 hi).1
    have hne : N.length ≠ 0 := by have := I.len; omega
    unfold insL
    rw [List.filter_append, List.filter_cons, hfl _ hAl, hfl _ hBl, if_pos rfl]
    by_cases hfH : f < H
    · rw [if_pos (by simpa using hfH)]
      obtain ⟨X, hX⟩ := split_last (onFloor h f (aheadL N L K))
      rw [← List.cons_append, hX, List.append_assoc]
      rw [hX, List.append_assoc] at hch
      have hnd0 : (0 :: (onFloor h f (aheadL N L K) ++ onFloor h f (restL N L K))).Nodup := by
        rw [List.nodup_cons]
        refine ⟨fun e => ?_, ?_⟩
        · rcases List.mem_append.1 e with e | e
          · have := I.lt 0 (ahead_mem (hfA 0 e)); omega
          · have := I.lt 0 (rest_mem (hfB 0 e)); omega
        · unfold onFloor
          rw [← List.filter_append]
          exact hnd.filter _
      rw [← List.cons_append, hX, List.append_assoc] at hnd0
      have hXlt : ∀ x ∈ X, x < N.length := by
        intro x hx
        have : x ∈ 0 :: onFloor h f (aheadL N L K) := by rw [hX]; exact List.mem_append_left _ hx
        rcases List.mem_cons.1 this with rfl | h2
        · omega
        · exact hAl x (hfA x h2)
      rw [List.nodup_append] at hnd0
      obtain ⟨_, n2, n3⟩ := hnd0
      rw [List.singleton_append, List.nodup_cons] at n2
      refine Chain.ins (nx := nxOf N f) ?_ ?_ ?_ hch (fun e => n3 _ e _ (by simp) rfl) (fun e => absurd (hXlt _ e) (Nat.lt_irrefl _)) n2.1 (fun e => absurd (hBl _ (hfB _ e)) (Nat.lt_irrefl _))
      · show nxOf _ f (topOf N L h K f) = _
        rw [insN_nx hT I.ok8 hH8 (hT f), if_pos ⟨hfH, rfl⟩]
      · rw [insN_nx_last hH8 hf, if_pos hfH]
        exact Chain.mid hch
      · intro i hia hip
        rcases Nat.lt_or_ge i N.length with hi | hi
        · rw [insN_nx hT I.ok8 hH8 hi, if_neg (fun e => hia e.2)]
        · have e1 : nxOf N f i = 0 := nxOf_out hi
          have e2 : nxOf (insN N (topOf N L h K) H d) f i = 0 := nxOf_out (by rw [insN_length]; omega)
          rw [e1, e2]
    · rw [if_neg (by simpa using hfH)]
      refine Chain.congr hch ?_
      intro i hi
      have hil : i < N.length := by
        rcases List.mem_cons.1 hi with rfl | hi
        · omega
        · rcases List.mem_append.1 hi with h1 | h1
          · exact hAl i (hfA i h1)
          · exact hBl i (hfB i h1)
      rw [insN_nx hT I.ok8 hH8 hil, if_neg (fun e => hfH e.1)]
  · intro i hi
    show 0 < if i = N.length then H else h i
    rcases hmem i hi with rfl | h1
    · rw [if_pos rfl]; omega
    · have := hltL i h1
      rw [if_neg (by omega)]
      exact I.high i h1
/-! ### what is told -/
def toldL (N : List Nd) (L : List Nat) : List (List UInt8 × Int) := L.map fun i => (keyOf N i, numOf N i)
def insM (M : List (List UInt8 × Int)) (K : List UInt8) (n : Int) : List (List UInt8 × Int) := M.takeWhile (fun x => less x.1 K) ++ (K, n) :: M.dropWhile (fun x => less x.1 K)
def fromM (M : List (List UInt8 × Int)) (K : List UInt8) : List (List UInt8 × Int) := M.dropWhile (fun x => less x.1 K)
def hasM (M : List (List UInt8 × Int)) (K : List UInt8) : Bool := M.any (fun x => x.1 == K)
theorem toldL_ahead (N : List Nd) (L : List Nat) (K : List UInt8) : toldL N (aheadL N L K) = (toldL N L).takeWhile (fun x => less x.1 K) := by
  unfold toldL aheadL
  rw [List.takeWhile_map]
  rfl
theorem toldL_rest (N : List Nd) (L : List Nat) (K : List UInt8) : toldL N (restL N L K) = fromM (toldL N L) K := by
  unfold toldL restL fromM
  rw [List.dropWhile_map]
  rfl
theorem toldL_ins {N : List Nd} {L : List Nat} {h : Nat → Nat} (I : Inv N L h) (K : List UInt8) (H : Nat) (d : Nd) (hd : d.key = K) :
    toldL (insN N (topOf N L h K) H d) (insL N L K) = insM (toldL N L) K d.n := by
  have hT := I.top_lt K
  have hs : ∀ l : List Nat, (∀ i ∈ l, i ∈ L) → toldL (insN N (topOf N L h K) H d) l = toldL N l := by
    intro l hl
    unfold toldL
    apply List.map_congr_left
    intro i hi
    have := (I.lt i (hl i hi)).2
    rw [insN_key hT this, insN_num hT this]
  have e : toldL (insN N (topOf N L h K) H d) (insL N L K) = toldL (insN N (topOf N L h K) H d) (aheadL N L K) ++ (K, d.n) :: toldL (insN N (topOf N L h K) H d) (restL N L K) := by
    unfold insL toldL
    rw [List.map_append, List.map_cons]
    congr 2
    unfold keyOf numOf
    rw [insN_last, hd]
  rw [e, hs _ (fun i hi => ahead_mem hi), hs _ (fun i hi => rest_mem hi), toldL_ahead, toldL_rest]
  rfl
/-- A key is there just if it is the first one that does not stand ahead. -/
theorem hasM_head {N : List Nd} {L : List Nat} {h : Nat → Nat} (I : Inv N L h) (K : List UInt8) : hasM (toldL N L) K = ((restL N L K).head?.map (fun i => keyOf N i == K)).getD false := by
  have hA : (toldL N (aheadL N L K)).any (fun x => x.1 == K) = false := by
    rw [Bool.eq_false_iff]
    intro hh
    rw [List.any_eq_true] at hh
    obtain ⟨x, hx, he⟩ := hh
    unfold toldL at hx
    rw [List.mem_map] at hx
    obtain ⟨i, hi, rfl⟩ := hx
    have h1 := ahead_less hi
    have h2 : keyOf N i = K := by simpa using he
    rw [h2, less_irrefl] at h1
    cases h1
  have e : toldL N L = toldL N (aheadL N L K) ++ toldL N (restL N L K) := by
    unfold toldL
    rw [← List.map_append, ahead_rest]
  unfold hasM
  rw [e, List.any_append, hA, Bool.false_or]
  have hri : (aheadL N L K ++ restL N L K).Pairwise (fun i j => less (keyOf N i) (keyOf N j) = true) := by rw [ahead_rest]; exact I.rise
  have hr2 := (List.pairwise_append.1 hri).2.1
  have hno := fun i hi => I.rest_not K (i := i) hi
  generalize restL N L K = R at *
  cases R with
  | nil => rfl
  | cons b R =>
    simp only [toldL, List.map_cons, List.any_cons, List.head?_cons, Option.map_some, Option.getD_some]
    have : ((R.map fun i => (keyOf N i, numOf N i)).any fun x => x.1 == K) = false := by
      rw [Bool.eq_false_iff]
      intro hh
      rw [List.any_eq_true] at hh
      obtain ⟨x, hx, he⟩ := hh
      rw [List.mem_map] at hx
      obtain ⟨i, hi, rfl⟩ := hx
      have h2 : keyOf N i = K := by simpa using he
      have h3 := (List.pairwise_cons.1 hr2).1 i hi
      rw [h2, hno b (by simp)] at h3
      cases h3
    rw [this, Bool.or_false]
end Herb
set_option linter.unusedSimpArgs false
set_option linter.unusedVariables false
namespace Herb
open Go Go.RowKit

section
variable {P : Program} (w : World)

/-- Where the row lies behind an append: where it lay, or in a new block. -/
def Lies (w : World) (v v' : Value) : Prop := v'.ownBlock = v.ownBlock ∨ v'.ownBlock = some w.heap.size

theorem run_app {base : Nat} {t ty e : TypeId} {z : Value} {size bytes : Nat} (ht : P.underlying t = some (.slice e))
    (hinfo : (P.info? e).map (fun i => (i.zero, i.size, i.bytes)) = some (some z, size, bytes)) (hzs : z.cells.size = size) (hsz : 0 < size)
    {v : Value} {n : Nat} {xs : List Value} (hown : w.ownsRow base e size v n xs) (A : Option Addr) (m c : Nat) {news : List Value} (hr : Rd w size A m news) (h1 : ∀ u ∈ news, u.oneCell' = true)
    (h63 : n + m ≤ maxLen) (hbytes : (n + m) * bytes ≤ 140737488355328) (hbase : base ≤ w.heap.size) :
    ∃ v' w', (Builtin.append_ #[t, t] ty #[v, .slice A m c]).run P w = .ok v' w' ∧ w'.ownsRow base e size v' (n + m) (xs ++ news) ∧ w.grownBy w' v.ownBlock ∧ Lies w v v' := by
  obtain ⟨i, hi, hz, hs, hb⟩ := info_parts hinfo
  rcases A with _ | ad
  · have hm : m = 0 := by
      rcases Nat.eq_zero_or_pos m with h0 | h0
      · exact h0
      · obtain ⟨_, _, h, _⟩ := hr.2 h0
        cases h
    subst hm
    have hn : news = [] := List.eq_nil_of_length_eq_zero (by simpa using hr.1)
    subst hn
    refine ⟨v, w, ?_, by simpa using hown, World.grownBy.refl w _, .inl rfl⟩
    rcases hown.2 with ⟨rfl, rfl⟩ | ⟨g, cap, cur, rfl, _, _, hnc, _⟩
    · simp [Builtin.append_, run_underlying ht, Go.sizeOf, typeInfo, hi, Builtin.lenOf, Builtin.firstCells]
    · simp [Builtin.append_, run_underlying ht, Go.sizeOf, typeInfo, hi, Builtin.lenOf, Builtin.firstCells, hnc, storeCells]
  · have hcells : ∀ j u, news[j]? = some u → w.cell? (ad.add j) = some u := by
      intro j u hu
      rcases Nat.eq_zero_or_pos m with h0 | h0
      · subst h0
        have hn : news = [] := List.eq_nil_of_length_eq_zero (by simpa using hr.1)
        subst hn
        simp at hu
      · obtain ⟨b, off, h, _, hc⟩ := hr.2 h0
        injection h with h
        subst h
        rw [add_eq]
        exact hc j u hu
    obtain ⟨v', w', hrun, h2, h3, _, h5⟩ := run_append_own_at (P := P) w base t ty e i z size bytes ht hi hz hs hb hzs hsz v n xs hown ad m c news hr.1 hcells h1 h63 hbytes hbase
    exact ⟨v', w', hrun, h2, h3, h5⟩

theorem wpList_app {ops : Array Oper} {rest : List Oper} {o : Oper} {a : Act} {Q : Exit → Act → World → Prop} (hgd : o.guard = none) (s x : Operand) {t : TypeId}
    (ho : o.op = .call { callee := .builtin .append, args := #[s, x], argTypes := #[t, t] })
    {base : Nat} {e : TypeId} {z : Value} {size bytes : Nat} (ht : P.underlying t = some (.slice e))
    (hinfo : (P.info? e).map (fun i => (i.zero, i.size, i.bytes)) = some (some z, size, bytes)) (hzs : z.cells.size = size) (hsz : 0 < size)
    {v : Value} {n : Nat} {xs : List Value} (hown : w.ownsRow base e size v n xs) (hs : a.eval s = v) (A : Option Addr) (m c : Nat) {news : List Value} (hr : Rd w size A m news) (hx : a.eval x = .slice A m c) (h1 : ∀ u ∈ news, u.oneCell' = true)
    (h63 : n + m ≤ maxLen) (hbytes : (n + m) * bytes ≤ 140737488355328) (hbase : base ≤ w.heap.size)
    (h : ∀ v' w', w'.ownsRow base e size v' (n + m) (xs ++ news) → w.grownBy w' v.ownBlock → Lies w v v' → wpList P ops Q rest (a.put o.dst v') w') : wpList P ops Q (o :: rest) a w := by
  refine wpList_plain hgd fun K hK => ?_
  obtain ⟨v', w', hrun, h2, h3, h4⟩ := run_app (P := P) w (ty := o.type) ht hinfo hzs hsz hown A m c hr h1 h63 hbytes hbase
  unfold Oper.wp execOp
  simp only [ho, resolve, invoke, builtin, Sem.run_bind, Sem.run_pure, Result.andThen_ok, List.map_toArray, List.map_cons, List.map_nil, hs, hx, hrun]
  exact hK _ _ (h v' w' h2 h3 h4)

/-- The same inside a region that draws its order. -/
theorem step_app {ops : Array Oper} {o : Oper} {a : Act} {K : Act → World → Prop} {Q : Exit → Act → World → Prop} {E : Prop} (hgd : o.guard = none) (s x : Operand) {t : TypeId}
    (ho : o.op = .call { callee := .builtin .append, args := #[s, x], argTypes := #[t, t] })
    {base : Nat} {e : TypeId} {z : Value} {size bytes : Nat} (ht : P.underlying t = some (.slice e))
    (hinfo : (P.info? e).map (fun i => (i.zero, i.size, i.bytes)) = some (some z, size, bytes)) (hzs : z.cells.size = size) (hsz : 0 < size)
    {v : Value} {n : Nat} {xs : List Value} (hown : w.ownsRow base e size v n xs) (hs : a.eval s = v) (A : Option Addr) (m c : Nat) {news : List Value} (hr : Rd w size A m news) (hx : a.eval x = .slice A m c) (h1 : ∀ u ∈ news, u.oneCell' = true)
    (h63 : n + m ≤ maxLen) (hbytes : (n + m) * bytes ≤ 140737488355328) (hbase : base ≤ w.heap.size)
    (h : ∀ v' w', w'.ownsRow base e size v' (n + m) (xs ++ news) → w.grownBy w' v.ownBlock → Lies w v v' → K (a.put o.dst v') w') :
    if Region.wanted o (yielded ops a.tmps) = true then Oper.wp P o a w K Q else E := by
  rw [if_pos (by simp [Region.wanted, hgd])]
  obtain ⟨v', w', hrun, h2, h3, h4⟩ := run_app (P := P) w (ty := o.type) ht hinfo hzs hsz hown A m c hr h1 h63 hbytes hbase
  unfold Oper.wp execOp
  simp only [ho, resolve, invoke, builtin, Sem.run_bind, Sem.run_pure, Result.andThen_ok, List.map_toArray, List.map_cons, List.map_nil, hs, hx, hrun]
  exact h v' w' h2 h3 h4
end

/-- What stood below the base of an owned row stands behind an append onto it. -/
theorem below_app {w0 w w' : World} {B base : Nat} {e : TypeId} {size n : Nat} {v : Value} {xs : List Value} (h : Below B w0 w) (hown : w.ownsRow base e size v n xs) (hB : B ≤ base) (hBw : B ≤ w.heap.size) (hg : w.grownBy w' v.ownBlock) : Below B w0 w' :=
  h.grown hg hBw (fun j hj => Nat.le_trans hB (hown.lt j hj).1)
end Herb
set_option linter.unusedSimpArgs false
set_option linter.unusedVariables false
namespace Herb
open Go Go.RowKit
theorem flat_length {N : List Nd} (h8 : Ok8 N) : (flat N).length = N.length * 10 := by
  unfold flat
  induction N with
  | nil => rfl
  | cons d N ih =>
    have h1 := h8 d (by simp)
    rw [List.flatMap_cons, List.length_append, ih (fun x hx => h8 x (by simp [hx])), List.length_cons]
    simp [Nd.cells, h1]
    omega
theorem flat_get {N : List Nd} (h8 : Ok8 N) : ∀ {i : Nat}, i < N.length → ∀ {j : Nat}, j < 10 → (flat N)[i * 10 + j]? = (N.getD i Nd.zero).cells[j]? := by
  induction N with
  | nil => intro i hi; simp at hi
  | cons d N ih =>
    intro i hi j hj
    have h1 := h8 d (by simp)
    have hl : d.cells.length = 10 := by simp [Nd.cells, h1]
    have e : flat (d :: N) = d.cells ++ flat N := rfl
    rw [e]
    cases i with
    | zero =>
      rw [List.getElem?_append_left (by omega)]
      simp
    | succ i =>
      rw [List.getElem?_append_right (by omega), show (i + 1) * 10 + j - d.cells.length = i * 10 + j by omega, ih (fun x hx => h8 x (by simp [hx])) (by simpa using hi) hj]
      simp
theorem flat_set {N : List Nd} (h8 : Ok8 N) {f v : Nat} (hf : f < 8) : ∀ {i : Nat}, i < N.length → (flat N).set (i * 10 + 2 + f) (.int .i64 (v : Int)) = flat (setNx N i f v) := by
  induction N with
  | nil => intro i hi; simp at hi
  | cons d N ih =>
    intro i hi
    have h1 := h8 d (by simp)
    have hl : d.cells.length = 10 := by simp [Nd.cells, h1]
    have e : ∀ d N, flat (d :: N) = d.cells ++ flat N := fun _ _ => rfl
    rw [e]
    cases i with
    | zero =>
      rw [List.set_append_left _ _ (by omega)]
      simp only [setNx, List.set_cons_zero, e]
      congr 1
      simp [Nd.cells, List.map_set, show 2 + f = f + 1 + 1 by omega]
    | succ i =>
      rw [List.set_append_right _ _ (by omega), show (i + 1) * 10 + 2 + f - d.cells.length = i * 10 + 2 + f by omega, ih (fun x hx => h8 x (by simp [hx])) (by simpa using hi)]
      simp [setNx, e]
theorem flat_snoc (N : List Nd) (d : Nd) : flat (N ++ [d]) = flat N ++ d.cells := by simp [flat]
/-- A key in memory: a block of bytes' head. -/
def KeyAt (w : World) (tb : TypeId) (A : Option Addr) (l : List UInt8) : Prop := l = [] ∨ ∃ (g : Nat) (cs : Array Value) (fr : Nat × Nat), A = some ⟨g, 0, none⟩ ∧ w.heap[g]? = some (.cells cs tb fr) ∧ ∀ (j : Nat) (u : Value), (bvs l)[j]? = some u → (cs : Array Value)[j]? = some u
theorem KeyAt.bs {w : World} {tb : TypeId} {A : Option Addr} {l : List UInt8} (h : KeyAt w tb A l) : Bs w A l := by
  refine ⟨by rw [bvs_length]; omega, fun hn => ?_⟩
  rcases h with rfl | ⟨g, cs, fr, rfl, hg, hc⟩
  · simp at hn
  · exact ⟨g, 0, rfl, (Array.getElem?_eq_some_iff.1 hg).1, fun j u hu => by
      rw [Nat.zero_add, cell_of_row w g j cs tb fr hg]
      exact hc j u hu⟩
/-- All blocks but some lie as they lay. -/
structure KeepBut (S : Nat → Prop) (w w' : World) : Prop where
  os : w'.os = w.os
  tape : w'.tape = w.tape
  output : w'.output = w.output
  size : w.heap.size ≤ w'.heap.size
  block : ∀ k, k < w.heap.size → ¬ S k → w'.heap[k]? = w.heap[k]?
section
variable {S S' : Nat → Prop} {w w' w'' : World}
theorem KeepBut.of_below (h : Below w.heap.size w w') : KeepBut S w w' := ⟨h.os, h.tape, h.output, h.size, fun k hk _ => h.block k hk⟩
theorem KeepBut.refl (w : World) : KeepBut S w w := ⟨rfl, rfl, rfl, Nat.le_refl _, fun _ _ _ => rfl⟩
theorem KeepBut.trans (h : KeepBut S w w') (h' : KeepBut S w' w'') : KeepBut S w w'' :=
  ⟨h'.os.trans h.os, h'.tape.trans h.tape, h'.output.trans h.output, Nat.le_trans h.size h'.size, fun k hk hn => (h'.block k (Nat.lt_of_lt_of_le hk h.size) hn).trans (h.block k hk hn)⟩
theorem KeepBut.weak (h : KeepBut S w w') (hs : ∀ k, k < w.heap.size → S k → S' k) : KeepBut S' w w' := ⟨h.os, h.tape, h.output, h.size, fun k hk hn => h.block k hk (fun e => hn (hs k hk e))⟩
theorem KeepBut.below {B : Nat} (h : KeepBut S w w') (hB : B ≤ w.heap.size) (hs : ∀ k, S k → B ≤ k) : Below B w w' :=
  ⟨h.os, h.tape, h.output, h.size, fun k hk => h.block k (by omega) (fun e => by have := hs k e; omega)⟩
theorem KeepBut.of_grown {row : Option Nat} (h : w.grownBy w' row) (hs : ∀ k, row = some k → S k) : KeepBut S w w' :=
  ⟨h.os, h.tape, h.output, h.size, fun k hk hn => h.block k hk (fun e => hn (hs k e.symm))⟩
theorem KeepBut.drew (h : KeepBut S w w') : KeepBut S w w'.drew := ⟨h.os, h.tape, h.output, h.size, h.block⟩
theorem KeepBut.drewN (h : KeepBut S w w') (n : Nat) : KeepBut S w (w'.drewN n) := ⟨h.os, h.tape, h.output, h.size, h.block⟩
theorem KeepBut.setCell (h : KeepBut S w w') {p : Addr} (hp : S p.block) (u : Value) : KeepBut S w (w'.setCell p u) :=
  ⟨h.os, h.tape, h.output, by simpa [World.setCell] using h.size, fun k hk hn => (Below.heap_setCell w' p u k (fun e => hn (e ▸ hp))).trans (h.block k hk hn)⟩
theorem KeepBut.set_at (w : World) (g o : Nat) (u : Value) : KeepBut (fun k => k = g) w (w.setCell ⟨g, o, none⟩ u) := KeepBut.setCell (S := fun k => k = g) (p := ⟨g, o, none⟩) (KeepBut.refl w) rfl u
theorem KeepBut.setCell_new (h : KeepBut S w w') {p : Addr} (hp : w.heap.size ≤ p.block) (u : Value) : KeepBut S w (w'.setCell p u) :=
  ⟨h.os, h.tape, h.output, by simpa [World.setCell] using h.size, fun k hk hn => (Below.heap_setCell w' p u k (fun e => by omega)).trans (h.block k hk hn)⟩
theorem KeepBut.alloc (h : KeepBut S w w') (o : Obj) : KeepBut S w (w'.alloc o) :=
  ⟨h.os, h.tape, h.output, by have := h.size; simp; omega, fun k hk hn => (Below.heap_alloc w' o k (Nat.lt_of_lt_of_le hk h.size)).trans (h.block k hk hn)⟩
theorem KeyAt.keep {tb : TypeId} {A : Option Addr} {l : List UInt8} (h : KeyAt w tb A l) (hk : KeepBut S w w') (hs : ∀ k cs fr, w.heap[k]? = some (.cells cs tb fr) → ¬ S k) : KeyAt w' tb A l := by
  rcases h with rfl | ⟨g, cs, fr, rfl, hg, hc⟩
  · exact .inl rfl
  · exact .inr ⟨g, cs, fr, rfl, (hk.block g (Array.getElem?_eq_some_iff.1 hg).1 (hs g cs fr hg)).trans hg, hc⟩
theorem Bs.but {A : Option Addr} {l : List UInt8} {B : Nat} (h : Bs w A l) (hlt : ∀ a, A = some a → 0 < l.length → ¬ S a.block) (hk : KeepBut S w w') : Bs w' A l := by
  refine ⟨h.1, fun hn => ?_⟩
  obtain ⟨b, off, rfl, hb, hc⟩ := h.2 hn
  refine ⟨b, off, rfl, Nat.lt_of_lt_of_le hb hk.size, fun j u hu => ?_⟩
  have hbl := hk.block b hb (hlt _ rfl hn)
  rw [← hc j u hu]
  unfold World.cell?
  rw [hbl]
end
end Herb
namespace Go.Proofs.YtdifdbkbpeanhaaDoor
open Go Go.RowKit Herb
/-- A list in memory: at p, its nodes in block g. -/
structure SkAt (w : World) (base p g cap : Nat) (N : List Nd) : Prop where
  box : Blk w p 81 #[.slice (some ⟨g, 0, none⟩) N.length cap]
  row : w.ownsRow base 91 10 (.slice (some ⟨g, 0, none⟩) N.length cap) N.length (flat N)
  keys : ∀ d ∈ N, KeyAt w 5 d.A d.key ∧ d.key.length ≤ 140737488355328
  pb : base ≤ p
section
variable {w w' : World} {base p g cap : Nat} {N : List Nd}
theorem SkAt.gblk (h : SkAt w base p g cap N) : ∃ cur, w.heap[g]? = some (.cells cur 91 (0, 0)) ∧ base ≤ g ∧ N.length ≤ cap := by
  rcases h.row.2 with ⟨h1, _⟩ | ⟨g', cap', cur, hv, hb, hg, hc, _⟩
  · cases h1
  · cases hv
    exact ⟨cur, hg, hb, hc⟩
theorem SkAt.ne (h : SkAt w base p g cap N) : p ≠ g := by
  rintro rfl
  obtain ⟨cur, hg, _⟩ := h.gblk
  have hb := h.box
  unfold Blk at hb
  rw [hb] at hg
  injection hg with hg
  injection hg with _ ht
  exact absurd ht (by decide)
theorem SkAt.lt (h : SkAt w base p g cap N) : p < w.heap.size ∧ g < w.heap.size := by
  obtain ⟨cur, hg, _⟩ := h.gblk
  exact ⟨h.box.lt, (Array.getElem?_eq_some_iff.1 hg).1⟩
theorem SkAt.keep {S : Nat → Prop} (h : SkAt w base p g cap N) (hk : KeepBut S w w') (hp : ¬ S p) (hg : ¬ S g) (hs : ∀ k cs fr, w.heap[k]? = some (.cells cs 5 fr) → ¬ S k) : SkAt w' base p g cap N := by
  refine ⟨(hk.block p h.lt.1 hp).trans h.box, ⟨h.row.1, ?_⟩, fun d hd => ⟨(h.keys d hd).1.keep hk hs, (h.keys d hd).2⟩, h.pb⟩
  rcases h.row.2 with ⟨h1, _⟩ | ⟨g', cap', cur, hv, hb, hgg, hc⟩
  · cases h1
  · cases hv
    exact .inr ⟨g, cap, cur, rfl, hb, (hk.block g h.lt.2 hg).trans hgg, hc⟩
theorem SkAt.below (h : SkAt w base p g cap N) (hb : Below w.heap.size w w') : SkAt w' base p g cap N :=
  h.keep (S := fun _ => False) (KeepBut.of_below hb) (fun e => e) (fun e => e) (fun _ _ _ _ e => e)
theorem SkAt.drew (h : SkAt w base p g cap N) : SkAt w.drew base p g cap N := ⟨h.box, h.row, h.keys, h.pb⟩
theorem mem_setNx {N : List Nd} {i f v : Nat} {d : Nd} (hi : i < N.length) (h : d ∈ setNx N i f v) : ∃ d' ∈ N, d.key = d'.key ∧ d.A = d'.A := by
  unfold setNx at h
  rcases List.mem_or_eq_of_mem_set h with h1 | h1
  · exact ⟨d, h1, rfl, rfl⟩
  · exact ⟨_, getD_mem hi, by rw [h1], by rw [h1]⟩
theorem SkAt.setNx (h : SkAt w base p g cap N) (h8 : Ok8 N) {i f : Nat} (hi : i < N.length) (hf : f < 8) (v : Nat) : SkAt (w.setCell ⟨g, i * 10 + 2 + f, none⟩ (.int .i64 (v : Int))) base p g cap (Herb.setNx N i f v) := by
  have hk : KeepBut (fun k => k = g) w (w.setCell ⟨g, i * 10 + 2 + f, none⟩ (.int .i64 (v : Int))) := KeepBut.set_at w g (i * 10 + 2 + f) _
  refine ⟨?_, ?_, ?_, h.pb⟩
  · rw [setNx_length]
    exact h.box.far (p := ⟨g, i * 10 + 2 + f, none⟩) h.ne _
  · have := h.row.stored (i * 10 + 2 + f) (.int .i64 (v : Int))
    rw [flat_set h8 hf hi] at this
    rw [setNx_length]
    exact this.1
  · intro d hd
    obtain ⟨d', hd', e1, e2⟩ := mem_setNx hi hd
    rw [e1, e2]
    refine ⟨(h.keys d' hd').1.keep hk (fun k cs fr hc e => ?_), (h.keys d' hd').2⟩
    obtain ⟨cur, hg, _⟩ := h.gblk
    rw [e, hg] at hc
    injection hc with hc
    injection hc with _ ht
    exact absurd ht (by decide)
theorem SkAt.cellKey (h : SkAt w base p g cap N) {i : Nat} (h8 : Ok8 N) (hi : i < N.length) : w.cell? ⟨g, i * 10, none⟩ = some (.slice (N.getD i Nd.zero).A (N.getD i Nd.zero).key.length (N.getD i Nd.zero).c) := by
  rw [h.row.cellAt (i * 10) (by omega)]
  have := flat_get h8 hi (show 0 < 10 by omega)
  rw [Nat.add_zero] at this
  rw [this]
  rfl
theorem SkAt.cellNum (h : SkAt w base p g cap N) {i : Nat} (h8 : Ok8 N) (hi : i < N.length) : w.cell? ⟨g, i * 10 + 1, none⟩ = some (.int .i64 (numOf N i)) := by
  rw [h.row.cellAt (i * 10 + 1) (by omega), flat_get h8 hi (show 1 < 10 by omega)]
  rfl
theorem SkAt.cellNx (h : SkAt w base p g cap N) {i f : Nat} (h8 : Ok8 N) (hi : i < N.length) (hf : f < 8) : w.cell? ⟨g, i * 10 + 2 + f, none⟩ = some (.int .i64 (nxOf N f i : Int)) := by
  rw [h.row.cellAt (i * 10 + 2 + f) (by omega), Nat.add_assoc, flat_get h8 hi (show 2 + f < 10 by omega)]
  have hl := h8 _ (getD_mem hi)
  unfold nxOf
  generalize N.getD i Nd.zero = d at hl
  unfold Nd.cells
  rw [show 2 + f = f + 1 + 1 by omega, List.getElem?_cons_succ, List.getElem?_cons_succ, List.getElem?_map]
  simp [List.getD, show f < d.nx.length by omega]
end
end Go.Proofs.YtdifdbkbpeanhaaDoor
set_option linter.unusedSimpArgs false
set_option linter.unusedVariables false
namespace Herb
open Go Go.RowKit
/-- 'string(b)'. -/
theorem run_str {P : Program} {w : World} {A : Option Addr} {l : List UInt8} (h : Bs w A l) (src dst e : TypeId) (hs : P.underlying src = some (.slice e)) (he : P.underlying e = some (.int .u8)) (hd : P.underlying dst = some .string) (n c : Nat) (hn : l.length = n) :
    (convert src dst (.slice A n c)).run P w = .ok (.string ⟨l.toArray⟩) w := by
  subst hn
  rcases A with _ | a
  · have hl0 : l = [] := by
      rcases l with _ | ⟨c, l⟩
      · rfl
      · obtain ⟨_, _, h, _⟩ := h.2 (by simp)
        cases h
    subst hl0
    rw [run_convert_bytes_string w src dst e none _ c hs he hd]
    simp [Conv.bytesToString]
    rfl
  · refine run_convert_bytes_back w src dst e a c l hs he hd (fun j hj => ?_)
    obtain ⟨b, off, e, _, hc⟩ := h.at_ hj
    cases e
    rw [add_eq]
    exact hc j hj
theorem Bs.cut {w : World} {b off : Nat} {l : List UInt8} (h : Bs w (some ⟨b, off, none⟩) l) {k m : Nat} (hm : k + m ≤ l.length) : Bs w (some ⟨b, off + k, none⟩) ((l.drop k).take m) := by
  have hlen : ((l.drop k).take m).length = m := by rw [List.length_take, List.length_drop]; omega
  refine ⟨by rw [bvs_length]; omega, fun hn => ?_⟩
  rw [hlen] at hn
  obtain ⟨b', off', e, hb, hc⟩ := Rd.at_ h (show k < l.length by omega)
  cases e
  refine ⟨b, off + k, rfl, hb, fun j u hu => ?_⟩
  rw [Nat.add_assoc]
  refine hc (k + j) u ?_
  unfold bvs at hu ⊢
  rw [List.map_take, List.map_drop, List.getElem?_take] at hu
  split at hu
  · rw [List.getElem?_drop] at hu; exact hu
  · cases hu
end Herb
set_option linter.unusedSimpArgs false
set_option linter.unusedVariables false
namespace Herb
open Go Go.RowKit
/-- The order of two texts: -1, 0, 1. -/
def cmpB (a b : List UInt8) : Int := if less a b = true then -1 else if less b a = true then 1 else 0
theorem compareBytes_eq : ∀ a b : List UInt8, Lib.compareBytes a b = cmpB a b
  | [], [] => rfl
  | [], _ :: _ => rfl
  | _ :: _, [] => rfl
  | x :: a, y :: b => by
    unfold Lib.compareBytes cmpB
    rcases u8_tri x y with h | rfl | h
    · rw [if_pos h, less_cons_lt h, if_pos rfl]
    · rw [if_neg (UInt8.lt_irrefl x), if_neg (UInt8.lt_irrefl x), compareBytes_eq a b, less_cons_eq, less_cons_eq]
      rfl
    · rw [if_neg (fun e => by rw [UInt8.lt_iff_toNat_lt] at *; omega), if_pos h, less_cons_gt h, less_cons_lt h, if_neg (by simp), if_pos rfl]
theorem cmpB_lt {a b : List UInt8} (h : less a b = true) : cmpB a b = -1 := by unfold cmpB; rw [if_pos h]
theorem cmpB_ge {a b : List UInt8} (h : less a b = false) : 0 ≤ cmpB a b := by
  unfold cmpB
  rw [if_neg (by rw [h]; simp)]
  split <;> omega
theorem run_loadBytes {P : Program} {w : World} {b : Nat} : ∀ (l : List UInt8) (off : Nat) (acc : ByteArray), (∀ (j : Nat) (u : Value), (bvs l)[j]? = some u → w.cell? ⟨b, off + j, none⟩ = some u) →
    (Extern.Bytes.loadBytes ⟨b, off, none⟩ l.length acc).run P w = .ok ⟨(acc.data.toList ++ l).toArray⟩ w
  | [], off, acc, _ => by simp [Extern.Bytes.loadBytes]
  | c :: l, off, acc, h => by
    have h0 := h 0 (bv c) (by simp [bvs])
    rw [Nat.add_zero] at h0
    have ih := run_loadBytes (P := P) (w := w) (b := b) l (off + 1) (acc.push c) (fun j u hu => by
      have := h (j + 1) u (by simpa [bvs] using hu)
      rwa [show off + (j + 1) = off + 1 + j by omega] at this)
    have e1 : (⟨b, off, none⟩ : Addr).add 1 = ⟨b, off + 1, none⟩ := add_eq b off 1
    simp only [List.length_cons, Extern.Bytes.loadBytes, Sem.run_bind, run_load, h0, Result.andThen]
    simp only [bv, Int.toNat_natCast, e1]
    have e2 : c.toNat.toUInt8 = c := by simp
    rw [e2, ih]
    simp [ByteArray.push]
theorem run_bytesOf {P : Program} {w : World} {A : Option Addr} {l : List UInt8} (h : Bs w A l) (n c : Nat) (hn : l.length = n) : (Extern.Bytes.bytesOf (.slice A n c)).run P w = .ok ⟨l.toArray⟩ w := by
  subst hn
  rcases A with _ | a
  · have hl0 : l = [] := by
      rcases l with _ | ⟨c, l⟩
      · rfl
      · obtain ⟨_, _, h, _⟩ := h.2 (by simp)
        cases h
    subst hl0
    rfl
  · rcases Nat.eq_zero_or_pos l.length with h0 | h0
    · have hl0 := List.eq_nil_of_length_eq_zero h0
      subst hl0
      simp [Extern.Bytes.bytesOf, Extern.Bytes.loadBytes]
      rfl
    · obtain ⟨b, off, e, _, hc⟩ := h.2 h0
      cases e
      exact (run_loadBytes l off .empty hc).trans (by simp)
theorem run_compare {P : Program} {w : World} {A B : Option Addr} {a b : List UInt8} (ha : Bs w A a) (hb : Bs w B b) (n c m d : Nat) (hn : a.length = n) (hm : b.length = m) :
    (Extern.BytealgCompare.compare #[.slice A n c, .slice B m d]).run P w = .ok (.int .i64 (cmpB a b)) w := by
  change Sem.run P (do pure (goInt (Extern.BytealgCompare.cmp (← Extern.Bytes.bytesOf (.slice A n c)) (← Extern.Bytes.bytesOf (.slice B m d))))) w = _
  simp only [Sem.run_bind, run_bytesOf ha n c hn, run_bytesOf hb m d hm, Sem.run_pure, Result.andThen]
  rw [Lib.cmp_eq, compareBytes_eq]
  rfl
theorem own_keyAt {w : World} {base : Nat} {e : TypeId} {A : Option Addr} {n c : Nat} {l : List UInt8} (h : w.ownsRow base e 1 (.slice A n c) n (bvs l)) : KeyAt w e A l := by
  rcases h.2 with ⟨h1, h2⟩ | ⟨g, cap, cur, hv, _, hg, _, _, _, ht⟩
  · left
    have := h.1
    rw [bvs_length, h2] at this
    exact List.eq_nil_of_length_eq_zero (by omega)
  · cases hv
    refine .inr ⟨g, cur, _, rfl, hg, fun j u hu => ?_⟩
    rw [← ht, List.getElem?_take] at hu
    split at hu
    · simpa using hu
    · cases hu
end Herb
namespace Go.Proofs.YtdifdbkbpeanhaaDoor
open Go Go.RowKit Herb
theorem infoB : (Tryd.prog.info? 5).map (fun i => (i.zero, i.size, i.bytes)) = some (some (.int .u8 0), 1, 1) := by kernel_rfl

set_option maxHeartbeats 400000 in
theorem compare_bs (w : World) (A B : Option Addr) (a b : List UInt8) (n c m d : Nat) (hn : a.length = n) (hm : b.length = m) (ha : Bs w A a) (hb : Bs w B b) :
    Calls Tryd.prog 54 #[.slice A n c, .slice B m d] w fun e w' => e = .returned (.int .i64 (cmpB a b)) ∧ w = w' := by
  have hx : (callFunc 59 #[.slice A n c, .slice B m d]).run Tryd.prog w = .ok (.value (.int .i64 (cmpB a b))) w := by
    rw [run_callFunc_extern Tryd.func59 (by kernel_rfl) (by kernel_rfl) (by kernel_rfl) (e := Extern.BytealgCompare.compare) (by kernel_rfl), run_compare ha hb n c m d hn hm]
    rfl
  go_enter Tryd.func54, Tryd.ntmps54
  go_wp2
  go_ret
  exact ⟨rfl, rfl⟩
set_option maxHeartbeats 400000 in
theorem equal_bs (w : World) (A B : Option Addr) (a b : List UInt8) (n c m d : Nat) (hn : a.length = n) (hm : b.length = m) (ha : Bs w A a) (hb : Bs w B b) :
    Calls Tryd.prog 42 #[.slice A n c, .slice B m d] w fun e w' => e = .returned (.bool (a == b)) ∧ w = w' := by
  have k1 := run_str (P := Tryd.prog) ha 57 9 5 Tryd.underlying57 Tryd.underlying5 Tryd.underlying9 n c hn
  have k2 := run_str (P := Tryd.prog) hb 57 9 5 Tryd.underlying57 Tryd.underlying5 Tryd.underlying9 m d hm
  go_enter Tryd.func42, Tryd.ntmps42
  go_wp2
  go_ret
  refine ⟨?_, rfl⟩
  first | rfl | simp
/-- slices.Clone: a row of one's own with the same bytes. -/
theorem clone_bs (w : World) (A : Option Addr) (n c : Nat) (l : List UInt8) (hln : l.length = n) (hn : n ≤ 140737488355328) (hb : Bs w A l) :
    Calls Tryd.prog 43 #[.slice A n c] w fun e w' => ∃ A' c', e = .returned (.slice A' n c') ∧ w'.ownsRow w.heap.size 5 1 (.slice A' n c') n (bvs l) ∧ Below w.heap.size w w' := by
  subst hln
  have q : ∀ (w : World) (a : Option Addr) (n c n' c' : Nat), (binOp .eql 57 (.slice a n c) (.slice none n' c')).run Tryd.prog w = .ok (.bool a.isNone) w := fun w a n c n' c' => Lib.run_eql_slice_nil w _ _ a n c n' c' Tryd.underlying57
  go_enter Tryd.func43, Tryd.ntmps43
  rcases A with _ | a
  · have hl0 : l = [] := by
      rcases l with _ | ⟨c, l⟩
      · rfl
      · obtain ⟨_, _, h, _⟩ := hb.2 (by simp)
        cases h
    subst hl0
    go_wp2
    go_ret
    exact ⟨_, _, rfl, World.ownsRow_nil _ _ _ _, Below.refl _ _⟩
  · go_wp2_with (at_builtin; refine wpList_app _ rfl _ _ rfl Tryd.underlying57 infoB rfl (by omega) (World.ownsRow_made w #[] 0 (Nat.le_refl _) (Nat.zero_le _) rfl) rfl _ l.length c (hb.alloc _) rfl (bvs_one l) (by unfold maxLen; omega) (by omega) (by simp) ?_; intro v1 w1 hown1 hgrow1 hlie1)
    rw [Nat.zero_add, List.nil_append] at hown1
    obtain ⟨A1, c1, rfl⟩ := own_slice hown1
    go_wp2
    go_ret
    exact ⟨_, _, rfl, hown1, ((Below.refl _ w).alloc (Nat.le_refl _) _).grown hgrow1 (by simp) (fun j hj => by simp [Value.ownBlock] at hj; omega)⟩

theorem there_yes (w : World) (base p g cap : Nat) (N : List Nd) (h : SkAt w base p g cap N) (hN : 0 < N.length) :
    Calls Tryd.prog 40 #[.pointer (some ⟨p, 0, none⟩)] w fun e w' => e = .returned (.bool true) ∧ w = w' := by
  have hc := h.box.cell 0
  obtain ⟨n, hn⟩ : ∃ n, N.length = n := ⟨_, rfl⟩
  rw [hn] at hc hN
  go_enter Tryd.func40, Tryd.ntmps40
  go_wp2
  go_ret
  exact ⟨rfl, rfl⟩
end Go.Proofs.YtdifdbkbpeanhaaDoor
set_option linter.unusedSimpArgs false
set_option linter.unusedVariables false
namespace Herb
open Go Go.RowKit
section
variable {P : Program} {w : World}
theorem Blk.setRow {g : Nat} {t : TypeId} {old : Array Value} (h : Blk w g t old) (cs : Array Value) : Blk (w.setRow g cs) g t cs := setRow_heap w g old cs t (0, 0) h
theorem Blk.setRow_far {g g' : Nat} {t : TypeId} {c : Array Value} (h : Blk w g t c) (hne : g ≠ g') (cs : Array Value) : Blk (w.setRow g' cs) g t c := (setRow_other w g' g cs hne).trans h
theorem grown_setRow (w : World) (g : Nat) (cs : Array Value) : w.grownBy (w.setRow g cs) (some g) := ⟨rfl, rfl, rfl, by simp, fun k _ hk => setRow_other w g k cs (fun e => hk (by rw [e]))⟩
theorem below_setRow' {B g : Nat} {w0 : World} (hb : Below B w0 w) (hBg : B ≤ g) (cs : Array Value) : Below B w0 (w.setRow g cs) :=
  ⟨hb.os, hb.tape, hb.output, by simpa using hb.size, fun k hk => (setRow_other w g k cs (by omega)).trans (hb.block k hk)⟩
theorem run_storeVar_blk {g : Nat} {t ty : TypeId} {old cells : Array Value} (hg : Blk w g t old) (hi : (P.info? ty).map (·.size) = some cells.size) (hs : old.size = cells.size) (h1 : cells.all (·.oneCell') = true) :
    (storeVar ty ⟨g, 0, none⟩ (.agg cells)).run P w = .ok () (w.setRow g cells) := run_storeVar_row w g t ty old cells hg hi hs h1

theorem wpList_load_blk {ops : Array Oper} {rest : List Oper} {o : Oper} {a : Act} {Q : Exit → Act → World → Prop} (hgd : o.guard = none) (ty : TypeId) (x : Operand) (ho : o.op = .load ty x)
    (g : Nat) (hx : a.eval x = .pointer (some ⟨g, 0, none⟩)) {t : TypeId} {cs : Array Value} (hg : Blk w g t cs) {d : TypeDesc} (hu : P.underlying ty = some d) (hd : (match d with | .struct _ | .array _ _ => true | _ => false) = true) (hi : (P.info? ty).map (·.size) = some cs.size)
    (h : wpList P ops Q rest (a.put o.dst (.agg cs)) w) : wpList P ops Q (o :: rest) a w := wpList_load_row hgd ty x ho g hx t cs (0, 0) d hg hu hd hi h
theorem wpList_store_blk {ops : Array Oper} {rest : List Oper} {o : Oper} {a : Act} {Q : Exit → Act → World → Prop} (hgd : o.guard = none) (ty : TypeId) (x y : Operand) (ho : o.op = .store ty x y)
    (g : Nat) (hx : a.eval x = .pointer (some ⟨g, 0, none⟩)) {t : TypeId} {old : Array Value} (hg : Blk w g t old) (cells : Array Value) (hy : a.eval y = .agg cells) (hi : (P.info? ty).map (·.size) = some cells.size) (hs : old.size = cells.size) (h1 : cells.all (·.oneCell') = true)
    (h : wpList P ops Q rest (a.put o.dst undef) (w.setRow g cells)) : wpList P ops Q (o :: rest) a w := by
  refine wpList_plain hgd fun K hK => ?_
  unfold Oper.wp execOp
  simp only [ho, hx, hy, Instr.storeAt, Instr.sureAddr, Sem.run_bind, Sem.run_pure, Result.andThen_ok, run_storeVar_blk hg hi hs h1]
  exact hK _ _ h
/-- What was loaded is stored back: nothing has turned. -/
theorem wpList_store_same {ops : Array Oper} {rest : List Oper} {o : Oper} {a : Act} {Q : Exit → Act → World → Prop} (hgd : o.guard = none) (ty : TypeId) (x y : Operand) (ho : o.op = .store ty x y)
    (g : Nat) (hx : a.eval x = .pointer (some ⟨g, 0, none⟩)) {t : TypeId} {cs : Array Value} (hg : Blk w g t cs) (hy : a.eval y = .agg cs) (hi : (P.info? ty).map (·.size) = some cs.size) (h1 : cs.all (·.oneCell') = true)
    (h : wpList P ops Q rest (a.put o.dst undef) w) : wpList P ops Q (o :: rest) a w :=
  wpList_store_blk hgd ty x y ho g hx hg cs hy hi rfl h1 (by rw [setRow_self w g cs t (0, 0) hg]; exact h)
theorem results_blk {fn : Func} {p : Tmp} {ty : TypeId} (h : fn.results = #[.cell p ty]) (tmps : Array Value) (g : Nat) {t : TypeId} {cs : Array Value} {d : TypeDesc}
    (hp : tmps.getD p undef = .pointer (some ⟨g, 0, none⟩)) (hg : Blk w g t cs)
    (hu : P.underlying ty = some d) (hd : (match d with | .struct _ | .array _ _ => true | _ => false) = true) (hi : (P.info? ty).map (·.size) = some cs.size) :
    (results fn tmps).run P w = .ok (.agg cs) w := results_cell_row h tmps w g t cs (0, 0) d hp hg hu hd hi
/-- Two results: a struct that lies in a block, and a plain one. -/
theorem results_blk2 {fn : Func} {p q : Tmp} {ty : TypeId} (h : fn.results = #[.cell p ty, .tmp q]) (tmps : Array Value) (g : Nat) {t : TypeId} {cs : Array Value} {d : TypeDesc}
    (hp : tmps.getD p undef = .pointer (some ⟨g, 0, none⟩)) (hg : Blk w g t cs)
    (hu : P.underlying ty = some d) (hd : (match d with | .struct _ | .array _ _ => true | _ => false) = true) (hi : (P.info? ty).map (·.size) = some cs.size) :
    (results fn tmps).run P w = .ok (.tuple #[.agg cs, tmps.getD q undef]) w := by
  have hp' : tmps[p]?.getD undef = .pointer (some ⟨g, 0, none⟩) := by simpa using hp
  simp [results, h, hp', asAddr, run_loadVar_row w g t ty cs (0, 0) d hg hu hd hi]
/-- 'make([]T, 0, n)' at an element of one cell. -/
theorem make_cap {t e : TypeId} {z : Value} {bytes : Nat} (ht : P.underlying t = some (.slice e)) (hi : (P.info? e).map (fun i => (i.zero, i.size, i.bytes)) = some (some z, 1, bytes))
    (hz : z.cells = #[z]) (n : Nat) (L : Int) (hL : L = (n : Int)) (hb : bytes * n ≤ 281474976710656) (hm : n ≤ 9223372036854775807) (w : World) :
    (Instr.makeSlice t (.int .i64 0) (.int .i64 L)).run P w = .ok (.slice (some ⟨w.heap.size, 0, none⟩) 0 n) (w.alloc (.cells (List.replicate n z).toArray e)) := by
  subst hL
  obtain ⟨i, hi, h1, h2, h3⟩ := info_parts hi
  have hb' : (i.bytes : Int) * (n : Int) ≤ 281474976710656 := by
    have h : ((i.bytes * n : Nat) : Int) ≤ 281474976710656 := by rw [h3]; omega
    rwa [Int.natCast_mul] at h
  have hr := run_make (P := P) w t e i z ht hi h1 .i64 .i64 0 n (by omega) (by omega) hb' (by omega)
  rw [hr]
  simp only [Int.toNat_natCast, h2, Nat.mul_one, hz]
  rw [← Array.toArray_toList (xs := madeCells #[z] n), toList_madeCells_one]
  rfl
end
end Herb
