/- Rows of structs: cells that are laid one behind the other. No function of the program is named. -/
import Derived.Test.YtnlmchbigpjamaaBase
import Derived.Deep.MidRow
import Derived.Laws.MakeOwn
set_option linter.unusedSimpArgs false
set_option linter.unusedVariables false
namespace Herb
open Go Go.RowKit
/-- Cells laid from a place on. -/
def putAt (C : Array Value) : Nat → List Value → Array Value
  | _, [] => C
  | o, v :: vs => putAt (C.setIfInBounds o v) (o + 1) vs
theorem putAt_size : ∀ (vs : List Value) (C : Array Value) (o : Nat), (putAt C o vs).size = C.size
  | [], _, _ => rfl
  | v :: vs, C, o => by rw [putAt, putAt_size vs, Array.size_setIfInBounds]
theorem putAt_get : ∀ (vs : List Value) (C : Array Value) (o j : Nat), o + vs.length ≤ C.size → (putAt C o vs)[j]? = if o ≤ j ∧ j < o + vs.length then vs[j - o]? else C[j]?
  | [], C, o, j, _ => by rw [putAt, if_neg (by simp)]
  | v :: vs, C, o, j, h => by
    simp only [List.length_cons] at h ⊢
    rw [putAt, putAt_get vs _ (o + 1) j (by rw [Array.size_setIfInBounds]; omega)]
    by_cases h1 : o + 1 ≤ j ∧ j < o + 1 + vs.length
    · rw [if_pos h1, if_pos (by omega), show j - o = (j - (o + 1)) + 1 by omega, List.getElem?_cons_succ]
    · rw [if_neg h1]
      by_cases h2 : j = o
      · subst h2
        rw [if_pos (by omega), Nat.sub_self, List.getElem?_cons_zero, Array.getElem?_setIfInBounds_self_of_lt (by omega)]
      · rw [if_neg (by omega), Array.getElem?_setIfInBounds_ne (by omega)]
theorem arr_ext {C D : Array Value} (h : ∀ j : Nat, C[j]? = D[j]?) : C = D := Array.ext_getElem? h
theorem putAt_put (C : Array Value) (o : Nat) (us vs : List Value) (hl : us.length = vs.length) (h : o + vs.length ≤ C.size) : putAt (putAt C o us) o vs = putAt C o vs := by
  refine arr_ext fun j => ?_
  rw [putAt_get vs _ o j (by rw [putAt_size]; omega), putAt_get vs C o j h, putAt_get us C o j (by omega)]
  by_cases h1 : o ≤ j ∧ j < o + vs.length
  · rw [if_pos h1, if_pos h1]
  · rw [if_neg h1, if_neg h1, if_neg (by omega)]
/-- A row that is filled from its head on. -/
def fillR (xs zs : List Value) (k : Nat) : Array Value := (xs.take k ++ zs.drop k).toArray
theorem fillR_zero (xs zs : List Value) : fillR xs zs 0 = zs.toArray := by simp [fillR]
theorem fillR_end (xs zs : List Value) (k : Nat) (h : xs.length ≤ k) (hz : zs.length ≤ k) : fillR xs zs k = xs.toArray := by
  unfold fillR
  rw [List.take_of_length_le h, List.drop_eq_nil_of_le hz, List.append_nil]
theorem fillR_size (xs zs : List Value) (hl : xs.length = zs.length) (k : Nat) : (fillR xs zs k).size = xs.length := by
  simp [fillR]; omega
theorem fillR_get (xs zs : List Value) (hl : xs.length = zs.length) (k j : Nat) : (fillR xs zs k)[j]? = if j < k then xs[j]? else zs[j]? := by
  unfold fillR
  simp only [List.getElem?_toArray]
  by_cases h : j < k
  · rw [if_pos h]
    by_cases h2 : j < xs.length
    · rw [List.getElem?_append_left (by rw [List.length_take]; omega), List.getElem?_take, if_pos h]
    · rw [List.getElem?_append_right (by rw [List.length_take]; omega), List.getElem?_eq_none (show xs.length ≤ j by omega), List.getElem?_eq_none (by rw [List.length_drop, List.length_take]; omega)]
  · rw [if_neg h]
    by_cases h2 : k ≤ xs.length
    · rw [List.getElem?_append_right (by rw [List.length_take]; omega), List.length_take, List.getElem?_drop, show k + (j - min k xs.length) = j by omega]
    · rw [List.getElem?_append_right (by rw [List.length_take]; omega), List.getElem?_eq_none (show zs.length ≤ j by omega), List.getElem?_eq_none (by rw [List.length_drop]; omega)]
theorem fillR_put (xs zs : List Value) (hl : xs.length = zs.length) (k : Nat) (vs : List Value) (h : k + vs.length ≤ xs.length) (hv : ∀ j, j < vs.length → xs[k + j]? = vs[j]?) : putAt (fillR xs zs k) k vs = fillR xs zs (k + vs.length) := by
  refine arr_ext fun j => ?_
  rw [putAt_get vs _ k j (by rw [fillR_size _ _ hl]; omega), fillR_get _ _ hl, fillR_get _ _ hl]
  by_cases h1 : k ≤ j ∧ j < k + vs.length
  · rw [if_pos h1, if_pos h1.2, ← hv (j - k) (by omega), show k + (j - k) = j by omega]
  · rw [if_neg h1]
    by_cases h2 : j < k
    · rw [if_pos h2, if_pos (by omega)]
    · rw [if_neg h2, if_neg (by omega)]
/-- Elements a .. b of a row hold M. -/
def frS (sz : Nat) (cs : Array Value) (M : List Value) (a b : Nat) : Array Value := (List.range' a (b - a)).foldl (fun c i => putAt c (i * sz) M) cs
theorem frS_self (sz : Nat) (cs : Array Value) (M : List Value) (a : Nat) : frS sz cs M a a = cs := by simp [frS]
theorem frS_succ (sz : Nat) (cs : Array Value) (M : List Value) (a b : Nat) (h : a ≤ b) : frS sz cs M a (b + 1) = putAt (frS sz cs M a b) (b * sz) M := by
  unfold frS
  rw [show b + 1 - a = (b - a) + 1 by omega, List.range'_1_concat, List.foldl_append]
  simp only [List.foldl_cons, List.foldl_nil]
  rw [show a + (b - a) = b by omega]
theorem frS_size (sz : Nat) (cs : Array Value) (M : List Value) (a b : Nat) : (frS sz cs M a b).size = cs.size := by
  unfold frS
  generalize List.range' a (b - a) = l
  induction l generalizing cs with
  | nil => rfl
  | cons x l ih => rw [List.foldl_cons, ih, putAt_size]
theorem frS_get (sz : Nat) (cs : Array Value) (M : List Value) (a b j : Nat) (hM : M.length = sz) (h0 : 0 < sz) (h : a ≤ b) (hb : b * sz ≤ cs.size) : (frS sz cs M a b)[j]? = if a * sz ≤ j ∧ j < b * sz then M[j % sz]? else cs[j]? := by
  obtain ⟨n, rfl⟩ : ∃ n, b = a + n := ⟨b - a, by omega⟩
  induction n with
  | zero => rw [Nat.add_zero, frS_self, if_neg (by omega)]
  | succ n ih =>
    have e1 : (a + (n + 1)) * sz = (a + n) * sz + sz := by rw [← Nat.add_assoc, Nat.succ_mul]
    have e2 : a * sz ≤ (a + n) * sz := Nat.mul_le_mul_right _ (by omega)
    rw [← Nat.add_assoc, frS_succ _ _ _ _ _ (by omega), putAt_get _ _ _ _ (by rw [frS_size, hM]; omega), ih (by omega) (by omega), hM]
    rw [show (a + n + 1) * sz = (a + n) * sz + sz from by rw [Nat.succ_mul]]
    by_cases h1 : (a + n) * sz ≤ j ∧ j < (a + n) * sz + sz
    · rw [if_pos h1, if_pos (by omega)]
      have : j % sz = j - (a + n) * sz := by
        obtain ⟨r, rfl⟩ : ∃ r, j = (a + n) * sz + r := ⟨j - (a + n) * sz, by omega⟩
        rw [Nat.add_sub_cancel_left, Nat.mul_comm, Nat.mul_add_mod, Nat.mod_eq_of_lt (by omega)]
      rw [this]
    · rw [if_neg h1]
      by_cases h2 : a * sz ≤ j ∧ j < (a + n) * sz
      · rw [if_pos h2, if_pos (by omega)]
      · rw [if_neg h2, if_neg (by omega)]
section
variable {w w' : World} {g : Nat} {t : TypeId} {C : Array Value}
theorem Blk.setCells : ∀ (vs : List Value) {w : World} {C : Array Value}, Blk w g t C → ∀ o, Blk (w.setCells g o vs) g t (putAt C o vs)
  | [], _, _, h, _ => h
  | v :: vs, _, _, h, o => Blk.setCells vs (h.store o v) (o + 1)
theorem Blk.setCells_far {g' : Nat} (hne : g ≠ g') : ∀ (vs : List Value) {w : World}, Blk w g t C → ∀ o, Blk (w.setCells g' o vs) g t C
  | [], _, h, _ => h
  | v :: vs, _, h, o => Blk.setCells_far hne vs (h.far (p := ⟨g', o, none⟩) hne v) (o + 1)
theorem size_setCells (g : Nat) : ∀ (vs : List Value) (w : World) (o : Nat), (w.setCells g o vs).heap.size = w.heap.size
  | [], _, _ => rfl
  | v :: vs, w, o => (size_setCells g vs _ (o + 1)).trans (by simp)
theorem below_setCells {B : Nat} {w0 : World} (hB : B ≤ g) : ∀ (vs : List Value) {w : World}, Below B w0 w → ∀ o, Below B w0 (w.setCells g o vs)
  | [], _, h, _ => h
  | v :: vs, _, h, o => below_setCells hB vs (h.setCell (p := ⟨g, o, none⟩) hB v) (o + 1)
theorem Blk.range (h : Blk w g t C) (o : Nat) (vs : List Value) (hv : ∀ j, j < vs.length → C[o + j]? = vs[j]?) : w.rangeAt g o vs := fun j v hj => by
  rw [h.cell, hv j (List.getElem?_eq_some_iff.1 hj).1, hj]
theorem Blk.there (h : Blk w g t C) (o n : Nat) (hn : o + n ≤ C.size) : w.there g o n := fun j hj => by
  rw [h.cell, h.frozen]
  exact ⟨by rw [Array.getElem?_eq_getElem (by omega)]; rfl, rfl⟩
end
/-- 'make([]T, n)' at an element of several cells. -/
theorem make_rows {P : Program} {t e : TypeId} {zc : Value} {size bytes : Nat} (ht : P.underlying t = some (.slice e)) (hi : (P.info? e).map (fun i => (i.zero, i.size, i.bytes)) = some (some zc, size, bytes))
    (n : Nat) (L : Int) (hL : L = (n : Int)) (hb : bytes * n ≤ 281474976710656) (hm : n ≤ 9223372036854775807) :
    ∃ zs : List Value, zs.length = n * size ∧ ∀ w : World, (Instr.makeSlice t (.int .i64 L) (.int .i64 L)).run P w = .ok (.slice (some ⟨w.heap.size, 0, none⟩) n n) (w.alloc (.cells zs.toArray e)) := by
  subst hL
  obtain ⟨i, hi, h1, h2, h3⟩ := info_parts hi
  have hb' : (i.bytes : Int) * (n : Int) ≤ 281474976710656 := by
    have h : ((i.bytes * n : Nat) : Int) ≤ 281474976710656 := by rw [h3]; omega
    rwa [Int.natCast_mul] at h
  refine ⟨(madeCells zc.cells (n * size)).toList, by rw [Array.length_toList, size_madeCells], fun w => ?_⟩
  have hr := run_make (P := P) w t e i zc ht hi h1 .i64 .i64 n n (by omega) (by omega) hb' (by omega)
  rw [hr]
  simp only [Int.toNat_natCast, h2, Array.toArray_toList]
/-- A part of a row that a slice reads as. -/
theorem Rd.range {w : World} {size n : Nat} {A : Option Addr} {xs : List Value} (h : Rd w size A n xs) {i : Nat} (hi : i < n) : ∃ b off, A = some ⟨b, off, none⟩ ∧ b < w.heap.size ∧ ∀ (o : Nat) (vs : List Value), (∀ j, j < vs.length → xs[o + j]? = vs[j]?) → w.rangeAt b (off + o) vs := by
  obtain ⟨b, off, e, hb, hc⟩ := h.at_ hi
  refine ⟨b, off, e, hb, fun o vs hv j v hj => ?_⟩
  rw [Nat.add_assoc]
  exact hc _ _ ((hv j (List.getElem?_eq_some_iff.1 hj).1).trans hj)
theorem range_below {w w' : World} {b o : Nat} {vs : List Value} (h : w.rangeAt b o vs) (hl : b < w.heap.size) (hb : Below w.heap.size w w') : w'.rangeAt b o vs := fun j v hj => (hb.cell (p := ⟨b, o + j, none⟩) hl).trans (h j v hj)
end Herb
