/- Facts in memory. No function of the program is named. -/
import Derived.Test.YtnlmchbigpjamaaBase
set_option linter.unusedSimpArgs false
set_option linter.unusedVariables false
namespace Herb
open Go Go.RowKit
structure Ft where
  k : ByteArray
  va : Nat
  se : Nat
  li : Nat
  ki : Nat
  v : ByteArray
def Ft.zero : Ft := ⟨⟨#[]⟩, 0, 0, 0, 0, ⟨#[]⟩⟩
def Ft.cells (f : Ft) : List Value := [.string f.k, .int .u32 (f.va : Int), .int .u64 (f.se : Int), .int .u64 (f.li : Int), .int .u8 (f.ki : Int), .string f.v]
abbrev Ft.val (f : Ft) : Value := .agg #[.string f.k, .int .u32 (f.va : Int), .int .u64 (f.se : Int), .int .u64 (f.li : Int), .int .u8 (f.ki : Int), .string f.v]
theorem Ft.val_inj {f g : Ft} (h : f.val = g.val) : f = g := by
  obtain ⟨a1, a2, a3, a4, a5, a6⟩ := f
  obtain ⟨b1, b2, b3, b4, b5, b6⟩ := g
  simp only [Ft.val, Value.agg.injEq, Array.mk.injEq, List.cons.injEq, Value.string.injEq, Value.int.injEq, true_and, and_true] at h
  obtain ⟨rfl, h2, h3, h4, h5, rfl⟩ := h
  obtain rfl : a2 = b2 := by omega
  obtain rfl : a3 = b3 := by omega
  obtain rfl : a4 = b4 := by omega
  obtain rfl : a5 = b5 := by omega
  rfl
def Ft.fit (f : Ft) : Prop := f.va < 4294967296 ∧ f.se < 18446744073709551616 ∧ f.li < 18446744073709551616 ∧ f.ki < 256
def ftC (fs : List Ft) : List Value := fs.flatMap Ft.cells
theorem ftC_length (fs : List Ft) : (ftC fs).length = fs.length * 6 := by
  unfold ftC
  induction fs with
  | nil => rfl
  | cons x l ih => rw [List.flatMap_cons, List.length_append, ih, List.length_cons]; simp [Ft.cells]; omega
theorem ftC_append (a b : List Ft) : ftC (a ++ b) = ftC a ++ ftC b := by unfold ftC; rw [List.flatMap_append]
theorem ftC_get : ∀ {fs : List Ft} {i : Nat} (h : i < fs.length) {j : Nat}, j < 6 → (ftC fs)[i * 6 + j]? = (fs[i]).cells[j]?
  | x :: l, 0, _, j, hj => by
    have e : ftC (x :: l) = x.cells ++ ftC l := rfl
    rw [e, List.getElem?_append_left (by simp [Ft.cells]; omega)]
    simp
  | x :: l, i + 1, h, j, hj => by
    have ih := ftC_get (fs := l) (i := i) (by simpa using h) hj
    have e : ftC (x :: l) = x.cells ++ ftC l := rfl
    have l3 : x.cells.length = 6 := rfl
    rw [e, List.getElem?_append_right (by omega), l3, show (i + 1) * 6 + j - 6 = i * 6 + j by omega]
    exact ih
theorem ftC_one (fs : List Ft) : ∀ u ∈ ftC fs, u.oneCell' = true := by
  intro u hu
  obtain ⟨c, _, h⟩ := List.mem_flatMap.1 hu
  simp only [Ft.cells, List.mem_cons, List.not_mem_nil, or_false] at h
  rcases h with rfl | rfl | rfl | rfl | rfl | rfl <;> rfl
/-- Facts that a slice holds. -/
def Fs (w : World) (A : Option Addr) (fs : List Ft) : Prop := Rd w 6 A fs.length (ftC fs)
theorem Fs.below {w w' : World} {A : Option Addr} {fs : List Ft} (h : Fs w A fs) (hb : Below w.heap.size w w') : Fs w' A fs := Rd.below h hb
theorem Fs.nil_ (w : World) (A : Option Addr) : Fs w A [] := Rd.nil_ w 6 A
theorem Fs.at_ {w : World} {A : Option Addr} {fs : List Ft} (h : Fs w A fs) {i : Nat} (hi : i < fs.length) : ∃ b off, A = some ⟨b, off, none⟩ ∧ b < w.heap.size ∧
    ∀ j (hj : j < fs.length), w.cell? ⟨b, off + j * 6, none⟩ = some (.string fs[j].k) ∧ w.cell? ⟨b, off + j * 6 + 1, none⟩ = some (.int .u32 (fs[j].va : Int)) ∧ w.cell? ⟨b, off + j * 6 + 2, none⟩ = some (.int .u64 (fs[j].se : Int)) ∧
      w.cell? ⟨b, off + j * 6 + 3, none⟩ = some (.int .u64 (fs[j].li : Int)) ∧ w.cell? ⟨b, off + j * 6 + 4, none⟩ = some (.int .u8 (fs[j].ki : Int)) ∧ w.cell? ⟨b, off + j * 6 + 5, none⟩ = some (.string fs[j].v) := by
  obtain ⟨b, off, e, hb, hc⟩ := Rd.at_ h hi
  refine ⟨b, off, e, hb, fun j hj => ?_⟩
  have h0 := hc (j * 6 + 0) _ (ftC_get hj (j := 0) (by omega))
  have h1 := hc (j * 6 + 1) _ (ftC_get hj (j := 1) (by omega))
  have h2 := hc (j * 6 + 2) _ (ftC_get hj (j := 2) (by omega))
  have h3 := hc (j * 6 + 3) _ (ftC_get hj (j := 3) (by omega))
  have h4 := hc (j * 6 + 4) _ (ftC_get hj (j := 4) (by omega))
  have h5 := hc (j * 6 + 5) _ (ftC_get hj (j := 5) (by omega))
  exact ⟨h0, h1, h2, h3, h4, h5⟩
/-- One fact as a row. -/
theorem Rd.ft (w : World) (t : TypeId) (f : Ft) : Rd (w.alloc (.cells #[.string f.k, .int .u32 (f.va : Int), .int .u64 (f.se : Int), .int .u64 (f.li : Int), .int .u8 (f.ki : Int), .string f.v] t)) 6 (some ⟨w.heap.size, 0, none⟩) 1 (ftC [f]) :=
  (Blk.new w t _).rd rfl (fun j u hu => by simpa [ftC, Ft.cells] using hu)
end Herb
