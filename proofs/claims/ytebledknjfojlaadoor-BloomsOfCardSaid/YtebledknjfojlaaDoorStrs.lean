/- Lists of texts in memory. No function of the program is named. -/
import Derived.Test.YtebledknjfojlaaDoorBase
set_option linter.unusedSimpArgs false
set_option linter.unusedVariables false
namespace Herb
open Go Go.RowKit
def svs (ks : List ByteArray) : List Value := ks.map Value.string
theorem svs_length (ks : List ByteArray) : (svs ks).length = ks.length := by simp [svs]
theorem svs_get {ks : List ByteArray} {k : Nat} (h : k < ks.length) : (svs ks)[k]? = some (.string ks[k]) := by simp [svs, h]
theorem svs_one (ks : List ByteArray) : ∀ u ∈ svs ks, u.oneCell' = true := by
  intro u hu
  simp only [svs, List.mem_map] at hu
  obtain ⟨c, _, rfl⟩ := hu
  rfl
/-- A list of texts that a slice holds. -/
def Ss (w : World) (A : Option Addr) (ks : List ByteArray) : Prop := Rd w 1 A ks.length (svs ks)
theorem Ss.below {w w' : World} {A : Option Addr} {ks : List ByteArray} (h : Ss w A ks) (hb : Below w.heap.size w w') : Ss w' A ks := Rd.below h hb
theorem Ss.alloc {w : World} {A : Option Addr} {ks : List ByteArray} (h : Ss w A ks) (o : Obj) : Ss (w.alloc o) A ks := Rd.alloc h o
theorem Ss.at_ {w : World} {A : Option Addr} {ks : List ByteArray} (h : Ss w A ks) {k : Nat} (hk : k < ks.length) : ∃ b off, A = some ⟨b, off, none⟩ ∧ b < w.heap.size ∧ w.cell? ⟨b, off + k, none⟩ = some (.string ks[k]) := by
  obtain ⟨b, off, e, hb, hc⟩ := Rd.at_ h hk
  exact ⟨b, off, e, hb, hc k _ (svs_get hk)⟩
/-- How much texts take, each with one more. -/
def bulk (ks : List ByteArray) : Nat := (ks.map fun s => s.size + 1).sum
theorem bulk_snoc (ks : List ByteArray) (k : Nat) (h : k < ks.length) : bulk (ks.take (k + 1)) = bulk (ks.take k) + (ks[k].size + 1) := by
  unfold bulk
  rw [List.take_succ_eq_append_getElem h, List.map_append, List.sum_append]
  simp
theorem bulk_len : ∀ ks : List ByteArray, ks.length ≤ bulk ks
  | [] => by simp [bulk]
  | s :: ks => by
    have := bulk_len ks
    unfold bulk at this ⊢
    rw [List.map_cons, List.sum_cons, List.length_cons]
    omega
theorem bulk_mem {ks : List ByteArray} {s : ByteArray} (h : s ∈ ks) : s.size + 1 ≤ bulk ks := by
  induction ks with
  | nil => cases h
  | cons t ks ih =>
    unfold bulk at ih ⊢
    rw [List.map_cons, List.sum_cons]
    rcases List.mem_cons.1 h with rfl | h
    · omega
    · have := ih h; omega
end Herb
