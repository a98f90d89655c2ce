/- Cuts 's[k:]', 's[k:m]' under one name, whether the cut lies at the capacity's end or not. No function of the program is named. -/
import Derived.Test.YtccbldlnfaiphaaDoorBase
set_option linter.unusedSimpArgs false
set_option linter.unusedVariables false
namespace Herb
open Go Go.RowKit
/-- Where a cut begins. -/
def cutA (A : Option Addr) (c k : Nat) : Option Addr := if c = k then A else A.map (·.add k)
section
variable {P : Program} {t e : TypeId}
theorem run_cut (ht : P.underlying t = some (.slice e)) (hs : (P.info? e).map (·.size) = some 1) (A : Option Addr) (n c k m : Nat) (hk : k ≤ m) (hm : m ≤ c) (W : World) :
    (Instr.slice t (.slice A n c) (some (.int .i64 (k : Int))) (some (.int .i64 (m : Int))) none).run P W = .ok (.slice (cutA A c k) (m - k) (c - k)) W := by
  obtain ⟨i, hi, hz⟩ : ∃ i, P.info? e = some i ∧ i.size = 1 := by
    cases h : P.info? e with
    | none => simp [h] at hs
    | some i => exact ⟨i, rfl, by simpa [h] using hs⟩
  have h1 : max (m : Int) 0 = (m : Int) := by omega
  unfold Instr.slice cutA
  simp [run_underlying ht, Go.sizeOf, typeInfo, hi, hz, Instr.sliceBounds, Instr.sliceBound, asIntOf, hk, hm, h1]
theorem run_cut_from (ht : P.underlying t = some (.slice e)) (hs : (P.info? e).map (·.size) = some 1) (A : Option Addr) (n c k : Nat) (hk : k ≤ n) (W : World) :
    (Instr.slice t (.slice A n c) (some (.int .i64 (k : Int))) none none).run P W = .ok (.slice (cutA A c k) (n - k) (c - k)) W := by
  obtain ⟨i, hi, hz⟩ : ∃ i, P.info? e = some i ∧ i.size = 1 := by
    cases h : P.info? e with
    | none => simp [h] at hs
    | some i => exact ⟨i, rfl, by simpa [h] using hs⟩
  unfold Instr.slice cutA
  simp [run_underlying ht, Go.sizeOf, typeInfo, hi, hz, Instr.sliceBounds, Instr.sliceBound, asIntOf, hk]
end
theorem Bs.cutA {W : World} {A : Option Addr} {l : List UInt8} (h : Bs W A l) {c k m : Nat} (hkm : k + m ≤ l.length) (hc : l.length ≤ c) : Bs W (cutA A c k) ((l.drop k).take m) := by
  have h1 := Rd.cut (k := k) (m := k + m) (A' := Herb.cutA A c k) h (by omega) hkm (fun h0 => by unfold Herb.cutA; rw [if_neg (by omega), Nat.mul_one])
  have e : ((l.drop k).take m).length = m := by rw [List.length_take, List.length_drop]; omega
  unfold Bs
  rw [e]
  have e2 : k + m - k = m := by omega
  rw [e2] at h1
  simp only [Nat.mul_one] at h1
  have e3 : bvs ((l.drop k).take m) = ((bvs l).drop k).take m := by unfold bvs; rw [List.map_take, List.map_drop]
  rw [e3]
  exact h1
theorem Bs.cutA_from {W : World} {A : Option Addr} {l : List UInt8} (h : Bs W A l) {c k : Nat} (hk : k ≤ l.length) (hc : l.length ≤ c) : Bs W (Herb.cutA A c k) (l.drop k) := by
  have h1 := h.cutA (c := c) (k := k) (m := l.length - k) (by omega) hc
  rwa [List.take_of_length_le (by rw [List.length_drop]; omega)] at h1
end Herb
