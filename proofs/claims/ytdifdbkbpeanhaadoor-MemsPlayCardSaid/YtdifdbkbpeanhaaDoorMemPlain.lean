/- Mems: plain laws of what is told. -/
import Derived.Test.YtdifdbkbpeanhaaDoorMemStep
import Derived.Test.YtdifdbkbpeanhaaDoorMLaid
set_option linter.unusedSimpArgs false
set_option linter.unusedVariables false
namespace Herb
open Go Go.RowKit
/-- A fact as it lies in a row of such elements. -/
theorem lms_atP {w : World} {A : Option Addr} {ls : List LaM} {n : Nat} (h : Rd w 8 A n (lmsC ls)) (hn : ls.length = n) {i : Nat} (hi : i < n) : ∃ b off y, A = some ⟨b, off, none⟩ ∧ ls[i]? = some y ∧
    w.cell? ⟨b, off + i * 8, none⟩ = some (.string y.f.k) ∧ w.cell? ⟨b, off + i * 8 + 1, none⟩ = some (.int .u32 (y.f.va : Int)) ∧ w.cell? ⟨b, off + i * 8 + 2, none⟩ = some (.int .u64 (y.f.se : Int)) ∧ w.cell? ⟨b, off + i * 8 + 3, none⟩ = some (.int .u64 (y.f.li : Int)) ∧
    w.cell? ⟨b, off + i * 8 + 4, none⟩ = some (.int .u8 (y.f.ki : Int)) ∧ w.cell? ⟨b, off + i * 8 + 5, none⟩ = some (.string y.f.v) ∧ w.cell? ⟨b, off + i * 8 + 6, none⟩ = some (.int .i64 y.h) ∧ w.cell? ⟨b, off + i * 8 + 7, none⟩ = some (.bool y.z) := by
  obtain ⟨b, off, e, hb, hc⟩ := Rd.at_ h hi
  have hl : i < ls.length := by rw [hn]; exact hi
  refine ⟨b, off, ls[i], e, List.getElem?_eq_getElem hl, ?_⟩
  exact ⟨hc (i * 8 + 0) _ (lmsC_get hl (j := 0) (by omega)), hc (i * 8 + 1) _ (lmsC_get hl (j := 1) (by omega)), hc (i * 8 + 2) _ (lmsC_get hl (j := 2) (by omega)), hc (i * 8 + 3) _ (lmsC_get hl (j := 3) (by omega)), hc (i * 8 + 4) _ (lmsC_get hl (j := 4) (by omega)), hc (i * 8 + 5) _ (lmsC_get hl (j := 5) (by omega)), hc (i * 8 + 6) _ (lmsC_get hl (j := 6) (by omega)), hc (i * 8 + 7) _ (lmsC_get hl (j := 7) (by omega))⟩
theorem placed_append (fs : List Ft) (a b : List (List UInt8 × Int)) : placed fs (a ++ b) = placed fs a ++ placed fs b := List.map_append
theorem placed_length (fs : List Ft) (a : List (List UInt8 × Int)) : (placed fs a).length = a.length := List.length_map _
theorem MOk.told {s : MSt} {n : Nat} (ok : MOk s n) {x : List UInt8 × Int} (hx : x ∈ s.M) : keyF (s.fs.getD x.2.toNat Ft.zero) = x.1 ∧ (s.fs.getD x.2.toNat Ft.zero) ∈ s.fs := by
  obtain ⟨i, f, hf, h1, h2⟩ := ok.at_ x hx
  have e : s.fs.getD x.2.toNat Ft.zero = f := by
    rw [h1, Int.toNat_natCast, List.getD_eq_getElem?_getD, hf]
    rfl
  rw [e]
  exact ⟨h2, List.mem_of_getElem? hf⟩
/-- A fact stands ahead of where a key's facts begin from a time on. -/
theorem ahead_iff (f : Ft) (hf : f.fit) (k : ByteArray) {va : Nat} (hva : va < 4294967296) : less (keyF f) (seekL k va) = true ↔ (less f.k.toList k.toList = true ∨ (f.k = k ∧ va < f.va)) := by
  have h := ordL_seek f.k k (se := f.se) (ki := f.ki) hf.1 hva
  have hl : ∀ a b : List UInt8, less a b = true ↔ ordL a b = -1 := fun a b => by
    constructor
    · exact ordL_lt
    · intro h
      unfold ordL at h
      split at h
      · assumption
      · split at h <;> cases h
  unfold keyF
  rw [hl, h]
  rcases str_tri f.k k with h1 | h1 | h1
  · rw [cmpS_lt h1, orI_m]
    simp [h1]
  · have hirr : less f.k.toList k.toList = false := by rw [h1]; exact less_irrefl _
    rw [h1, cmpS_eq, orI_0, less_irrefl]
    rcases Nat.lt_trichotomy va f.va with h2 | h2 | h2
    · rw [cmpI_lt (by omega), orI_m]
      simp [h2]
    · subst h2
      rw [cmpI_eq, orI_0]
      simp
    · rw [cmpI_gt (by omega), orI_1]
      simp
      omega
  · rw [cmpS_gt h1, orI_1]
    have h3 := less_asymm h1
    simp only [h3]
    constructor
    · intro h; cases h
    · rintro (h | ⟨h, _⟩)
      · cases h
      · rw [h, less_irrefl] at h1
        cases h1
/-- Where a cut of a row of elements of so many cells begins. -/
def cutZ (z : Nat) (A : Option Addr) (c k : Nat) : Option Addr := if c = k then A else A.map (·.add (k * z))
theorem run_cutZ {P : Program} {t e : TypeId} {z : Nat} (ht : P.underlying t = some (.slice e)) (hs : (P.info? e).map (·.size) = some z) (A : Option Addr) (n c k : Nat) (hk : k ≤ n) (W : World) :
    (Instr.slice t (.slice A n c) (some (.int .i64 (k : Int))) none none).run P W = .ok (.slice (cutZ z A c k) (n - k) (c - k)) W := by
  obtain ⟨i, hi, hz⟩ : ∃ i, P.info? e = some i ∧ i.size = z := by
    cases h : P.info? e with
    | none => simp [h] at hs
    | some i => exact ⟨i, rfl, by simpa [h] using hs⟩
  unfold Instr.slice cutZ
  simp [run_underlying ht, Go.sizeOf, typeInfo, hi, hz, Instr.sliceBounds, Instr.sliceBound, asIntOf, hk]
end Herb
