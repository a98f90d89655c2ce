/- 'string(b)' of bytes that a slice holds; a cut of them. No function of the program is named. -/
import Derived.Test.YtidnhcningkcaaaDoorBase
import Derived.Laws.IdiomStrings
import Derived.Handy
set_option linter.unusedSimpArgs false
set_option linter.unusedVariables false
namespace Herb
open Go Go.RowKit
/-- 'string(b)'. -/
theorem run_str {P : Program} {w : World} {A : Option Addr} {l : List UInt8} (h : Bs w A l) (src dst e : TypeId) (hs : P.underlying src = some (.slice e)) (he : P.underlying e = some (.int .u8)) (hd : P.underlying dst = some .string) (n c : Nat) (hn : l.length = n) :
    (convert src dst (.slice A n c)).run P w = .ok (.string ⟨l.toArray⟩) w := by
  subst hn
  rcases A with _ | a
  · have hl0 : l = [] := by
      rcases l with _ | ⟨c, l⟩
      · rfl
      · obtain ⟨_, _, h, _⟩ := h.2 (by simp)
        cases h
    subst hl0
    rw [run_convert_bytes_string w src dst e none _ c hs he hd]
    simp [Conv.bytesToString]
    rfl
  · refine run_convert_bytes_back w src dst e a c l hs he hd (fun j hj => ?_)
    obtain ⟨b, off, e, _, hc⟩ := h.at_ hj
    cases e
    rw [add_eq]
    exact hc j hj
theorem Bs.cut {w : World} {b off : Nat} {l : List UInt8} (h : Bs w (some ⟨b, off, none⟩) l) {k m : Nat} (hm : k + m ≤ l.length) : Bs w (some ⟨b, off + k, none⟩) ((l.drop k).take m) := by
  have hlen : ((l.drop k).take m).length = m := by rw [List.length_take, List.length_drop]; omega
  refine ⟨by rw [bvs_length]; omega, fun hn => ?_⟩
  rw [hlen] at hn
  obtain ⟨b', off', e, hb, hc⟩ := Rd.at_ h (show k < l.length by omega)
  cases e
  refine ⟨b, off + k, rfl, hb, fun j u hu => ?_⟩
  rw [Nat.add_assoc]
  refine hc (k + j) u ?_
  unfold bvs at hu ⊢
  rw [List.map_take, List.map_drop, List.getElem?_take] at hu
  split at hu
  · rw [List.getElem?_drop] at hu; exact hu
  · cases hu
end Herb
