/- Walks of keys.plain, fallen, of the document's number. -/
import Derived.Test.YtdifdbkbpeanhaaKeyPut2
import Derived.Test.YtdifdbkbpeanhaaStr
set_option linter.unusedSimpArgs false
set_option linter.unusedVariables false
namespace Herb
open Go Go.RowKit
theorem bs_drop {w : World} {b off n k : Nat} {l : List UInt8} (h : Bs w (some ⟨b, off, none⟩) l) (hn : l.length = n) (hk : k ≤ n) : Bs w (some ⟨b, off + k, none⟩) (l.drop k) := by
  have h1 := Bs.cut (k := k) (m := n - k) h (by omega)
  rwa [List.take_of_length_le (by rw [List.length_drop, hn]; omega)] at h1
theorem or_low (x z : Nat) (hz : z < 256) : 256 * x ||| z = 256 * x + z := by
  have := Nat.two_pow_add_eq_or_of_lt (i := 8) (b := z) (by omega) x
  rw [show (2 : Nat) ^ 8 = 256 by rfl] at this
  exact this.symm
end Herb
namespace Go.Proofs.Ytdifdbkbpeanhaa
open Go Go.RowKit Herb

end Go.Proofs.Ytdifdbkbpeanhaa
