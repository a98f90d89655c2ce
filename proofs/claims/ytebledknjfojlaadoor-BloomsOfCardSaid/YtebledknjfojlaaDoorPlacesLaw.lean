/- The places of a key among the bits of a filter: the plain law (whole numbers). No program. -/
import Derived.Test.YtebledknjfojlaaDoorCrc
import Derived.Test.YtebledknjfojlaaDoorFloat
import Derived.Laws.ComplexArith
set_option linter.unusedSimpArgs false
set_option linter.unusedVariables false
namespace Herb

/-- The whole complex number, k times turned by 2 + 1i. -/
def zk (x y : Int) : Nat → Int × Int
  | 0 => (x, y)
  | k + 1 => (2 * (zk x y k).1 - (zk x y k).2, (zk x y k).1 + 2 * (zk x y k).2)
theorem zk_bound (x y : Int) (hx : x.natAbs ≤ 65535) (hy : y.natAbs ≤ 65535) : ∀ k, (zk x y k).1.natAbs ≤ 65535 * 3 ^ k ∧ (zk x y k).2.natAbs ≤ 65535 * 3 ^ k
  | 0 => by simp [zk]; omega
  | k + 1 => by
    obtain ⟨h1, h2⟩ := zk_bound x y hx hy k
    simp only [zk]
    rw [Nat.pow_succ]
    omega
theorem zk_small (x y : Int) (hx : x.natAbs ≤ 65535) (hy : y.natAbs ≤ 65535) {k : Nat} (hk : k ≤ 6) : (zk x y k).1.natAbs ≤ 47775015 ∧ (zk x y k).2.natAbs ≤ 47775015 := by
  obtain ⟨h1, h2⟩ := zk_bound x y hx hy k
  have : 3 ^ k ≤ 3 ^ 6 := Nat.pow_le_pow_right (by omega) hk
  have e : (3 : Nat) ^ 6 = 729 := by decide
  omega
/-- The k-th place of a sum among m bits; all six. -/
def place (s m k : Nat) : Nat := ((zk (s % 65536 : Nat) (s / 65536 : Nat) k).1 % (m : Int)).toNat
def places (s m : Nat) : List Nat := (List.range 6).map (place s m)
theorem place_lt (s m k : Nat) (h : 0 < m) : place s m k < m := by
  unfold place
  have h1 := Int.emod_nonneg (zk (s % 65536 : Nat) (s / 65536 : Nat) k).1 (show (m : Int) ≠ 0 by omega)
  have h2 := Int.emod_lt_of_pos (zk (s % 65536 : Nat) (s / 65536 : Nat) k).1 (show 0 < (m : Int) by omega)
  omega
/-- The same with their bound. -/
def placeS (s m : Nat) (h : 0 < m) (k : Nat) : { x : Nat // x < m } := ⟨place s m k, place_lt s m k h⟩
def placesS (s m : Nat) (h : 0 < m) : List { x : Nat // x < m } := (List.range 6).map (placeS s m h)
theorem placesS_all (s m : Nat) (h : 0 < m) (q : Nat → Bool) : (placesS s m h).all (fun x => q x.1) = (places s m).all q := by
  simp [placesS, places, placeS, List.all_map, Function.comp_def]
theorem tmod_emod (x : Int) (m : Nat) (h : 0 < m) : (0 ≤ x.tmod m ∧ x.tmod m = ((x % (m : Int)).toNat : Int)) ∨ (x.tmod m < 0 ∧ x.tmod m + m = ((x % (m : Int)).toNat : Int)) := by
  have h1 := Int.emod_nonneg x (show (m : Int) ≠ 0 by omega)
  have h2 := Int.emod_lt_of_pos x (show 0 < (m : Int) by omega)
  rw [Int.tmod_eq_emod]
  split
  · left; omega
  · have : ((m : Int)).natAbs = m := by omega
    right
    rw [this]
    omega

/-- One turn of the words. -/
theorem turn_words {a b : Nat} {u v : Int} (ha : Word a u) (hb : Word b v) (hu : u.natAbs ≤ 47775015) (hv : v.natAbs ≤ 47775015) :
    ∃ re im, Go.cMulBits a b 4611686018427387904 4607182418800017408 = some (re, im) ∧ Word re (2 * u - v) ∧ Word im (u + 2 * v) := by
  have w2 : Word 4611686018427387904 2 := by
    have := Word.ofInt 2 (by decide)
    rwa [show Go.floatOfInt .f64 2 = 4611686018427387904 by decide +kernel] at this
  have w1 : Word 4607182418800017408 1 := by
    have := Word.ofInt 1 (by decide)
    rwa [show Go.floatOfInt .f64 1 = 4607182418800017408 by decide +kernel] at this
  have p53 : (2 : Nat) ^ 53 = 9007199254740992 := by decide
  obtain ⟨ac, e1, h1⟩ := ha.mul w2 (by rw [p53]; omega)
  obtain ⟨bd, e2, h2⟩ := hb.mul w1 (by rw [p53]; omega)
  obtain ⟨re, e3, h3⟩ := h1.sub h2 (by rw [p53]; omega)
  obtain ⟨ad, e4, h4⟩ := ha.mul w1 (by rw [p53]; omega)
  obtain ⟨bc, e5, h5⟩ := hb.mul w2 (by rw [p53]; omega)
  obtain ⟨im, e6, h6⟩ := h4.add h5 (by rw [p53]; omega)
  refine ⟨re, im, ?_, ?_, ?_⟩
  · unfold Go.cMulBits
    simp only [e1, e2, e3, e4, e5, e6, Option.bind_some]
  · rwa [show 2 * u - v = u * 2 - v * 1 by omega]
  · rwa [show u + 2 * v = u * 1 + v * 2 by omega]
end Herb
