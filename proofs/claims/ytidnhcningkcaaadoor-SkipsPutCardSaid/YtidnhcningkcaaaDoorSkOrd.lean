/- In whatever order keys are put: the plain law. -/
import Derived.Test.YtidnhcningkcaaaDoorSkBuild
import Derived.Laws.Bits128
set_option linter.unusedSimpArgs false
set_option linter.unusedVariables false
namespace Herb
open Go Go.RowKit
theorem mkM_mem (key : Nat → List UInt8) (f : List UInt8 → Int) : ∀ k x, x ∈ mkM key (fun i => f (key i)) k ↔ ∃ i, i < k ∧ x = (key i, f (key i))
  | 0, x => by simp [mkM]
  | k + 1, x => by
    have ih := mkM_mem key f k
    unfold mkM
    rw [putM_mem, ih]
    constructor
    · rintro (⟨i, hi, rfl⟩ | ⟨rfl, _⟩)
      · exact ⟨i, by omega, rfl⟩
      · exact ⟨k, by omega, rfl⟩
    · rintro ⟨i, hi, rfl⟩
      by_cases e : i < k
      · exact .inl ⟨i, e, rfl⟩
      · have : i = k := by omega
        subst this
        rcases h : hasM (mkM key (fun i => f (key i)) i) (key i) with _ | _
        · exact .inr ⟨rfl, rfl⟩
        · unfold hasM at h
          rw [List.any_eq_true] at h
          obtain ⟨y, hy, hk⟩ := h
          obtain ⟨j, hj, rfl⟩ := (ih y).1 hy
          have hk' : key j = key i := by simpa using hk
          exact .inl ⟨j, hj, by rw [hk']⟩
/-- Where the other order is. -/
def sig (n a i : Nat) : Nat := (n - 1 - i + a) % n
theorem sig_lt {n a i : Nat} (h : i < n) : sig n a i < n := Nat.mod_lt _ (by omega)
theorem sig_onto {n a j : Nat} (h : j < n) : ∃ i, i < n ∧ sig n a i = j := by
  refine ⟨(n - 1 + a - j) % n, Nat.mod_lt _ (by omega), ?_⟩
  have h1 := Nat.div_add_mod (n - 1 + a - j) n
  have h2 := Nat.mod_lt (n - 1 + a - j) (show n > 0 by omega)
  unfold sig
  generalize (n - 1 + a - j) % n = r at *
  generalize (n - 1 + a - j) / n = q at *
  have e : n - 1 - r + a = j + n * q := by
    have : n * q + r = n - 1 + a - j := h1
    omega
  rw [e, Nat.add_mul_mod_self_left, Nat.mod_eq_of_lt h]
theorem two_orders (key : Nat → List UInt8) (f : List UInt8 → Int) (n a : Nat) : mkM key (fun i => f (key i)) n = mkM (fun i => key (sig n a i)) (fun i => f (key (sig n a i))) n := by
  refine rises_ext (mkM_rises _ _ _) (mkM_rises _ _ _) (fun x => ?_)
  rw [mkM_mem, mkM_mem (fun i => key (sig n a i)) f]
  constructor
  · rintro ⟨j, hj, rfl⟩
    obtain ⟨i, hi, he⟩ := sig_onto (a := a) hj
    exact ⟨i, hi, by rw [he]⟩
  · rintro ⟨i, hi, rfl⟩
    exact ⟨sig n a i, sig_lt hi, rfl⟩
theorem rises_get {M : List (List UInt8 × Int)} (h : Rises M) {i j : Nat} (hj : j < M.length) (hij : i < j) : less (M[i]'(by omega)).1 (M[j]).1 = true := by
  exact List.pairwise_iff_getElem.1 h i j (by omega) hj hij
theorem i64And7 (n : Int) : bits .and .i64 n 7 = n % 8 := by
  have h7 : (BitVec.ofInt 64 7).toNat = 2 ^ 3 - 1 := by decide
  have key : (BitVec.ofInt 64 n &&& BitVec.ofInt 64 7).toNat = (n % ((2 ^ 64 : Nat) : Int)).toNat % 2 ^ 3 := by
    rw [BitVec.toNat_and, BitVec.toNat_ofInt, h7, Nat.and_two_pow_sub_one_eq_mod]
  show IntKind.i64.wrap ((BitVec.ofInt 64 n &&& BitVec.ofInt 64 7).toNat : Nat) = n % 8
  rw [key, IntKind.wrap_i64]
  omega
theorem u8And7 (m : Nat) (hm : m < 256) : ∃ r : Nat, bits .and .u8 (m : Int) 7 = (r : Int) ∧ r ≤ 7 := by
  have e := u8_and_nat m 7 hm (by omega)
  refine ⟨m &&& 7, e, ?_⟩
  rw [show (7 : Nat) = 2 ^ 3 - 1 by rfl, Nat.and_two_pow_sub_one_eq_mod]
  omega
theorem and7 (x : Int) : ∃ r : Int, bits .and .i64 x 7 = r ∧ 0 ≤ r ∧ r ≤ 7 := by
  refine ⟨_, rfl, ?_⟩
  have e := i64And7 x
  rw [e]
  omega
end Herb
