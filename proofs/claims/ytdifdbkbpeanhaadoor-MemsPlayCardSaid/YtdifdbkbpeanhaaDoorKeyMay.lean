/- Walks of keys' may, of the document's May. -/
import Derived.Test.YtdifdbkbpeanhaaDoorRows
import Derived.Test.YtdifdbkbpeanhaaDoorMg1
import Derived.Handy
import Derived.Lib.Hide
import Derived.WalkLawsBesides
set_option linter.unusedSimpArgs false
set_option linter.unusedVariables false
namespace Herb
open Go
/-- May a fact be? -/
def mayB (k : ByteArray) (se ki : Nat) : Bool := decide (1 ≤ k.size) && decide (k.size ≤ 32) && decide (0 < se) && decide (ki ≤ 1)
end Herb
namespace Go.Proofs.YtdifdbkbpeanhaaDoor
open Go Go.RowKit Herb
set_option maxHeartbeats 800000 in
theorem may_any (w : World) (k v : ByteArray) (va : Int) (se : Nat) (li : Int) (ki : Nat) :
    Calls Tryd.prog 36 #[.agg #[.string k, .int .u32 va, .int .u64 (se : Int), .int .u64 li, .int .u8 (ki : Int), .string v]] w
      fun e w' => e = .returned (.bool (mayB k se ki)) ∧ Below w.heap.size w w' := by
  obtain ⟨M, hM⟩ : ∃ M, mayB k se ki = M := ⟨_, rfl⟩
  rw [hM]
  unfold mayB at hM
  have hb := (Below.refl w.heap.size w).alloc (Nat.le_refl _) (.cells #[.string k, .int .u32 va, .int .u64 (se : Int), .int .u64 li, .int .u8 (ki : Int), .string v] 27)
  obtain ⟨n, hn⟩ : ∃ n, k.size = n := ⟨_, rfl⟩
  rw [hn] at hM
  by_cases h1 : 1 ≤ n
  · by_cases h2 : n ≤ 32
    · by_cases h3 : 0 < se
      · by_cases h4 : ki ≤ 1
        · have d1 : decide ((1 : Int) ≤ (n : Int)) = true := decide_eq_true (by omega)
          have d2 : decide ((n : Int) ≤ 32) = true := decide_eq_true (by omega)
          have d3 : decide ((0 : Int) < (se : Int)) = true := decide_eq_true (by omega)
          have d4 : decide ((ki : Int) ≤ 1) = true := decide_eq_true (by omega)
          obtain rfl : M = true := by rw [← hM]; simp; omega
          replace hM := Lib.hid hM
          go_enter Tryd.func36, Tryd.ntmps36
          go_wp2
          go_ret
          exact ⟨rfl, hb⟩
        · have d1 : decide ((1 : Int) ≤ (n : Int)) = true := decide_eq_true (by omega)
          have d2 : decide ((n : Int) ≤ 32) = true := decide_eq_true (by omega)
          have d3 : decide ((0 : Int) < (se : Int)) = true := decide_eq_true (by omega)
          have d4 : decide ((ki : Int) ≤ 1) = false := decide_eq_false (by omega)
          obtain rfl : M = false := by rw [← hM]; simp; omega
          replace hM := Lib.hid hM
          go_enter Tryd.func36, Tryd.ntmps36
          go_wp2
          go_ret
          exact ⟨rfl, hb⟩
      · have d1 : decide ((1 : Int) ≤ (n : Int)) = true := decide_eq_true (by omega)
        have d2 : decide ((n : Int) ≤ 32) = true := decide_eq_true (by omega)
        have d3 : decide ((0 : Int) < (se : Int)) = false := decide_eq_false (by omega)
        obtain rfl : M = false := by rw [← hM]; simp; omega
        replace hM := Lib.hid hM
        go_enter Tryd.func36, Tryd.ntmps36
        go_wp2
        go_ret
        exact ⟨rfl, hb⟩
    · have d1 : decide ((1 : Int) ≤ (n : Int)) = true := decide_eq_true (by omega)
      have d2 : decide ((n : Int) ≤ 32) = false := decide_eq_false (by omega)
      obtain rfl : M = false := by rw [← hM]; simp; omega
      replace hM := Lib.hid hM
      go_enter Tryd.func36, Tryd.ntmps36
      go_wp2
      go_ret
      exact ⟨rfl, hb⟩
  · have d1 : decide ((1 : Int) ≤ (n : Int)) = false := decide_eq_false (by omega)
    obtain rfl : M = false := by rw [← hM]; simp; omega
    replace hM := Lib.hid hM
    go_enter Tryd.func36, Tryd.ntmps36
    go_wp2
    go_ret
    exact ⟨rfl, hb⟩

set_option maxHeartbeats 800000 in
theorem refMay_any (w : World) (k v : ByteArray) (va : Int) (se : Nat) (li : Int) (ki : Nat) :
    Calls Tryd.prog 25 #[.agg #[.string k, .int .u32 va, .int .u64 (se : Int), .int .u64 li, .int .u8 (ki : Int), .string v]] w
      fun e w' => e = .returned (.bool (mayB k se ki)) ∧ Below w.heap.size w w' := by
  obtain ⟨M, hM⟩ : ∃ M, mayB k se ki = M := ⟨_, rfl⟩
  rw [hM]
  unfold mayB at hM
  have hb := (Below.refl w.heap.size w).alloc (Nat.le_refl _) (.cells #[.string k, .int .u32 va, .int .u64 (se : Int), .int .u64 li, .int .u8 (ki : Int), .string v] 27)
  obtain ⟨n, hn⟩ : ∃ n, k.size = n := ⟨_, rfl⟩
  have hnil : k.toList.isEmpty = decide (n = 0) := by
    rw [ba_toList, ← hn]
    cases k with
    | mk d => cases d with
      | mk l => cases l <;> rfl
  rw [hn] at hM
  by_cases h1 : n = 0
  · have e1 : k.toList = [] := by rw [h1] at hnil; simpa using hnil
    obtain rfl : M = false := by rw [← hM]; simp; omega
    replace hM := Lib.hid hM
    replace hnil := Lib.hid hnil
    go_enter Tryd.func25, Tryd.ntmps25
    go_wp2
    go_ret
    exact ⟨rfl, hb⟩
  · have e1 : k.toList.isEmpty = false := by rw [hnil]; simpa using h1
    have e2 : (!k.toList.isEmpty) = true := by rw [e1]; rfl
    replace hnil := Lib.hid hnil
    by_cases h2 : n ≤ 32
    · have d2 : decide ((n : Int) ≤ 32) = true := decide_eq_true (by omega)
      by_cases h3 : se = 0
      · subst h3
        obtain rfl : M = false := by rw [← hM]; simp
        replace hM := Lib.hid hM
        go_enter Tryd.func25, Tryd.ntmps25
        go_wp2
        go_ret
        exact ⟨rfl, hb⟩
      · have d3 : ((se : Int) != 0) = true := by simp; omega
        by_cases h4 : ki = 0
        · subst h4
          obtain rfl : M = true := by rw [← hM]; simp; omega
          replace hM := Lib.hid hM
          go_enter Tryd.func25, Tryd.ntmps25
          go_wp2
          go_ret
          exact ⟨rfl, hb⟩
        · have d4 : ((ki : Int) == 0) = false := by simp; omega
          by_cases h5 : ki = 1
          · subst h5
            obtain rfl : M = true := by rw [← hM]; simp; omega
            replace hM := Lib.hid hM
            go_enter Tryd.func25, Tryd.ntmps25
            go_wp2
            go_ret
            exact ⟨rfl, hb⟩
          · have d5 : ((ki : Int) == 1) = false := by simp; omega
            obtain rfl : M = false := by rw [← hM]; simp; omega
            replace hM := Lib.hid hM
            go_enter Tryd.func25, Tryd.ntmps25
            go_wp2
            go_ret
            exact ⟨rfl, hb⟩
    · have d2 : decide ((n : Int) ≤ 32) = false := decide_eq_false (by omega)
      obtain rfl : M = false := by rw [← hM]; simp; omega
      replace hM := Lib.hid hM
      go_enter Tryd.func25, Tryd.ntmps25
      go_wp2
      go_ret
      exact ⟨rfl, hb⟩
end Go.Proofs.YtdifdbkbpeanhaaDoor
