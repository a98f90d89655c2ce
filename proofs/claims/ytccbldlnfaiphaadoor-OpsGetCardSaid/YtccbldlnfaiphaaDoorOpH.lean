/- The walk of great. -/
import Derived.Test.YtccbldlnfaiphaaDoorOpG
set_option linter.unusedSimpArgs false
set_option linter.unusedVariables false
namespace Herb.Cm
open Herb Go
def tot (cs : List Ch) : Nat := (cs.map fun c => c.k.size + c.v.size).sum
theorem tot_snoc (cs : List Ch) (k : Nat) (hk : k < cs.length) : tot (cs.take (k + 1)) = tot (cs.take k) + (cs[k].k.size + cs[k].v.size) := by
  unfold tot
  rw [List.take_succ_eq_append_getElem hk, List.map_append, List.sum_append]
  simp
end Herb.Cm
namespace Go.Proofs.YtccbldlnfaiphaaDoor
open Go Go.RowKit Herb Herb.Cm
set_option maxRecDepth 100000 in
set_option maxHeartbeats 3200000 in
theorem great_any (w : World) (kind : Nat) (br ot : ByteArray) (pl : Nat) (A : Option Addr) (c : Nat) (cs : List Ch) (hb : Cs w A cs) (hbr : br.size ≤ 140737488355328) (hot : ot.size ≤ 140737488355328)
    (hcl : cs.length ≤ 140737488355328) (hs : ∀ x ∈ cs, x.k.size ≤ 140737488355328 ∧ x.v.size ≤ 140737488355328) :
    Calls Tryd.prog 9 #[.agg #[.int .u8 (kind : Int), .string br, .string ot, .int .u64 (pl : Int), .slice A cs.length c]] w
      fun e w' => (∃ g : Bool, e = .returned (.bool g) ∧ Hid (g = false → br.size + ot.size + cs.length + tot cs ≤ 90000 ∧ cs.length ≤ 2000)) ∧ Below w.heap.size w w' := by
  obtain ⟨n, hn⟩ : ∃ n, cs.length = n := ⟨_, rfl⟩
  rw [hn] at hcl ⊢
  have h0 := (Below.refl w.heap.size w).alloc (Nat.le_refl _) (.cells #[.int .u8 (kind : Int), .string br, .string ot, .int .u64 (pl : Int), .slice A n c] 26)
  have kb := Blk.new w 26 #[.int .u8 (kind : Int), .string br, .string ot, .int .u64 (pl : Int), .slice A n c]
  obtain ⟨w0, hw0⟩ : ∃ w0, w.alloc (.cells #[.int .u8 (kind : Int), .string br, .string ot, .int .u64 (pl : Int), .slice A n c] 26) = w0 := ⟨_, rfl⟩
  rw [hw0] at h0 kb
  have c0 := kb.cell
  have hb0 := hb.below h0
  obtain ⟨p, hp⟩ : ∃ p, br.size = p := ⟨_, rfl⟩
  obtain ⟨q, hq⟩ : ∃ q, ot.size = q := ⟨_, rfl⟩
  rw [hp] at hbr
  rw [hq] at hot
  replace hs := Lib.hid hs
  replace hn := Lib.hid hn
  rw [hp, hq]
  go_enter Tryd.func9, Tryd.ntmps9
  go_wp2_with (first | rw [hw0] | fail)
  go_loopw [3, 4] (fun t i wr => ∃ k b : Nat, t = .int .i64 (b : Int) ∧ i = .int .i64 (k : Int) ∧ k ≤ n ∧ b ≤ 703687441776640 ∧ Hid (b = p + q + n + tot (cs.take k)) ∧ Below w0.heap.size w0 wr) (fun _ i _ => n - (intOf i).toNat)
  case atStart => exact ⟨0, p + q + n, by go_num, rfl, by omega, by omega, Lib.hid (by simp [tot]), Below.refl _ _⟩
  case round =>
    obtain ⟨k, b, rfl, rfl, hk, hb2, hbk, hB⟩ := hrel
    have c0 := (kb.below hB kb.lt).cell
    have hB0 := h0.trans (hB.mono h0.size)
    by_cases hlt : k < n
    · have hd0 : decide ((k : Int) < (n : Int)) = true := decide_eq_true (by omega)
      by_cases hb3 : b < 100000
      · have hkl : k < cs.length := by rw [hn.out]; exact hlt
        obtain ⟨bb, off, rfl, hblt, hc⟩ := (hb0.below hB).at_ hkl
        obtain ⟨e0, e1, e2, e3⟩ := hc k hkl
        have hnx := tot_snoc cs k hkl
        have hsz := hs.out _ (List.getElem_mem hkl)
        obtain ⟨x, hx⟩ : ∃ x, cs[k] = x := ⟨_, rfl⟩
        rw [hx] at e0 e1 e2 e3 hnx hsz
        obtain ⟨xk, xva, xki, xv⟩ := x
        simp only at e0 e1 e2 e3 hnx hsz
        obtain ⟨z, hz⟩ : ∃ z, xk.size = z := ⟨_, rfl⟩
        obtain ⟨y, hy⟩ : ∃ z, xv.size = z := ⟨_, rfl⟩
        rw [hz, hy] at hsz hnx
        obtain ⟨hz1, hy1⟩ := hsz
        replace hnx := Lib.hid hnx
        replace hc := Lib.hid hc
        clear e1 e2 hx
        have hd1 : decide ((b : Int) < 100000) = true := decide_eq_true (by omega)
        have r1 : IntKind.i64.wrap ((b : Int) + (z : Int)) = (b : Int) + (z : Int) := IntWalk.i64_in _ (by omega)
        have r2 : IntKind.i64.wrap ((b : Int) + (z : Int) + (y : Int)) = (b : Int) + (z : Int) + (y : Int) := IntWalk.i64_in _ (by omega)
        replace hb3 := Lib.hid hb3
        go_wp2_with fail
        go_quiet (fail)
        go_wp2
        go_roundw
        case rel => exact ⟨k + 1, b + z + y, by go_num, by go_num, by omega, by have := hb3.out; omega, Lib.hid (by rw [hnx.out]; have := hbk.out; omega), below_drewN hB _⟩
        case measure => simp [intOf]; omega
      · have hd1 : decide ((b : Int) < 100000) = false := decide_eq_false (by omega)
        have hd2 : decide ((90000 : Int) < (b : Int)) = true := decide_eq_true (by omega)
        replace hb3 := Lib.hid hb3
        go_wp2
        go_ret
        exact ⟨⟨true, rfl, Lib.hid fun h => by cases h⟩, hB0⟩
    · obtain rfl : k = n := by omega
      have hd0 : decide ((k : Int) < (k : Int)) = false := decide_eq_false (by omega)
      rw [← hn.out, List.take_length, hn.out] at hbk
      by_cases hb3 : 90000 < b
      · have hd2 : decide ((90000 : Int) < (b : Int)) = true := decide_eq_true (by omega)
        replace hb3 := Lib.hid hb3
        go_wp2
        go_ret
        exact ⟨⟨true, rfl, Lib.hid fun h => by cases h⟩, hB0⟩
      · have hd2 : decide ((90000 : Int) < (b : Int)) = false := decide_eq_false (by omega)
        replace hb3 := Lib.hid hb3
        go_wp2
        go_ret
        exact ⟨⟨_, rfl, Lib.hid fun h => ⟨by have := hb3.out; have := hbk.out; omega, by have := of_decide_eq_false h; omega⟩⟩, hB0⟩
end Go.Proofs.YtccbldlnfaiphaaDoor
