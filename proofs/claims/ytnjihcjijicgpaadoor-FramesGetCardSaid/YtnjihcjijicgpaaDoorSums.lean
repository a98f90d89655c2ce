/- Walks of package sums and of its reference: each function's contract. -/
import Derived.Test.YtnjihcjijicgpaaDoorRows
import Derived.Test.YtnjihcjijicgpaaDoorBase
import Derived.Test.YtnjihcjijicgpaaDoorCrc
import Derived.Handy
import Derived.Lib.Hide
import Derived.Deep.WholeRow
set_option linter.unusedSimpArgs false
set_option linter.unusedVariables false
namespace Go.Proofs.YtnjihcjijicgpaaDoor
open Go Go.RowKit Herb

def tabL (k : Nat) : List Value := (List.range k).map (fun i => Value.int .u32 ((rep 8 i : Nat) : Int)) ++ List.replicate (256 - k) (Value.int .u32 0)
def tab (k : Nat) : Array Value := (tabL k).toArray
theorem tab_zero : tab 0 = Array.replicate 256 (Value.int .u32 0) := by
  unfold tab tabL
  rw [← Array.toList_inj, Array.toList_replicate]
  rfl
theorem tab_size (k : Nat) (h : k ≤ 256) : (tab k).size = 256 := by simp [tab, tabL]; omega
theorem tab_step (k : Nat) (h : k < 256) : (tab k).setIfInBounds k (.int .u32 ((rep 8 k : Nat) : Int)) = tab (k + 1) := by
  unfold tab
  rw [← Array.toList_inj]
  simp only [List.setIfInBounds_toArray]
  unfold tabL
  rw [List.set_append_right _ _ (by simp), List.range_succ, List.map_append, List.append_assoc]
  congr 1
  rw [show 256 - k = (256 - (k + 1)) + 1 by omega, List.replicate_succ]
  simp
theorem tab_some (k : Nat) (h : k < 256) : ∃ v, (tab k)[k]? = some v := ⟨_, Array.getElem?_eq_getElem (by rw [tab_size k (by omega)]; exact h)⟩
theorem tab_get (j : Nat) (h : j < 256) : (tab 256)[j]? = some (.int .u32 ((rep 8 j : Nat) : Int)) := by
  simp [tab, tabL, h]
theorem zero_table (w : World) : (zeroValue 70).run Tryd.prog w = .ok (.agg (Array.replicate 256 (.int .u32 0))) w := by kernel_rfl

theorem table_size : (Tryd.prog.info? 70).map (·.size) = some (tab 256).size := by
  rw [tab_size 256 (by omega)]
  kernel_rfl
theorem tab_one : (tab 256).all (·.oneCell') = true := by
  simp only [tab, tabL, List.all_toArray]
  simp [Value.oneCell']
theorem inv_bits (s : Nat) (hs : s < 4294967296) : bits .xor .u32 IntKind.u32.max (s : Int) = ((inv32 s : Nat) : Int) := by
  have h := u32_xor_nat 4294967295 s (by omega) hs
  have e : 4294967295 ^^^ s = inv32 s := by
    unfold inv32
    apply Nat.eq_of_testBit_eq
    intro i
    have h1 := Nat.testBit_two_pow_sub_succ (x := s) (n := 32) (by omega) i
    have h2 := Nat.testBit_two_pow_sub_one 32 i
    rw [show (2 ^ 32 - (s + 1) : Nat) = 4294967295 - s by omega] at h1
    rw [show (2 ^ 32 - 1 : Nat) = 4294967295 by omega] at h2
    rw [Nat.testBit_xor, h1, h2]
    by_cases hi : i < 32
    · simp [hi]
    · simp [hi, Nat.testBit_lt_two_pow (show s < 2 ^ i from Nat.lt_of_lt_of_le (show s < 2 ^ 32 by omega) (Nat.pow_le_pow_right (by omega) (by omega)))]
  rw [e] at h
  exact h
theorem low_bits (x : Nat) (c : UInt8) : bits .xor .u8 ((x : Int) % 256) (c.toNat : Int) = (((x ^^^ c.toNat) % 256 : Nat) : Int) := by
  have h := u8_xor_nat (x % 256) c.toNat (by omega) c.toNat_lt
  rw [show ((x : Int) % 256) = ((x % 256 : Nat) : Int) by omega, h]
  have h3 : (x ^^^ c.toNat) % 2 ^ 8 = (x % 2 ^ 8) ^^^ (c.toNat % 2 ^ 8) := Nat.xor_mod_two_pow
  rw [show (256 : Nat) = 2 ^ 8 from rfl, h3, Nat.mod_eq_of_lt (a := c.toNat) c.toNat_lt]
theorem feed_bits (x : Nat) (hx : x < 4294967296) (c : UInt8) :
    bits .xor .u32 ((x : Int) / 256) ((rep 8 ((x ^^^ c.toNat) % 256) : Nat) : Int) = ((feed1 x c : Nat) : Int) := by
  have h := u32_xor_nat (x / 256) (rep 8 ((x ^^^ c.toNat) % 256)) (by omega) (rep_lt 8 (by omega))
  rw [feed1_table] at h
  rw [← h]
  congr 1
theorem step_bits (x : Nat) (hx : x < 4294967296) :
    bits .xor .u32 ((x : Int) / 2) (bits .and .u32 2197175160 (-bits .and .u32 (x : Int) 1 % 4294967296)) = ((stp x : Nat) : Int) := by
  have h1 : bits .and .u32 (x : Int) 1 = ((x % 2 : Nat) : Int) := by
    have := u32_and_nat x 1 hx (by omega)
    rw [Nat.and_one_is_mod] at this
    simpa using this
  rw [h1]
  unfold stp
  rcases Nat.mod_two_eq_zero_or_one x with h | h
  · rw [h, if_neg (by omega)]
    have h2 : bits .and .u32 2197175160 (-((0 : Nat) : Int) % 4294967296) = ((0 : Nat) : Int) := by decide +kernel
    rw [h2]
    have := u32_xor_nat (x / 2) 0 (by omega) (by omega)
    rw [← this, Int.natCast_ediv]
    rfl
  · rw [h, if_pos rfl]
    have h2 : bits .and .u32 2197175160 (-((1 : Nat) : Int) % 4294967296) = ((2197175160 : Nat) : Int) := by decide +kernel
    rw [h2]
    have := u32_xor_nat (x / 2) 2197175160 (by omega) (by omega)
    rw [← this, Int.natCast_ediv]
    rfl

set_option maxHeartbeats 400000 in
set_option maxRecDepth 100000 in
theorem made_any (w : World) : Calls Tryd.prog 41 #[] w fun e w' => e = .returned (.agg (tab 256)) ∧ Below w.heap.size w w' := by
  have hz := zero_table
  go_enter Tryd.func41, Tryd.ntmps41
  go_wp2
  go_loopw [3] (fun i wr => ∃ k : Nat, k ≤ 256 ∧ i = .int .i64 k ∧ wr = w.alloc (Obj.cells (tab k) 70)) (fun i _ => 256 - (intOf i).toNat)
  case atStart => exact ⟨0, by omega, rfl, by rw [tab_zero]⟩
  case round =>
    obtain ⟨k, hk, rfl, rfl⟩ := hrel
    by_cases hlt : k < 256
    · go_wp2
      go_loop [2, 8] (fun x j => ∃ i : Nat, i ≤ 8 ∧ j = .int .i64 i ∧ x = .int .u32 (rep i k : Nat)) (fun _ i => 8 - (intOf i).toNat)
      case atStart => exact ⟨0, by omega, rfl, rfl⟩
      case round =>
        obtain ⟨i, hi, rfl, rfl⟩ := hrel
        have hr := rep_lt i (show k < 4294967296 by omega)
        by_cases hlt2 : i < 8
        · go_wp2
          go_round
          case rel =>
            exact ⟨i + 1, by omega, by go_num, congrArg (Value.int .u32) (step_bits _ hr)⟩
          case measure => simp [intOf]; omega
        · obtain rfl : i = 8 := by omega
          have hts := tab_step k hlt
          obtain ⟨v, hv⟩ := tab_some k hlt
          go_wp2
          go_roundw
          case rel => exact ⟨k + 1, by omega, by go_num, rfl⟩
          case measure => simp [intOf]; omega
    · obtain rfl : k = 256 := by omega
      have hst := run_storeCells_new (P := Tryd.prog) w 70 (tab 256) (tab 256) table_size rfl tab_one
      go_wp2_with (refine wpList_load_row rfl 70 _ rfl w.heap.size rfl 70 (tab 256) (0, 0) _ (heap_alloc_new _ _) Tryd.underlying70 rfl table_size ?_)
      refine bodyPost_ret (results_cell_row rfl _ _ w.heap.size 70 (tab 256) (0, 0) _ rfl (heap_alloc_new _ _) Tryd.underlying70 rfl table_size) rfl ⟨rfl, ?_⟩
      exact (Below.refl _ _).alloc (Nat.le_refl _) _

set_option maxHeartbeats 400000 in
set_option maxRecDepth 100000 in
theorem more_any (w : World) (s : Nat) (hs : s < 4294967296) (A : Option Addr) (c : Nat) (l : List UInt8) (hl : l.length ≤ 9223372036854775807) (hb : Bs w A l) :
    Calls Tryd.prog 36 #[.int .u32 (s : Int), .slice A l.length c] w fun e w' => e = .returned (.int .u32 ((more s l : Nat) : Int)) ∧ Below w.heap.size w w' := by
  have hz := zero_table
  go_enter Tryd.func36, Tryd.ntmps36
  go_wp2_with fail
  refine (made_any w).mono ?_
  rintro e w1 ⟨rfl, hb1⟩
  have hst := run_storeCells_new (P := Tryd.prog) w1 70 (Array.replicate 256 (.int .u32 0)) (tab 256) table_size (by rw [tab_size 256 (by omega)]; simp) tab_one
  have hbs : Bs (w1.alloc (.cells (tab 256) 70)) A l := (hb.below hb1).alloc _
  have htc : ∀ j, j < 256 → (w1.alloc (.cells (tab 256) 70)).cell? ⟨w1.heap.size, j, none⟩ = some (.int .u32 ((rep 8 j : Nat) : Int)) := fun j hj => by
    rw [World.cell?_alloc_at _ _ _ _ rfl]; exact tab_get j hj
  have hinv := inv_bits s hs
  go_wp2
  generalize hW : w1.alloc (.cells (tab 256) 70) = W at *
  have HW := Lib.hid hW
  clear hW hst
  go_loop [6, 14] (fun x i => ∃ k : Nat, k ≤ l.length ∧ i = .int .i64 k ∧ x = .int .u32 (feed (inv32 s) (l.take k) : Nat)) (fun _ i => l.length - (intOf i).toNat)
  case atStart => exact ⟨0, by omega, rfl, rfl⟩
  case round =>
    obtain ⟨k, hk, rfl, rfl⟩ := hrel
    have hX := feed_lt (inv32_lt s) (l.take k)
    by_cases hlt : k < l.length
    · obtain ⟨b, off, rfl, hblt, hc⟩ := hbs.at_ hlt
      have hck := hc k hlt
      have hlow := low_bits (feed (inv32 s) (l.take k)) l[k]
      have hfb := feed_bits _ hX l[k]
      have htk := htc _ (Nat.mod_lt (feed (inv32 s) (l.take k) ^^^ l[k].toNat) (by omega : 256 > 0))
      have hml := Nat.mod_lt (feed (inv32 s) (l.take k) ^^^ l[k].toNat) (by omega : 256 > 0)
      clear htc
      go_wp2
      go_round
      case rel => exact ⟨k + 1, by omega, by go_num, by rw [List.take_succ_eq_append_getElem hlt, feed_snoc]⟩
      case measure => simp [intOf]; omega
    · obtain rfl : k = l.length := by omega
      rw [List.take_length] at *
      have hinv2 := inv_bits _ hX
      go_wp2
      go_ret
      refine ⟨rfl, ?_⟩
      rw [← HW.out]
      exact hb1.trans ((Below.refl _ _).alloc hb1.size _)

set_option maxHeartbeats 400000 in
theorem of_any (w : World) (A : Option Addr) (c : Nat) (l : List UInt8) (hl : l.length ≤ 9223372036854775807) (hb : Bs w A l) :
    Calls Tryd.prog 37 #[.slice A l.length c] w fun e w' => e = .returned (.int .u32 ((more 0 l : Nat) : Int)) ∧ Below w.heap.size w w' := by
  go_enter Tryd.func37, Tryd.ntmps37
  go_wp2_with fail
  refine (more_any w 0 (by omega) A c l hl hb).mono ?_
  rintro e w1 ⟨rfl, hb1⟩
  go_wp2
  go_ret
  exact ⟨rfl, hb1⟩
theorem of_at (w : World) (A : Option Addr) (n c : Nat) (l : List UInt8) (hn : l.length = n) (hl : n ≤ 9223372036854775807) (hb : Bs w A l) :
    Calls Tryd.prog 37 #[.slice A n c] w fun e w' => e = .returned (.int .u32 ((more 0 l : Nat) : Int)) ∧ Below w.heap.size w w' := by
  subst hn
  exact of_any w A c l hl hb
theorem more_at (w : World) (s : Nat) (hs : s < 4294967296) (A : Option Addr) (n c : Nat) (l : List UInt8) (hn : l.length = n) (hl : n ≤ 9223372036854775807) (hb : Bs w A l) :
    Calls Tryd.prog 36 #[.int .u32 (s : Int), .slice A n c] w fun e w' => e = .returned (.int .u32 ((more s l : Nat) : Int)) ∧ Below w.heap.size w w' := by
  subst hn
  exact more_any w s hs A c l hl hb
end Go.Proofs.YtnjihcjijicgpaaDoor
