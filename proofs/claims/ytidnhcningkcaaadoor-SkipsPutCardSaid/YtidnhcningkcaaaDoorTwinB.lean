/- Walks of what all layers' statements use, at bytes: copied, TwinBytes, kept, LeftBytes. -/
import Derived.Test.YtidnhcningkcaaaDoorRows
import Derived.Test.YtidnhcningkcaaaDoorBase
import Derived.Handy
import Derived.Lib.Hide
import Derived.Deep.QuietTactic
import Derived.BigQuiet
set_option linter.unusedSimpArgs false
set_option linter.unusedVariables false
namespace Go.Proofs.YtidnhcningkcaaaDoor
open Go Go.RowKit Herb

theorem info_u8 : (Tryd.prog.info? 5).map (fun i => (i.zero, i.size, i.bytes)) = some (some (.int .u8 0), 1, 1) := by kernel_rfl

/-- The copy while it is made: k of its cells are laid. -/
def midB (l : List UInt8) (m : UInt8) (k : Nat) : Array Value := fillA (bvs (l ++ [m, m])) (Value.int .u8 0) k
theorem midB_len (l : List UInt8) (m : UInt8) : (bvs (l ++ [m, m])).length = l.length + 2 := by rw [bvs_length]; simp
theorem midB_zero (l : List UInt8) (m : UInt8) : (List.replicate (l.length + 2) (Value.int .u8 0)).toArray = midB l m 0 := by rw [midB, fillA_zero, midB_len]
theorem midB_end (l : List UInt8) (m : UInt8) : midB l m (l.length + 2) = (bvs (l ++ [m, m])).toArray := fillA_end _ _ _ (by rw [midB_len]; omega)
theorem midB_size (l : List UInt8) (m : UInt8) (k : Nat) (h : k ≤ l.length + 2) : (midB l m k).size = l.length + 2 := by rw [midB, fillA_size _ _ _ (by rw [midB_len]; omega), midB_len]
theorem midB_mark (l : List UInt8) (m : UInt8) (k : Nat) (h1 : l.length ≤ k) (h : k < l.length + 2) : (midB l m k).setIfInBounds k (.int .u8 (m.toNat : Int)) = midB l m (k + 1) := by
  refine fillA_step _ _ _ (by rw [midB_len]; omega) _ ?_
  rw [bvs_get (by simp; omega), List.getElem_append_right h1]
  have : k - l.length = 0 ∨ k - l.length = 1 := by omega
  rcases this with h | h <;> simp [h, bv]
theorem midB_both (l : List UInt8) (m : UInt8) (k : Nat) (h : k < l.length) : ((midB l m k).setIfInBounds k (.int .u8 (m.toNat : Int))).setIfInBounds k (.int .u8 (l[k].toNat : Int)) = midB l m (k + 1) := by
  rw [set_set]
  refine fillA_step _ _ _ (by rw [midB_len]; omega) _ ?_
  rw [bvs_get (by simp; omega), List.getElem_append_left h]
  rfl

set_option maxHeartbeats 800000 in
theorem copied_b (w : World) (A : Option Addr) (c : Nat) (l : List UInt8) (m : UInt8) (hl : l.length ≤ 140737488355328) (hb : Bs w A l) :
    Calls Tryd.prog 16 #[.slice A l.length c, .int .u8 (m.toNat : Int)] w fun e w' =>
      e = .returned (.slice (some ⟨w.heap.size, 0, none⟩) l.length (l.length + 2)) ∧ w.alloc (.cells (bvs (l ++ [m, m])).toArray 5) = w' := by
  have hmk := fun W => make_one (P := Tryd.prog) Tryd.underlying23 info_u8 rfl (l.length + 2) ((l.length : Int) + 2) (by omega) (by omega) (by omega) W
  rw [midB_zero l m] at hmk
  go_enter Tryd.func16, Tryd.ntmps16
  go_wp2
  go_loopw [6] (fun i wr => ∃ k : Nat, k ≤ l.length + 2 ∧ i = .int .i64 k ∧ wr = w.alloc (.cells (midB l m k) 5)) (fun i _ => l.length + 2 - (intOf i).toNat)
  case atStart => exact ⟨0, by omega, rfl, rfl⟩
  case round =>
    obtain ⟨k, hk, rfl, rfl⟩ := hrel
    clear hmk
    have hsz := midB_size l m k hk
    by_cases hlt : k < l.length + 2
    · obtain ⟨v, hv⟩ := some_of_lt (midB l m k) k (by omega)
      by_cases hlt2 : k < l.length
      · obtain ⟨b, off, rfl, hblt, hc⟩ := (hb.alloc (.cells ((midB l m k).setIfInBounds k (.int .u8 (m.toNat : Int))) 5)).at_ hlt2
        have hck := hc k hlt2
        have hbo := midB_both l m k hlt2
        clear hc
        go_wp2
        go_roundw
        case rel => exact ⟨k + 1, by omega, by go_num, rfl⟩
        case measure => simp [intOf]; omega
      · have hbo := midB_mark l m k (by omega) hlt
        go_wp2
        go_roundw
        case rel => exact ⟨k + 1, by omega, by go_num, rfl⟩
        case measure => simp [intOf]; omega
    · obtain rfl : k = l.length + 2 := by omega
      go_wp2
      go_ret
      exact ⟨rfl, by rw [midB_end]⟩

set_option maxHeartbeats 400000 in
theorem twinBytes_any (w : World) (A : Option Addr) (c : Nat) (l : List UInt8) (hl : l.length ≤ 140737488355328) (hb : Bs w A l) :
    Calls Tryd.prog 7 #[.slice A l.length c] w fun e w' =>
      e = .returned (.slice (some ⟨w.heap.size, 0, none⟩) l.length (l.length + 2)) ∧ w.alloc (.cells (bvs (l ++ [90, 90])).toArray 5) = w' := by
  go_enter Tryd.func7, Tryd.ntmps7
  go_wp2_with fail
  refine (copied_b w A c l 90 hl hb).mono ?_
  rintro e w1 ⟨rfl, rfl⟩
  go_wp2
  go_ret
  exact ⟨rfl, rfl⟩

set_option maxHeartbeats 800000 in
theorem kept_b (w : World) (g : Nat) (A : Option Addr) (c : Nat) (l : List UInt8) (m : UInt8) (hl : l.length ≤ 140737488355328) (hb : Bs w A l) (hg : Blk w g 5 (bvs (l ++ [m, m])).toArray) :
    Calls Tryd.prog 21 #[.slice (some ⟨g, 0, none⟩) l.length (l.length + 2), .slice A l.length c, .int .u8 (m.toNat : Int)] w fun e w' =>
      e = .returned (.bool true) ∧ Below w.heap.size w w' := by
  go_enter Tryd.func21, Tryd.ntmps21
  go_wp2
  go_loopw [8] (fun i wr => ∃ k : Nat, k ≤ l.length + 2 ∧ i = .int .i64 k ∧ Below w.heap.size w wr) (fun i _ => l.length + 2 - (intOf i).toNat)
  case atStart => exact ⟨0, by omega, rfl, Below.refl _ _⟩
  case round =>
    obtain ⟨k, hk, rfl, hbel⟩ := hrel
    by_cases hlt : k < l.length + 2
    · have htc : wr.cell? ⟨g, k, none⟩ = some (bv ((l ++ [m, m])[k]'(by simp; omega))) := by
        rw [(hg.below hbel hg.lt).cell k]
        simp only [List.getElem?_toArray]
        exact bvs_get (by simp; omega)
      by_cases hlt2 : k < l.length
      · obtain ⟨b, off, rfl, hblt, hc⟩ := (hb.below hbel).at_ hlt2
        have hck := hc k hlt2
        rw [List.getElem_append_left hlt2] at htc
        unfold bv at htc
        have hd : decide (k < l.length) = true := by simpa using hlt2
        have hd2 : decide (l.length ≤ k) = false := by simpa using hlt2
        clear hc
        go_wp2
        go_quiet (fail)
        go_wp2
        go_roundw
        case rel => exact ⟨k + 1, by omega, by go_num, below_drewN hbel _⟩
        case measure => simp [intOf]; omega
      · have hm : (l ++ [m, m])[k]'(by simp; omega) = m := by
          rw [List.getElem_append_right (by omega)]
          have : k - l.length = 0 ∨ k - l.length = 1 := by omega
          rcases this with h | h <;> simp [h]
        rw [hm] at htc
        unfold bv at htc
        have hd : decide (k < l.length) = false := by simpa using hlt2
        have hd2 : decide (l.length ≤ k) = true := by simpa using hlt2
        clear hm
        go_wp2
        go_quiet (fail)
        go_wp2
        go_roundw
        case rel => exact ⟨k + 1, by omega, by go_num, below_drewN hbel _⟩
        case measure => simp [intOf]; omega
    · go_wp2
      go_ret
      exact ⟨rfl, hbel⟩

set_option maxHeartbeats 400000 in
theorem leftBytes_any (w : World) (g : Nat) (A : Option Addr) (c : Nat) (l : List UInt8) (hl : l.length ≤ 140737488355328) (hb : Bs w A l) (hg : Blk w g 5 (bvs (l ++ [90, 90])).toArray) :
    Calls Tryd.prog 10 #[.slice (some ⟨g, 0, none⟩) l.length (l.length + 2), .slice A l.length c] w fun e w' =>
      e = .returned (.bool true) ∧ Below w.heap.size w w' := by
  go_enter Tryd.func10, Tryd.ntmps10
  go_wp2_with fail
  refine (kept_b w g A c l 90 hl hb hg).mono ?_
  rintro e w1 ⟨rfl, h1⟩
  go_wp2
  go_ret
  exact ⟨rfl, h1⟩
end Go.Proofs.YtidnhcningkcaaaDoor
