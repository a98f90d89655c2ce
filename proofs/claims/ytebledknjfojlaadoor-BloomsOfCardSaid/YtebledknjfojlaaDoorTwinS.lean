/- Walks of what all layers' statements use, at texts: copied, TwinTexts, kept, LeftTexts. -/
import Derived.Test.YtebledknjfojlaaDoorRows
import Derived.Test.YtebledknjfojlaaDoorBase
import Derived.Test.YtebledknjfojlaaDoorStrs
import Derived.Handy
import Derived.Lib.Hide
import Derived.Deep.QuietTactic
import Derived.BigQuiet
set_option linter.unusedSimpArgs false
set_option linter.unusedVariables false
namespace Go.Proofs.YtebledknjfojlaaDoor
open Go Go.RowKit Herb

theorem info_str : (Tryd.prog.info? 9).map (fun i => (i.zero, i.size, i.bytes)) = some (some (.string ByteArray.empty), 1, 16) := by kernel_rfl

/-- The copy while it is made: k of its cells are laid. -/
def midS (l : List ByteArray) (m : ByteArray) (k : Nat) : Array Value := fillA (svs (l ++ [m, m])) (Value.string ByteArray.empty) k
theorem midS_len (l : List ByteArray) (m : ByteArray) : (svs (l ++ [m, m])).length = l.length + 2 := by rw [svs_length]; simp
theorem midS_zero (l : List ByteArray) (m : ByteArray) : (List.replicate (l.length + 2) (Value.string ByteArray.empty)).toArray = midS l m 0 := by rw [midS, fillA_zero, midS_len]
theorem midS_end (l : List ByteArray) (m : ByteArray) : midS l m (l.length + 2) = (svs (l ++ [m, m])).toArray := fillA_end _ _ _ (by rw [midS_len]; omega)
theorem midS_size (l : List ByteArray) (m : ByteArray) (k : Nat) (h : k ≤ l.length + 2) : (midS l m k).size = l.length + 2 := by rw [midS, fillA_size _ _ _ (by rw [midS_len]; omega), midS_len]
theorem midS_mark (l : List ByteArray) (m : ByteArray) (k : Nat) (h1 : l.length ≤ k) (h : k < l.length + 2) : (midS l m k).setIfInBounds k (.string m) = midS l m (k + 1) := by
  refine fillA_step _ _ _ (by rw [midS_len]; omega) _ ?_
  rw [svs_get (by simp; omega), List.getElem_append_right h1]
  have : k - l.length = 0 ∨ k - l.length = 1 := by omega
  rcases this with h | h <;> simp [h]
theorem midS_both (l : List ByteArray) (m : ByteArray) (k : Nat) (h : k < l.length) : ((midS l m k).setIfInBounds k (.string m)).setIfInBounds k (.string l[k]) = midS l m (k + 1) := by
  rw [set_set]
  refine fillA_step _ _ _ (by rw [midS_len]; omega) _ ?_
  rw [svs_get (by simp; omega), List.getElem_append_left h]

set_option maxHeartbeats 800000 in
theorem copied_s (w : World) (A : Option Addr) (c : Nat) (l : List ByteArray) (m : ByteArray) (hl : l.length ≤ 1000000) (hb : Ss w A l) :
    Calls Tryd.prog 14 #[.slice A l.length c, .string m] w fun e w' =>
      e = .returned (.slice (some ⟨w.heap.size, 0, none⟩) l.length (l.length + 2)) ∧ w.alloc (.cells (svs (l ++ [m, m])).toArray 9) = w' := by
  have hmk := fun W => make_one (P := Tryd.prog) Tryd.underlying22 info_str rfl (l.length + 2) ((l.length : Int) + 2) (by omega) (by omega) (by omega) W
  rw [midS_zero l m] at hmk
  go_enter Tryd.func14, Tryd.ntmps14
  go_wp2
  go_loopw [6] (fun i wr => ∃ k : Nat, k ≤ l.length + 2 ∧ i = .int .i64 k ∧ wr = w.alloc (.cells (midS l m k) 9)) (fun i _ => l.length + 2 - (intOf i).toNat)
  case atStart => exact ⟨0, by omega, rfl, rfl⟩
  case round =>
    obtain ⟨k, hk, rfl, rfl⟩ := hrel
    clear hmk
    have hsz := midS_size l m k hk
    by_cases hlt : k < l.length + 2
    · obtain ⟨v, hv⟩ := some_of_lt (midS l m k) k (by omega)
      by_cases hlt2 : k < l.length
      · obtain ⟨b, off, rfl, hblt, hc⟩ := (hb.alloc (.cells ((midS l m k).setIfInBounds k (.string m)) 9)).at_ hlt2
        have hck := hc
        have hbo := midS_both l m k hlt2
        clear hc
        go_wp2
        go_roundw
        case rel => exact ⟨k + 1, by omega, by go_num, rfl⟩
        case measure => simp [intOf]; omega
      · have hbo := midS_mark l m k (by omega) hlt
        go_wp2
        go_roundw
        case rel => exact ⟨k + 1, by omega, by go_num, rfl⟩
        case measure => simp [intOf]; omega
    · obtain rfl : k = l.length + 2 := by omega
      go_wp2
      go_ret
      exact ⟨rfl, by rw [midS_end]⟩

set_option maxHeartbeats 400000 in
theorem twinTexts_any (w : World) (A : Option Addr) (c : Nat) (l : List ByteArray) (hl : l.length ≤ 1000000) (hb : Ss w A l) :
    Calls Tryd.prog 6 #[.slice A l.length c] w fun e w' =>
      e = .returned (.slice (some ⟨w.heap.size, 0, none⟩) l.length (l.length + 2)) ∧ w.alloc (.cells (svs (l ++ [⟨#[63, 33]⟩, ⟨#[63, 33]⟩])).toArray 9) = w' := by
  go_enter Tryd.func6, Tryd.ntmps6
  go_wp2_with fail
  refine (copied_s w A c l ⟨#[63, 33]⟩ hl hb).mono ?_
  rintro e w1 ⟨rfl, rfl⟩
  go_wp2
  go_ret
  exact ⟨rfl, rfl⟩

set_option maxHeartbeats 800000 in
theorem kept_s (w : World) (g : Nat) (A : Option Addr) (c : Nat) (l : List ByteArray) (m : ByteArray) (hl : l.length ≤ 1000000) (hb : Ss w A l) (hg : Blk w g 9 (svs (l ++ [m, m])).toArray) :
    Calls Tryd.prog 18 #[.slice (some ⟨g, 0, none⟩) l.length (l.length + 2), .slice A l.length c, .string m] w fun e w' =>
      e = .returned (.bool true) ∧ Below w.heap.size w w' := by
  go_enter Tryd.func18, Tryd.ntmps18
  go_wp2
  go_loopw [8] (fun i wr => ∃ k : Nat, k ≤ l.length + 2 ∧ i = .int .i64 k ∧ Below w.heap.size w wr) (fun i _ => l.length + 2 - (intOf i).toNat)
  case atStart => exact ⟨0, by omega, rfl, Below.refl _ _⟩
  case round =>
    obtain ⟨k, hk, rfl, hbel⟩ := hrel
    by_cases hlt : k < l.length + 2
    · have htc : wr.cell? ⟨g, k, none⟩ = some (Value.string ((l ++ [m, m])[k]'(by simp; omega))) := by
        rw [(hg.below hbel hg.lt).cell k]
        simp only [List.getElem?_toArray]
        exact svs_get (by simp; omega)
      by_cases hlt2 : k < l.length
      · obtain ⟨b, off, rfl, hblt, hc⟩ := (hb.below hbel).at_ hlt2
        have hck := hc
        rw [List.getElem_append_left hlt2] at htc
        have hd : decide (k < l.length) = true := by simpa using hlt2
        have hd2 : decide (l.length ≤ k) = false := by simpa using hlt2
        clear hc
        go_wp2
        go_quiet (fail)
        go_wp2
        go_roundw
        case rel => exact ⟨k + 1, by omega, by go_num, below_drewN hbel _⟩
        case measure => simp [intOf]; omega
      · have hm : (l ++ [m, m])[k]'(by simp; omega) = m := by
          rw [List.getElem_append_right (by omega)]
          have : k - l.length = 0 ∨ k - l.length = 1 := by omega
          rcases this with h | h <;> simp [h]
        rw [hm] at htc
        have hd : decide (k < l.length) = false := by simpa using hlt2
        have hd2 : decide (l.length ≤ k) = true := by simpa using hlt2
        clear hm
        go_wp2
        go_quiet (fail)
        go_wp2
        go_roundw
        case rel => exact ⟨k + 1, by omega, by go_num, below_drewN hbel _⟩
        case measure => simp [intOf]; omega
    · go_wp2
      go_ret
      exact ⟨rfl, hbel⟩

set_option maxHeartbeats 400000 in
theorem leftTexts_any (w : World) (g : Nat) (A : Option Addr) (c : Nat) (l : List ByteArray) (hl : l.length ≤ 1000000) (hb : Ss w A l) (hg : Blk w g 9 (svs (l ++ [⟨#[63, 33]⟩, ⟨#[63, 33]⟩])).toArray) :
    Calls Tryd.prog 10 #[.slice (some ⟨g, 0, none⟩) l.length (l.length + 2), .slice A l.length c] w fun e w' =>
      e = .returned (.bool true) ∧ Below w.heap.size w w' := by
  go_enter Tryd.func10, Tryd.ntmps10
  go_wp2_with fail
  refine (kept_s w g A c l ⟨#[63, 33]⟩ hl hb hg).mono ?_
  rintro e w1 ⟨rfl, h1⟩
  go_wp2
  go_ret
  exact ⟨rfl, h1⟩
end Go.Proofs.YtebledknjfojlaaDoor
