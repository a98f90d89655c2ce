/- Walks of the statements' helpers of layer 2: rows, lives. -/
import Derived.Test.YtpafkfnkhhbfkaaSumsRef
import Derived.Test.YtpafkfnkhhbfkaaTwinB
import Derived.Lib.SlBytesConst
set_option linter.unusedSimpArgs false
set_option linter.unusedVariables false
namespace Go.Proofs.Ytpafkfnkhhbfkaa
open Go Go.RowKit Herb

set_option maxHeartbeats 400000 in
theorem rows_any (w : World) (m : UInt8) (n : Nat) (hn : n ≤ 1000000) :
    Calls Try.prog 15 #[.int .u8 (m.toNat : Int), .int .i64 (n : Int)] w fun e w' =>
      ∃ A c, e = .returned (.slice A n c) ∧ Bs w' A (List.replicate n m) ∧ Below w.heap.size w w' := by
  obtain ⟨i0, hi, hz0, hz1, hz2⟩ := info_parts (info_u8)
  go_enter Try.func15, Try.ntmps15
  go_wp2
  go_loopw [5, 6] (fun v i wr => ∃ k : Nat, k ≤ n ∧ i = .int .i64 k ∧ wr.ownsRow w.heap.size 5 1 v k (bvs (List.replicate k m)) ∧ Below w.heap.size w wr) (fun _ i _ => n - (intOf i).toNat)
  case atStart => exact ⟨0, by omega, rfl, World.ownsRow_nil _ _ _ _, Below.refl _ _⟩
  case round =>
    obtain ⟨k, hk, rfl, hown, hbel⟩ := hrel
    by_cases hlt : k < n
    · go_wp2_with (at_builtin; refine wpList_append_own _ rfl _ _ 22 rfl w.heap.size 5 i0 (.int .u8 0) 1 1 Try.underlying22 hi hz0 hz1 hz2 rfl (by decide) _ _ _ rfl (hown.alloc _) ⟨wr.heap.size, 0, none⟩ 1 1 [.int .u8 (m.toNat : Int)] rfl rfl ?c1 ?c2 ?c3 ?c4 ?c5 ?_)
      case c1 => exact cell_one_new _ _ _
      case c2 => intro u hu; simp at hu; subst hu; rfl
      case c3 => unfold maxLen; omega
      case c4 => omega
      case c5 => have := hbel.size; simp; omega
      intro v' w1 hown' hgrow _
      have hb1 : Below w.heap.size w w1 := (hbel.alloc hbel.size _).grown hgrow (by have := hbel.size; simp; omega) (fun j hj => (hown.lt j hj).1)
      go_wp2
      go_roundw
      case rel => exact ⟨k + 1, by omega, by go_num, by simpa [List.replicate_succ', bvs_append, bvs, bv] using hown', hb1⟩
      case measure => simp [intOf]; omega
    · obtain rfl : k = n := by omega
      go_wp2
      go_ret
      obtain ⟨A, c, hv⟩ := own_slice hown
      subst hv
      have h1 := (Bs.of_own hown).2
      exact ⟨A, c, rfl, h1, hbel⟩

def txt9 : List UInt8 := [49, 50, 51, 52, 53, 54, 55, 56, 57]
theorem more_nothing : more 0 [] = 0 := by decide +kernel
theorem more_txt9 : more 0 txt9 = 3808858755 := by decide +kernel
theorem more_r0 : more 0 (List.replicate 32 0) = 2324772522 := by decide +kernel
theorem more_r255 : more 0 (List.replicate 32 255) = 1655221059 := by decide +kernel

set_option maxHeartbeats 400000 in
theorem lives_any (w : World) : Calls Try.prog 8 #[] w fun e w' => e = .returned (.bool true) ∧ Below w.heap.size w w' := by
  go_enter Try.func8, Try.ntmps8
  go_wp2_with fail
  refine (of_any w none 0 [] (by simp) (Bs.nil_ _ _)).mono ?_
  rintro e w1 ⟨rfl, hb1⟩
  rw [more_nothing]
  have kc := fun (w : World) (C : Array Value) (n c : Nat) => Lib.run_convert_bytes_const (P := Try.prog) w 22 5 C n c Try.underlying22 Try.underlying5
  have hb9 := Bs.new w1 5 txt9 (9, 9 + 1)
  have hbelow : Below w.heap.size w (w1.alloc (.cells (bvs txt9).toArray 5 (9, 9 + 1))) := hb1.alloc hb1.size _
  go_wp2_with fail
  refine (of_any _ (some ⟨w1.heap.size, 0, none⟩) 9 txt9 (by decide) hb9).mono ?_
  rintro e w2 ⟨rfl, hb2⟩
  have hbelow2 := hbelow.trans (hb2.mono hbelow.size)
  rw [more_txt9]
  clear hb9 hbelow hb1 hb2
  go_wp2_with fail
  refine (rows_any w2 0 32 (by omega)).mono ?_
  rintro e w3 ⟨A3, c3, rfl, hr3, hb3⟩
  go_wp2_with fail
  refine (of_any w3 A3 c3 (List.replicate 32 0) (by simp) hr3).mono ?_
  rintro e w4 ⟨rfl, hb4⟩
  rw [more_r0]
  go_wp2_with fail
  refine (rows_any w4 255 32 (by omega)).mono ?_
  rintro e w5 ⟨A5, c5, rfl, hr5, hb5⟩
  go_wp2_with fail
  refine (of_any w5 A5 c5 (List.replicate 32 255) (by simp) hr5).mono ?_
  rintro e w6 ⟨rfl, hb6⟩
  rw [more_r255]
  go_wp2
  go_ret
  have h3 := hbelow2.trans (hb3.mono hbelow2.size)
  have h4 := h3.trans (hb4.mono h3.size)
  have h5 := h4.trans (hb5.mono h4.size)
  exact ⟨rfl, h5.trans (hb6.mono h5.size)⟩
end Go.Proofs.Ytpafkfnkhhbfkaa
