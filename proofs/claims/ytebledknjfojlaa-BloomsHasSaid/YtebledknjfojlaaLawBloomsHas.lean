/- Whether any bytes, as a filter, have any key is the chapter's; the bytes stay as they were: for every input, no condition. -/
import Derived.Test.YtebledknjfojlaaBloomLives
import Derived.Test.YtebledknjfojlaaRefHas
import Derived.Test.YtebledknjfojlaaLift
set_option linter.unusedSimpArgs false
set_option linter.unusedVariables false
namespace Go.Proofs.Ytebledknjfojlaa.lawBloomsHas
open Go Go.RowKit Herb Go.ChangeShapes Go.WideShapes Go.ChangeAt

set_option maxHeartbeats 1600000 in
theorem walk (w : World) (A : Option Addr) (c : Nat) (l : List UInt8) (hl : l.length ≤ 140737488355328) (hb : Bs w A l) (s : ByteArray) (hs : s.size ≤ 140737488355328) :
    Calls Try.prog 3 #[.slice A l.length c, .string s] w fun e w' => e = .returned (.bool true) ∧ Below w.heap.size w w' := by
  obtain ⟨n, hn⟩ : ∃ n, s.size = n := ⟨_, rfl⟩
  have hn' : n ≤ 140737488355328 := by omega
  go_enter Try.func3, Try.ntmps3
  by_cases hbig : 100000 < l.length + n
  · have hbig' : (100000 : Int) < (l.length : Int) + (n : Int) := by omega
    go_wp2_with fail
    refine (lives_any w).mono ?_
    rintro e w1 ⟨rfl, hb1⟩
    go_wp2
    go_ret
    exact ⟨rfl, hb1⟩
  · have hbig' : (l.length : Int) + (n : Int) ≤ 100000 := by omega
    have hs' : s.size = n := hn
    replace hs' := Lib.hid hs'
    go_wp2_with fail
    refine (twinBytes_any w A c l (by omega) hb).mono ?_
    rintro e w1 ⟨rfl, hw1⟩
    have hg : Blk w1 w.heap.size 5 (bvs (l ++ [90, 90])).toArray := by rw [← hw1]; exact Blk.new _ _ _
    have hb1 : Below w.heap.size w w1 := by rw [← hw1]; exact (Below.refl _ _).alloc (Nat.le_refl _) _
    have ht : Bs w1 (some ⟨w.heap.size, 0, none⟩) l := Bs.twin hg
    clear hw1
    go_wp2_with fail
    refine (has_any w1 _ _ _ l rfl (by omega) ht s s.data.toList rfl n hs'.out (by omega)).mono ?_
    rintro e w2 ⟨rfl, hb2⟩
    have b2 := hb1.trans (hb2.mono hb1.size)
    go_wp2_with fail
    refine (refHas_any w2 _ _ _ l rfl (by omega) (hb.below b2) s s.data.toList rfl n hs'.out (by omega)).mono ?_
    rintro e w3 ⟨rfl, hb3⟩
    have b3 := b2.trans (hb3.mono b2.size)
    have hg3 := hg.below (hb2.trans (hb3.mono hb2.size)) hg.lt
    generalize hasP l s.data.toList = H
    go_wp2_with fail
    refine (leftBytes_any w3 w.heap.size A c l (by omega) (hb.below b3) hg3).mono ?_
    rintro e w4 ⟨rfl, hb4⟩
    have b4 := b3.trans (hb4.mono b3.size)
    go_wp2_with fail
    refine (lives_any w4).mono ?_
    rintro e w5 ⟨rfl, hb5⟩
    have b5 := b4.trans (hb5.mono b4.size)
    go_wp2
    go_ret
    exact ⟨rfl, b5⟩

/-! ### from the walk to the statement (by tail.py) -/
set_option maxRecDepth 100000 in
theorem lifted (os : Os) (started : os.Started) (H : Type) (enc : TypeId × Value → H) :
    ReturnsInHanded {} Try.checked os 3 .any (Rows.bloomsHasSpec.pre6 enc Try.prog Try.f3 Rows.bloomsHasRow.domain false) (Rows.bloomsHasSpec.post enc Try.prog Try.f3 false true false false) := by
  refine lifted_of (C := Try.checked) (tb := 4) (n := 2) (by kernel_rfl) started (by kernel_rfl) Try.func3 (by kernel_rfl) (by kernel_rfl) rfl (by kernel_rfl) Try.underlying4 (by kernel_rfl)
    (fun ds hd => by match ds, hd with | [d1, d2], _ => exact ⟨rfl, rfl, rfl⟩)
    (ChangeSpec.witness6 (enc := enc) (C := Try.checked) false ⟨#[], #[.slice none 0 0, .string ByteArray.empty], []⟩ 8 (by kernel_rfl) (by kernel_rfl) (by kernel_rfl) (by kernel_rfl)) ?_
  intro W base args ds before hval hA hsz
  rw [Try.params3] at hA hval hsz
  obtain ⟨v0, vs0, d0, ds0, p0, q0, rfl, rfl, rfl, h0, r0⟩ := trodAll_cons hA
  obtain ⟨v1, vs1, d1, ds1, p1, q1, rfl, rfl, rfl, h1, r1⟩ := trodAll_cons r0
  obtain ⟨rfl, rfl, rfl⟩ := trodAll_nil r1
  obtain ⟨A0, c0, l0, rfl, hb0, hlc0, _, hcap0⟩ := open_bytes Try.underlying22 Try.underlying5 (by kernel_rfl) (by kernel_rfl) (hval 0 _ _ rfl rfl) h0
  have hc0 := hcap0 hsz 0 rfl rfl
  obtain ⟨s1, rfl, hcap1⟩ := open_str Try.underlying9 (hval 1 _ _ rfl rfl) h1
  have hs1 := hcap1 hsz 1 rfl rfl
  exact walk W A0 c0 l0 (by have := reachBytes_lt; omega) hb0 s1 (by have := reachBytes_lt; omega)

theorem over : Rows.bloomsHasRow.holds Try.pinned (OpenSpec.ofChange Rows.bloomsHasSpec) :=
  OpenClaim.holds_of_wide 3 Try.f3 rfl rfl rfl rfl rfl rfl rfl ⟨rfl, rfl, rfl, rfl, rfl⟩ rfl rfl rfl rfl rfl (by kernel_rfl) Try.func3 (by kernel_rfl)
    (of_decide_eq_true (by kernel_rfl)) (by unfold Func.isWrapper; first | (rw [if_pos (by decide +kernel)]; kernel_rfl) | (rw [if_neg (by decide +kernel)]; exact ⟨rfl, rfl⟩))
    (fun os started H enc _ => lifted os started H enc)

theorem proved : Rows.BloomsHasSaid := over
end Go.Proofs.Ytebledknjfojlaa.lawBloomsHas
