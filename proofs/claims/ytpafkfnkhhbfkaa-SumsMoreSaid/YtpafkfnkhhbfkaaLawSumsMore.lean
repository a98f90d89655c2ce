/- The sum of two texts one behind the other is More of the first one's sum and the second one; of nothing more it stays: for every input, no condition. -/
import Derived.Test.YtpafkfnkhhbfkaaSumsLives
import Derived.Test.YtpafkfnkhhbfkaaLift
import Derived.Test.YtpafkfnkhhbfkaaApp
set_option linter.unusedSimpArgs false
set_option linter.unusedVariables false
namespace Go.Proofs.Ytpafkfnkhhbfkaa.lawSumsMore
open Go Go.RowKit Herb Go.ChangeShapes Go.WideShapes Go.ChangeAt

set_option maxHeartbeats 1600000 in
theorem walk (w : World) (A : Option Addr) (c : Nat) (l : List UInt8) (hl : l.length ≤ 140737488355328) (hb : Bs w A l) (A' : Option Addr) (c' : Nat) (l' : List UInt8) (hl' : l'.length ≤ 140737488355328) (hb' : Bs w A' l') (s : Nat) (hs : s < 4294967296) :
    Calls Try.prog 4 #[.slice A l.length c, .slice A' l'.length c', .int .u32 (s : Int)] w fun e w' => e = .returned (.bool true) ∧ Below w.heap.size w w' := by
  go_enter Try.func4, Try.ntmps4
  by_cases hbig : 100000 < l.length + l'.length
  · have hbig' : (100000 : Int) < (l.length : Int) + (l'.length : Int) := by omega
    go_wp2_with fail
    refine (lives_any w).mono ?_
    rintro e w1 ⟨rfl, hb1⟩
    go_wp2
    go_ret
    exact ⟨rfl, hb1⟩
  · have hbig' : ¬ (100000 : Int) < (l.length : Int) + (l'.length : Int) := by omega
    go_wp2_with (first | (at_builtin; refine wpList_app w rfl (.const (.slice none 0 0)) (.tmp 15) rfl Try.underlying22 info_u8 rfl (by omega) (World.ownsRow_nil w w.heap.size _ _) rfl A l.length c hb rfl (bvs_one l) (by unfold maxLen; omega) (by omega) (Nat.le_refl _) ?_; intro v1 w1 hown1 hgrow1 hlie1; rw [Nat.zero_add, List.nil_append] at hown1; have b1 : Below w.heap.size w w1 := (Below.refl _ _).grown hgrow1 (Nat.le_refl _) (fun j hj => by simp [Value.ownBlock] at hj)) | (at_builtin; refine wpList_app w1 rfl (.tmp 16) (.tmp 17) rfl Try.underlying22 info_u8 rfl (by omega) hown1 rfl A' l'.length c' (hb'.below b1) rfl (bvs_one l') (by unfold maxLen; omega) (by omega) b1.size ?_; intro v2 w2 hown2 hgrow2 hlie2; have b2 := below_app b1 hown1 (Nat.le_refl _) b1.size hgrow2; rw [← bvs_append] at hown2; clear hgrow1 hgrow2 hlie1 hlie2) | fail)
    obtain ⟨A2, c2, hv2⟩ := own_slice hown2
    subst hv2
    have hm0 := more_append 0 l l'
    have hms := more_append s l l'
    have hl2 : l.length + l'.length = (l ++ l').length := by simp
    have hb2 : Bs w2 A2 (l ++ l') := (Bs.of_own hown2).2
    have hlb : (l ++ l').length ≤ 100000 := by simp; omega
    clear hown1 hown2
    rw [hl2]
    generalize l ++ l' = ll at *
    have HM0 := Lib.hid hm0
    have HMs := Lib.hid hms
    clear hl2 hm0 hms
    refine (of_any w2 A2 c2 ll (by omega) hb2).mono ?_
    rintro e w3 ⟨rfl, hb3⟩
    have b3 := b2.trans (hb3.mono b2.size)
    go_wp2_with fail
    refine (of_any w3 A c l (by omega) (hb.below b3)).mono ?_
    rintro e w4 ⟨rfl, hb4⟩
    have b4 := b3.trans (hb4.mono b3.size)
    go_wp2_with fail
    refine (more_any w4 (more 0 l) (more_lt _ _) A' c' l' (by omega) (hb'.below b4)).mono ?_
    rintro e w5 ⟨rfl, hb5⟩
    have b5 := b4.trans (hb5.mono b4.size)
    rw [← HM0.out]
    go_wp2_with fail
    refine (more_any w5 s hs A2 c2 ll (by omega) (hb2.below (hb3.trans ((hb4.mono hb3.size).trans (hb5.mono (Nat.le_trans hb3.size hb4.size)))))).mono ?_
    rintro e w6 ⟨rfl, hb6⟩
    have b6 := b5.trans (hb6.mono b5.size)
    go_wp2_with fail
    refine (more_any w6 s hs A c l (by omega) (hb.below b6)).mono ?_
    rintro e w7 ⟨rfl, hb7⟩
    have b7 := b6.trans (hb7.mono b6.size)
    go_wp2_with fail
    refine (more_any w7 (more s l) (more_lt _ _) A' c' l' (by omega) (hb'.below b7)).mono ?_
    rintro e w8 ⟨rfl, hb8⟩
    have b8 := b7.trans (hb8.mono b7.size)
    rw [← HMs.out]
    go_wp2_with fail
    refine (more_any w8 s hs none 0 [] (by simp) (Bs.nil_ _ _)).mono ?_
    rintro e w9 ⟨rfl, hb9⟩
    have b9 := b8.trans (hb9.mono b8.size)
    rw [more_nil hs]
    go_wp2_with fail
    refine (lives_any w9).mono ?_
    rintro e w10 ⟨rfl, hb10⟩
    go_wp2
    go_ret
    exact ⟨rfl, b9.trans (hb10.mono b9.size)⟩

/-! ### from the walk to the statement (by tail.py) -/
set_option maxRecDepth 100000 in
theorem lifted (os : Os) (started : os.Started) (H : Type) (enc : TypeId × Value → H) :
    ReturnsInHanded {} Try.checked os 4 .any (Rows.sumsMoreSpec.pre6 enc Try.prog Try.f4 Rows.sumsMoreRow.domain false) (Rows.sumsMoreSpec.post enc Try.prog Try.f4 false true false false) := by
  refine lifted_of (C := Try.checked) (tb := 4) (n := 3) (by kernel_rfl) started (by kernel_rfl) Try.func4 (by kernel_rfl) (by kernel_rfl) rfl (by kernel_rfl) Try.underlying4 (by kernel_rfl)
    (fun ds hd => by match ds, hd with | [d1, d2, d3], _ => exact ⟨rfl, rfl, rfl⟩)
    (ChangeSpec.witness6 (enc := enc) (C := Try.checked) false ⟨#[], #[.slice none 0 0, .slice none 0 0, .int .u32 0], []⟩ 8 (by kernel_rfl) (by kernel_rfl) (by kernel_rfl) (by kernel_rfl)) ?_
  intro W base args ds before hval hA hsz
  rw [Try.params4] at hA hval hsz
  obtain ⟨v0, vs0, d0, ds0, p0, q0, rfl, rfl, rfl, h0, r0⟩ := trodAll_cons hA
  obtain ⟨v1, vs1, d1, ds1, p1, q1, rfl, rfl, rfl, h1, r1⟩ := trodAll_cons r0
  obtain ⟨v2, vs2, d2, ds2, p2, q2, rfl, rfl, rfl, h2, r2⟩ := trodAll_cons r1
  obtain ⟨rfl, rfl, rfl⟩ := trodAll_nil r2
  obtain ⟨A0, c0, l0, rfl, hb0, hlc0, _, hcap0⟩ := open_bytes Try.underlying22 Try.underlying5 (by kernel_rfl) (by kernel_rfl) (hval 0 _ _ rfl rfl) h0
  have hc0 := hcap0 hsz 0 rfl rfl
  obtain ⟨A1, c1, l1, rfl, hb1, hlc1, _, hcap1⟩ := open_bytes Try.underlying22 Try.underlying5 (by kernel_rfl) (by kernel_rfl) (hval 1 _ _ rfl rfl) h1
  have hc1 := hcap1 hsz 1 rfl rfl
  obtain ⟨x2, rfl, hx2⟩ := open_u32 Try.underlying23 (hval 2 _ _ rfl rfl) h2
  exact walk W A0 c0 l0 (by have := reachBytes_lt; omega) hb0 A1 c1 l1 (by have := reachBytes_lt; omega) hb1 x2 hx2

theorem over : Rows.sumsMoreRow.holds Try.pinned (OpenSpec.ofChange Rows.sumsMoreSpec) :=
  OpenClaim.holds_of_wide 4 Try.f4 rfl rfl rfl rfl rfl rfl rfl ⟨rfl, rfl, rfl, rfl, rfl⟩ rfl rfl rfl rfl rfl (by kernel_rfl) Try.func4 (by kernel_rfl)
    (of_decide_eq_true (by kernel_rfl)) (by unfold Func.isWrapper; first | (rw [if_pos (by decide +kernel)]; kernel_rfl) | (rw [if_neg (by decide +kernel)]; exact ⟨rfl, rfl⟩))
    (fun os started H enc _ => lifted os started H enc)

theorem proved : Rows.SumsMoreSaid := over
end Go.Proofs.Ytpafkfnkhhbfkaa.lawSumsMore
