/- Two sums that are not the same stay so whatever bytes come, and noughts do not change the register of noughts: for every input, no condition. -/
import Derived.Test.YtpafkfnkhhbfkaaSumsLives
import Derived.Test.YtpafkfnkhhbfkaaLift
set_option linter.unusedSimpArgs false
set_option linter.unusedVariables false
namespace Go.Proofs.Ytpafkfnkhhbfkaa.lawSumsNoughts
open Go Go.RowKit Herb Go.ChangeShapes Go.WideShapes Go.ChangeAt

theorem feed_inj {x y : Nat} (hx : x < 4294967296) (hy : y < 4294967296) (l : List UInt8) (h : feed x l = feed y l) : x = y := by
  rw [feed_val, feed_val, rep_xor, rep_xor] at h
  have h1 : rep (8 * l.length) (x ^^^ y) = 0 := by
    rw [rep_xor]
    have h2 : rep (8 * l.length) x = rep (8 * l.length) y := by
      have := congrArg (· ^^^ rep (8 * l.length) (val l)) h
      simpa [Nat.xor_assoc] using this
    rw [h2, Nat.xor_self]
  exact xor_eq_zero (rep_inj0 _ (Nat.xor_lt_two_pow (n := 32) hx hy) h1)
theorem inv32_inj {x y : Nat} (hx : x < 4294967296) (hy : y < 4294967296) (h : inv32 x = inv32 y) : x = y := by
  rw [← inv32_inv32 hx, h, inv32_inv32 hy]
theorem more_inj {x y : Nat} (hx : x < 4294967296) (hy : y < 4294967296) (l : List UInt8) (h : more x l = more y l) : x = y :=
  inv32_inj hx hy (feed_inj (inv32_lt x) (inv32_lt y) l (inv32_inj (feed_lt (inv32_lt x) l) (feed_lt (inv32_lt y) l) h))
theorem more_eq {x y : Nat} (hx : x < 4294967296) (hy : y < 4294967296) (l : List UInt8) :
    (((more x l : Nat) : Int) == ((more y l : Nat) : Int)) = ((x : Int) == (y : Int)) := by
  rw [Bool.eq_iff_iff, beq_iff_eq, beq_iff_eq]
  constructor
  · intro h
    have := more_inj hx hy l (by omega)
    omega
  · intro h
    have : x = y := by omega
    rw [this]
theorem more_ones : more 4294967295 [0] = 4294967295 := by decide +kernel

set_option maxHeartbeats 800000 in
theorem walk (w : World) (x : Nat) (hx : x < 4294967296) (y : Nat) (hy : y < 4294967296) (A : Option Addr) (c : Nat) (l : List UInt8) (hl : l.length ≤ 140737488355328) (hb : Bs w A l) :
    Calls Try.prog 7 #[.int .u32 (x : Int), .int .u32 (y : Int), .slice A l.length c] w fun e w' => e = .returned (.bool true) ∧ Below w.heap.size w w' := by
  go_enter Try.func7, Try.ntmps7
  by_cases hbig : 50000 < l.length
  · go_wp2_with fail
    refine (lives_any w).mono ?_
    rintro e w1 ⟨rfl, hb1⟩
    go_wp2
    go_ret
    exact ⟨rfl, hb1⟩
  · go_wp2_with fail
    refine (more_any w x hx A c l (by omega) hb).mono ?_
    rintro e w1 ⟨rfl, hb1⟩
    go_wp2_with fail
    refine (more_any w1 y hy A c l (by omega) (hb.below hb1)).mono ?_
    rintro e w2 ⟨rfl, hb2⟩
    have b2 := hb1.trans (hb2.mono hb1.size)
    have hme := more_eq hx hy l
    by_cases hxy : ((x : Int) == (y : Int)) = true
    all_goals
      try simp only [Bool.not_eq_true] at hxy
      rw [hxy] at hme
      have h0 := Bs.new w2 5 [0] (0, 0)
      have b3 : Below w.heap.size w (w2.alloc (.cells (bvs [0]).toArray 5 (0, 0))) := b2.alloc b2.size _
      go_wp2_with fail
      refine (more_any _ 4294967295 (by omega) (some ⟨w2.heap.size, 0, none⟩) 1 [0] (by simp) h0).mono ?_
      rintro e w3 ⟨rfl, hb3⟩
      have b4 := b3.trans (hb3.mono b3.size)
      rw [more_ones]
      clear h0 b3 hb3
      go_wp2_with fail
      refine (lives_any w3).mono ?_
      rintro e w5 ⟨rfl, hb5⟩
      have b5 := b4.trans (hb5.mono b4.size)
      go_wp2
      go_ret
      exact ⟨rfl, b5⟩

/-! ### from the walk to the statement (by tail.py) -/
set_option maxRecDepth 100000 in
theorem lifted (os : Os) (started : os.Started) (H : Type) (enc : TypeId × Value → H) :
    ReturnsInHanded {} Try.checked os 7 .any (Rows.sumsNoughtsSpec.pre6 enc Try.prog Try.f7 Rows.sumsNoughtsRow.domain false) (Rows.sumsNoughtsSpec.post enc Try.prog Try.f7 false true false false) := by
  refine lifted_of (C := Try.checked) (tb := 4) (n := 3) (by kernel_rfl) started (by kernel_rfl) Try.func7 (by kernel_rfl) (by kernel_rfl) rfl (by kernel_rfl) Try.underlying4 (by kernel_rfl)
    (fun ds hd => by match ds, hd with | [d1, d2, d3], _ => exact ⟨rfl, rfl, rfl⟩)
    (ChangeSpec.witness6 (enc := enc) (C := Try.checked) false ⟨#[], #[.int .u32 0, .int .u32 0, .slice none 0 0], []⟩ 8 (by kernel_rfl) (by kernel_rfl) (by kernel_rfl) (by kernel_rfl)) ?_
  intro W base args ds before hval hA hsz
  rw [Try.params7] at hA hval hsz
  obtain ⟨v0, vs0, d0, ds0, p0, q0, rfl, rfl, rfl, h0, r0⟩ := trodAll_cons hA
  obtain ⟨v1, vs1, d1, ds1, p1, q1, rfl, rfl, rfl, h1, r1⟩ := trodAll_cons r0
  obtain ⟨v2, vs2, d2, ds2, p2, q2, rfl, rfl, rfl, h2, r2⟩ := trodAll_cons r1
  obtain ⟨rfl, rfl, rfl⟩ := trodAll_nil r2
  obtain ⟨x0, rfl, hx0⟩ := open_u32 Try.underlying23 (hval 0 _ _ rfl rfl) h0
  obtain ⟨x1, rfl, hx1⟩ := open_u32 Try.underlying23 (hval 1 _ _ rfl rfl) h1
  obtain ⟨A2, c2, l2, rfl, hb2, hlc2, _, hcap2⟩ := open_bytes Try.underlying22 Try.underlying5 (by kernel_rfl) (by kernel_rfl) (hval 2 _ _ rfl rfl) h2
  have hc2 := hcap2 hsz 2 rfl rfl
  exact walk W x0 hx0 x1 hx1 A2 c2 l2 (by have := reachBytes_lt; omega) hb2

theorem over : Rows.sumsNoughtsRow.holds Try.pinned (OpenSpec.ofChange Rows.sumsNoughtsSpec) :=
  OpenClaim.holds_of_wide 7 Try.f7 rfl rfl rfl rfl rfl rfl rfl ⟨rfl, rfl, rfl, rfl, rfl⟩ rfl rfl rfl rfl rfl (by kernel_rfl) Try.func7 (by kernel_rfl)
    (of_decide_eq_true (by kernel_rfl)) (by unfold Func.isWrapper; first | (rw [if_pos (by decide +kernel)]; kernel_rfl) | (rw [if_neg (by decide +kernel)]; exact ⟨rfl, rfl⟩))
    (fun os started H enc _ => lifted os started H enc)

theorem proved : Rows.SumsNoughtsSaid := over
end Go.Proofs.Ytpafkfnkhhbfkaa.lawSumsNoughts
