/- What is got at a place is put there as the same bytes; it needs none of those behind: for every input, no condition. -/
import Derived.Test.YtnjihcjijicgpaaFrLives
import Derived.Test.YtnjihcjijicgpaaLift
set_option linter.unusedSimpArgs false
set_option linter.unusedVariables false
namespace Go.Proofs.Ytnjihcjijicgpaa.lawFramesAgain
open Go Go.RowKit Herb Go.ChangeShapes Go.WideShapes Go.ChangeAt

set_option maxRecDepth 100000 in
set_option maxHeartbeats 3200000 in
theorem walk (w : World) (A : Option Addr) (c : Nat) (l : List UInt8) (hl : l.length ≤ 140737488355328) (hb : Bs w A l) (hlc : l.length ≤ c) (hc : c ≤ 140737488355328) (x : Int) (hx1 : -9223372036854775808 ≤ x) (hx2 : x ≤ 9223372036854775807) :
    Calls Try.prog 4 #[.slice A l.length c, .int .i64 x] w fun e w' => e = .returned (.bool true) ∧ Below w.heap.size w w' := by
  obtain ⟨n, hn⟩ : ∃ n, l.length = n := ⟨_, rfl⟩
  rw [hn] at hl hlc ⊢
  replace hn := Lib.hid hn
  by_cases hbig : 20000 < n
  · have d1 : decide ((20000 : Int) < (n : Int)) = true := decide_eq_true (by omega)
    go_enter Try.func4, Try.ntmps4
    go_wp2_with fail
    refine (lives_any w).mono ?_
    rintro _ w1 ⟨rfl, b1⟩
    go_wp2
    go_ret
    exact ⟨rfl, b1⟩
  have d1 : decide ((20000 : Int) < (n : Int)) = false := decide_eq_false (by omega)
  by_cases hbad : x < 0 ∨ (n : Int) < x
  · have pb := get_bad w A n c x hbad
    replace pb := Lib.hid pb
    clear hbad
    go_enter Try.func4, Try.ntmps4
    go_wp2_with fail
    refine pb.out.mono ?_
    rintro _ _ ⟨rfl, rfl⟩
    go_wp2_with fail
    refine (lives_any w).mono ?_
    rintro _ w1 ⟨rfl, b1⟩
    go_wp2
    go_ret
    exact ⟨rfl, b1⟩
  obtain ⟨p, rfl⟩ : ∃ p : Nat, x = (p : Int) := ⟨x.toNat, by omega⟩
  have hp : p ≤ n := by omega
  clear hbad hx1 hx2
  obtain ⟨y, hy⟩ : ∃ y, (Fr.get l p).1 = y := ⟨_, rfl⟩
  obtain ⟨ne, hne⟩ : ∃ ne, (Fr.get l p).2.1 = ne := ⟨_, rfl⟩
  obtain ⟨er, her⟩ : ∃ er, (Fr.get l p).2.2 = er := ⟨_, rfl⟩
  have hres : Fr.get l p = (y, ne, er) := by rw [← hy, ← hne, ← her]
  have pg := get_at w A n c l hn.out (by omega) hlc hb p hp y ne er hres
  replace pg := Lib.hid pg
  by_cases he0 : er = 0
  · subst he0
    obtain ⟨a1, a2⟩ := Fr.again_cut l p y ne hres
    obtain ⟨_, g2, g3, g4, g5⟩ := Fr.get_again l p y ne hres
    rw [hn.out] at g3
    have hlb : (l.take ne).length = ne := by rw [List.length_take, hn.out]; omega
    have kc := run_cut (P := Try.prog) Try.underlying22 u8_size A n c p ne (by omega) (by omega)
    have e1 : decide (ne ≤ p) = false := decide_eq_false (by omega)
    have e2 : decide (n < ne) = false := decide_eq_false (by omega)
    have hpl : (Fr.put p y).length = ne - p := by omega
    have hsub : Fr.sub l p (ne - p) = Fr.put p y := a1.symm
    have hnec : ne ≤ c := by omega
    replace a1 := Lib.hid a1
    replace a2 := Lib.hid a2
    replace hlb := Lib.hid hlb
    replace hpl := Lib.hid hpl
    replace hsub := Lib.hid hsub
    clear g2 hres hy hne her
    go_enter Try.func4, Try.ntmps4
    go_wp2_with fail
    refine pg.out.mono ?_
    rintro _ w1 ⟨A1, k1, cp1, rfl, hk1, hown1, b1⟩
    have hb1 := (Bs.of_own hown1).2
    clear hown1 pg
    replace hk1 := Lib.hid hk1
    have hk1b : k1 ≤ 65536 := by rw [← hk1.out]; exact g5
    go_wp2_with fail
    refine (put_any w1 p (by omega) A1 k1 k1 y hk1.out (by omega) (Nat.le_refl _) hb1).mono ?_
    rintro _ w2 ⟨g2, k2, cp2, rfl, hk2, hown2, b2⟩
    have hb2 := (Bs.of_own hown2).2
    have hkp : k2 = ne - p := by rw [← hk2]; exact hpl.out
    subst hkp
    replace hk2 := Lib.hid hk2
    have hB2 := b1.trans (b2.mono b1.size)
    have hc2 : Bs w2 (cutA A c p) (Fr.put p y) := by
      rw [← hsub.out]
      exact (hb.below hB2).cutA (by rw [hn.out]; omega) (by rw [hn.out]; exact hlc)
    replace hb1 := hb1.below b2
    clear hown2
    go_wp2_with fail
    refine (sameBytes_yes w2 _ _ (ne - p) _ _ (Fr.put p y) hk2.out (by omega) hb2 hc2).mono ?_
    rintro _ w3 ⟨rfl, b3⟩
    have hB3 := hB2.trans (b3.mono hB2.size)
    replace hb1 := hb1.below b3
    clear hb2 hc2 kc
    have pg2 := get_at w3 A ne c (l.take ne) hlb.out (by omega) hnec ((hb.below hB3).take ne) p (by omega) y ne 0 a2.out
    go_wp2_with fail
    refine pg2.mono ?_
    clear pg2
    rintro _ w4 ⟨A4, k4, cp4, rfl, hk4, hown4, b4⟩
    have hkk : k4 = k1 := by rw [← hk4]; exact hk1.out
    subst hkk
    have hb4 := (Bs.of_own hown4).2
    replace hb1 := hb1.below b4
    have hB4 := hB3.trans (b4.mono hB3.size)
    clear hown4 hk4
    go_wp2_with fail
    refine (sameBytes_yes w4 _ _ k4 _ _ y hk1.out (by omega) hb1 hb4).mono ?_
    rintro _ w5 ⟨rfl, b5⟩
    have hB5 := hB4.trans (b5.mono hB4.size)
    go_wp2_with fail
    refine (lives_any w5).mono ?_
    rintro _ w6 ⟨rfl, b6⟩
    go_wp2
    go_ret
    exact ⟨rfl, hB5.trans (b6.mono hB5.size)⟩
  · have hz := Fr.get_err l p (by rw [her]; exact he0)
    rw [hy, hne] at hz
    obtain ⟨rfl, rfl⟩ := hz
    have e1 : ((er : Int) == 0) = false := by simp; omega
    have e2 : ((er : Int) != 0) = true := by simp; omega
    clear hres hy hne her
    go_enter Try.func4, Try.ntmps4
    go_wp2_with fail
    refine pg.out.mono ?_
    rintro _ w1 ⟨A1, k1, cp1, rfl, hk1, hown1, b1⟩
    have hk0 : k1 = 0 := hk1.symm
    subst hk0
    clear hk1 hown1 pg
    go_wp2_with fail
    refine (lives_any w1).mono ?_
    rintro _ w2 ⟨rfl, b2⟩
    go_wp2
    go_ret
    exact ⟨rfl, b1.trans (b2.mono b1.size)⟩

/-! ### from the walk to the statement (by tail.py) -/
set_option maxRecDepth 100000 in
theorem lifted (os : Os) (started : os.Started) (H : Type) (enc : TypeId × Value → H) :
    ReturnsInHanded {} Try.checked os 4 .any (Rows.framesAgainSpec.pre6 enc Try.prog Try.f4 Rows.framesAgainRow.domain false) (Rows.framesAgainSpec.post enc Try.prog Try.f4 false true false false) := by
  refine lifted_of (C := Try.checked) (tb := 4) (n := 2) (by kernel_rfl) started (by kernel_rfl) Try.func4 (by kernel_rfl) (by kernel_rfl) rfl (by kernel_rfl) Try.underlying4 (by kernel_rfl)
    (fun ds hd => by match ds, hd with | [d1, d2], _ => exact ⟨rfl, rfl, rfl⟩)
    (ChangeSpec.witness6 (enc := enc) (C := Try.checked) false ⟨#[], #[.slice none 0 0, .int .i64 0], []⟩ 8 (by kernel_rfl) (by kernel_rfl) (by kernel_rfl) (by kernel_rfl)) ?_
  intro W base args ds before hval hA hsz
  rw [Try.params4] at hA hval hsz
  obtain ⟨v0, vs0, d0, ds0, p0, q0, rfl, rfl, rfl, h0, r0⟩ := trodAll_cons hA
  obtain ⟨v1, vs1, d1, ds1, p1, q1, rfl, rfl, rfl, h1, r1⟩ := trodAll_cons r0
  obtain ⟨rfl, rfl, rfl⟩ := trodAll_nil r1
  obtain ⟨A0, c0, l0, rfl, hb0, hlc0, _, hcap0⟩ := open_bytes Try.underlying22 Try.underlying5 (by kernel_rfl) (by kernel_rfl) (hval 0 _ _ rfl rfl) h0
  have hc0 := hcap0 hsz 0 rfl rfl
  obtain ⟨x1, rfl, hxl1, hxh1⟩ := open_i64 Try.underlying3 (hval 1 _ _ rfl rfl) h1
  exact walk W A0 c0 l0 (by have := reachBytes_lt; omega) hb0 hlc0 (by have := reachBytes_lt; omega) x1 hxl1 hxh1

theorem over : Rows.framesAgainRow.holds Try.pinned (OpenSpec.ofChange Rows.framesAgainSpec) :=
  OpenClaim.holds_of_wide 4 Try.f4 rfl rfl rfl rfl rfl rfl rfl ⟨rfl, rfl, rfl, rfl, rfl⟩ rfl rfl rfl rfl rfl (by kernel_rfl) Try.func4 (by kernel_rfl)
    (of_decide_eq_true (by kernel_rfl)) (by unfold Func.isWrapper; first | (rw [if_pos (by decide +kernel)]; kernel_rfl) | (rw [if_neg (by decide +kernel)]; exact ⟨rfl, rfl⟩))
    (fun os started H enc _ => lifted os started H enc)

theorem proved : Rows.FramesAgainSaid := over
end Go.Proofs.Ytnjihcjijicgpaa.lawFramesAgain
