/- Of what bytes begin with the same bytes are put: there is one way for each number, and for each text: for every input, no condition. -/
import Derived.Test.YtajlghnbjomnnaaVarLives
import Derived.Test.YtajlghnbjomnnaaSameB
import Derived.Test.YtajlghnbjomnnaaLift
import Derived.Deep.RegionHeld3
set_option linter.unusedSimpArgs false
set_option linter.unusedVariables false
namespace Go.Proofs.Ytajlghnbjomnnaa.lawVarintsAgain
open Go Go.RowKit Herb Go.ChangeShapes Go.WideShapes Go.ChangeAt

theorem front {w : World} {A : Option Addr} {l X : List UInt8} (h : Bs w A (l ++ X)) : Bs w A l := by
  have := h.take l.length
  rwa [List.take_left] at this

set_option maxRecDepth 100000 in
set_option maxHeartbeats 3200000 in
theorem walk (w : World) (A : Option Addr) (c : Nat) (l : List UInt8) (hl : l.length ≤ 140737488355328) (hb : Bs w A l) (hlc : l.length ≤ c) (hc : c ≤ 140737488355328) :
    Calls Try.prog 5 #[.slice A l.length c] w fun e w' => e = .returned (.bool true) ∧ Below w.heap.size w w' := by
  obtain ⟨n, hln⟩ : ∃ n, l.length = n := ⟨_, rfl⟩
  rw [hln] at hl hlc ⊢
  replace hln := Lib.hid hln
  go_enter Try.func5, Try.ntmps5
  by_cases hbig : 100000 < n
  · go_wp2_with fail
    refine (lives_any w).mono ?_
    rintro e w1 ⟨rfl, hb1⟩
    go_wp2
    go_ret
    exact ⟨rfl, hb1⟩
  · have pg := get_any w A n c l hln.out (by omega) hb
    have pt := fun w1 (b : Below w.heap.size w w1) => getText_any w1 A n c l hln.out (by omega) (by omega) (hb.below b)
    rcases decT_cases l with ⟨s, hT, hs, hD, rest, hlr⟩ | ⟨hT, hD⟩ | ⟨hT, hD⟩
    · obtain ⟨m, hm⟩ : ∃ m, s.length = m := ⟨_, rfl⟩
      obtain ⟨t, ht⟩ : ∃ t, (enc m).length = t := ⟨_, rfl⟩
      have ht1 : 1 ≤ t ∧ t ≤ 10 := by rw [← ht]; exact ⟨enc_pos m, enc_len64 (by omega)⟩
      have htn : t + m ≤ n := by
        have := hln.out
        rw [hlr, List.length_append, List.length_append, hm, ht] at this
        omega
      rw [hm] at hT hD hlr hs
      rw [ht] at hT hD
      rw [hD] at pg
      have hr1 : Bs w A (enc m) := by rw [hlr, List.append_assoc] at hb; exact front hb
      have hr2 : Bs w A (enc m ++ s) := by rw [hlr] at hb; exact front hb
      have p1 := fun w1 => put_at w1 none 0 0 [] rfl (by omega) (by omega) (Bs.nil_ _ _) m (by omega) (enc m) rfl t ht
      have p2 := fun w1 => putText_at w1 none 0 0 [] rfl (by omega) ⟨s.toArray⟩ (by show 0 + s.toArray.size ≤ _; rw [List.size_toArray]; omega) (Bs.nil_ _ _) (enc m ++ s) (by rw [← hm]; rfl) (t + m) (by rw [List.length_append, hm, ht])
      have hss : (ByteArray.mk s.toArray).size = m := by rw [← hm]; rfl
      have d1 : decide ((t : Int) < 1) = false := decide_eq_false (by omega)
      have d2 : decide ((10 : Int) < (t : Int)) = false := decide_eq_false (by omega)
      have htc : t ≤ c := by omega
      have htc2 : t + m ≤ c := by omega
      have htc2' : (t : Int) + (m : Int) ≤ (c : Int) := by omega
      have d3 : decide (n < t) = false := decide_eq_false (by omega)
      replace hm := Lib.hid hm
      replace ht := Lib.hid ht
      replace hT := Lib.hid hT
      replace p1 := Lib.hid p1
      replace p2 := Lib.hid p2
      clear hD hlr
      go_wp2_with fail
      refine pg.mono ?_
      clear pg
      rintro _ _ ⟨rfl, rfl⟩
      go_wp2_with fail
      go_region_held3 (fun w' => Below w.heap.size w w')
        (first | exact (Below.refl _ _).drew | exact b2 | exact c3)
        (first
        | (go_at_call 15; refine (p1.out _).mono ?_; rintro _ w2 ⟨g2, rfl, hs2, b2⟩; replace b2 : Below w.heap.size w w2 := (Below.refl w.heap.size w).drew.trans b2)
        | (go_at_call 17; refine (sameBytes_yes _ _ _ t _ _ (enc m) ht.out (by omega) hs2 (hr1.below b2)).mono ?_; rintro _ w3 ⟨rfl, b3⟩; have c3 := b2.trans (b3.mono b2.size)))
      clear p1
      have pt3 := pt w3 c3
      rw [hT.out] at pt3
      have hms : IntKind.u64.wrap (m : Int) = (m : Int) := by rw [IntKind.wrap_u64]; omega
      go_wp2_with fail
      refine pt3.mono ?_
      clear pt3 pt
      rintro _ _ ⟨rfl, rfl⟩
      have hm' := hm.out
      have hw2 : IntKind.i64.wrap ((t : Int) + (m : Int)) = (t : Int) + (m : Int) := by
        rw [IntKind.wrap_i64]; omega
      have d0 : (0 : Int) ≤ (t : Int) + (m : Int) := by omega
      have d5 : decide ((t : Int) + (m : Int) ≤ (n : Int)) = true := decide_eq_true (by omega)
      have d4 : decide (t + m ≤ n) = true := decide_eq_true htn
      go_wp2_with fail
      go_region_held3 (fun w' => Below w.heap.size w w')
        (first | exact c3.drew | exact c4 | exact c5 | exact c6)
        (first
        | (go_at_call 16; refine (p2.out _).mono ?_; rintro _ w4 ⟨g4, rfl, hs4, b4⟩; have c4 : Below w.heap.size w w4 := c3.drew.trans (b4.mono c3.size))
        | (go_at_call 17; refine (sameBytes_yes _ _ _ (t + m) _ _ (enc m ++ s) (by rw [List.length_append, hm.out, ht.out]) (by omega) hs4 (hr2.below c4)).mono ?_; rintro _ w5 ⟨rfl, b5⟩; have c5 := c4.trans (b5.mono c4.size))
        | (go_at_call 8; refine (lives_any _).mono ?_; rintro _ w6 ⟨rfl, b6⟩; have c6 := c5.trans (b6.mono c5.size)))
      all_goals
        go_wp2
        go_ret
        exact ⟨rfl, c6⟩
    · rw [hD] at pg
      replace hD := Lib.hid hD
      replace hT := Lib.hid hT
      go_wp2_with fail
      refine pg.mono ?_
      clear pg
      rintro _ _ ⟨rfl, rfl⟩
      have pt3 := pt w (Below.refl _ _)
      rw [hT.out] at pt3
      go_wp2_with fail
      refine pt3.mono ?_
      clear pt3 pt
      rintro _ _ ⟨rfl, rfl⟩
      go_wp2_with fail
      refine (lives_any w).mono ?_
      rintro e w1 ⟨rfl, hb1⟩
      go_wp2
      go_ret
      exact ⟨rfl, hb1⟩
    · rcases dec_cases l with ⟨m, hD', hs, rest, hlr⟩ | hD' | hD'
      · obtain ⟨t, ht⟩ : ∃ t, (enc m).length = t := ⟨_, rfl⟩
        have ht1 : 1 ≤ t ∧ t ≤ 10 := by rw [← ht]; exact ⟨enc_pos m, enc_len64 (by omega)⟩
        have htn : t ≤ n := by
          have := hln.out
          rw [hlr, List.length_append, ht] at this
          omega
        rw [ht] at hD'
        rw [hD'] at pg
        have hr1 : Bs w A (enc m) := by rw [hlr] at hb; exact front hb
        have p1 := fun w1 => put_at w1 none 0 0 [] rfl (by omega) (by omega) (Bs.nil_ _ _) m (by omega) (enc m) rfl t ht
        have htc : t ≤ c := by omega
        have d1 : decide ((t : Int) < 1) = false := decide_eq_false (by omega)
        have d2 : decide ((10 : Int) < (t : Int)) = false := decide_eq_false (by omega)
        have d3 : decide (n < t) = false := decide_eq_false (by omega)
        replace ht := Lib.hid ht
        replace hT := Lib.hid hT
        replace p1 := Lib.hid p1
        clear hD hD' hlr
        go_wp2_with fail
        refine pg.mono ?_
        clear pg
        rintro _ _ ⟨rfl, rfl⟩
        go_wp2_with fail
        go_region_held3 (fun w' => Below w.heap.size w w')
          (first | exact (Below.refl _ _).drew | exact b2 | exact c3)
          (first
          | (go_at_call 15; refine (p1.out _).mono ?_; rintro _ w2 ⟨g2, rfl, hs2, b2⟩; replace b2 : Below w.heap.size w w2 := (Below.refl w.heap.size w).drew.trans b2)
          | (go_at_call 17; refine (sameBytes_yes _ _ _ t _ _ (enc m) ht.out (by omega) hs2 (hr1.below b2)).mono ?_; rintro _ w3 ⟨rfl, b3⟩; have c3 := b2.trans (b3.mono b2.size)))
        all_goals
          have pt3 := pt w3 c3
          rw [hT.out] at pt3
          go_wp2_with fail
          refine pt3.mono ?_
          clear pt3 pt
          rintro _ _ ⟨rfl, rfl⟩
          go_wp2_with fail
          refine (lives_any w3).mono ?_
          rintro e w4 ⟨rfl, b4⟩
          go_wp2
          go_ret
          exact ⟨rfl, c3.trans (b4.mono c3.size)⟩
      · rw [hD'] at hD
        rcases hD with h | h <;> cases h
      · rw [hD'] at pg
        replace hD := Lib.hid hD
        replace hD' := Lib.hid hD'
        replace hT := Lib.hid hT
        go_wp2_with fail
        refine pg.mono ?_
        clear pg
        rintro _ _ ⟨rfl, rfl⟩
        have pt3 := pt w (Below.refl _ _)
        rw [hT.out] at pt3
        go_wp2_with fail
        refine pt3.mono ?_
        clear pt3 pt
        rintro _ _ ⟨rfl, rfl⟩
        go_wp2_with fail
        refine (lives_any w).mono ?_
        rintro e w1 ⟨rfl, hb1⟩
        go_wp2
        go_ret
        exact ⟨rfl, hb1⟩

/-! ### from the walk to the statement (by tail.py) -/
set_option maxRecDepth 100000 in
theorem lifted (os : Os) (started : os.Started) (H : Type) (enc : TypeId × Value → H) :
    ReturnsInHanded {} Try.checked os 5 .any (Rows.varintsAgainSpec.pre6 enc Try.prog Try.f5 Rows.varintsAgainRow.domain false) (Rows.varintsAgainSpec.post enc Try.prog Try.f5 false true false false) := by
  refine lifted_of (C := Try.checked) (tb := 4) (n := 1) (by kernel_rfl) started (by kernel_rfl) Try.func5 (by kernel_rfl) (by kernel_rfl) rfl (by kernel_rfl) Try.underlying4 (by kernel_rfl)
    (fun ds hd => by match ds, hd with | [d1], _ => exact ⟨rfl, rfl, rfl⟩)
    (ChangeSpec.witness6 (enc := enc) (C := Try.checked) false ⟨#[], #[.slice none 0 0], []⟩ 8 (by kernel_rfl) (by kernel_rfl) (by kernel_rfl) (by kernel_rfl)) ?_
  intro W base args ds before hval hA hsz
  rw [Try.params5] at hA hval hsz
  obtain ⟨v0, vs0, d0, ds0, p0, q0, rfl, rfl, rfl, h0, r0⟩ := trodAll_cons hA
  obtain ⟨rfl, rfl, rfl⟩ := trodAll_nil r0
  obtain ⟨A0, c0, l0, rfl, hb0, hlc0, _, hcap0⟩ := open_bytes Try.underlying22 Try.underlying5 (by kernel_rfl) (by kernel_rfl) (hval 0 _ _ rfl rfl) h0
  have hc0 := hcap0 hsz 0 rfl rfl
  exact walk W A0 c0 l0 (by have := reachBytes_lt; omega) hb0 hlc0 (by have := reachBytes_lt; omega)

theorem over : Rows.varintsAgainRow.holds Try.pinned (OpenSpec.ofChange Rows.varintsAgainSpec) :=
  OpenClaim.holds_of_wide 5 Try.f5 rfl rfl rfl rfl rfl rfl rfl ⟨rfl, rfl, rfl, rfl, rfl⟩ rfl rfl rfl rfl rfl (by kernel_rfl) Try.func5 (by kernel_rfl)
    (of_decide_eq_true (by kernel_rfl)) (by unfold Func.isWrapper; first | (rw [if_pos (by decide +kernel)]; kernel_rfl) | (rw [if_neg (by decide +kernel)]; exact ⟨rfl, rfl⟩))
    (fun os started H enc _ => lifted os started H enc)

theorem proved : Rows.VarintsAgainSaid := over
end Go.Proofs.Ytajlghnbjomnnaa.lawVarintsAgain
