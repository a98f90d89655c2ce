/- A filter has each of its keys; it has ten bits for each, and as many bytes, eight at least; six of them at most are set for each key that is another one: for every input, no condition. -/
import Derived.Test.YtebledknjfojlaaBloomLives
import Derived.Test.YtebledknjfojlaaGreat
import Derived.Test.YtebledknjfojlaaLiftS
set_option linter.unusedSimpArgs false
set_option linter.unusedVariables false
namespace Go.Proofs.Ytebledknjfojlaa.lawBloomsKeys
open Go Go.RowKit Herb Go.ChangeShapes Go.WideShapes Go.ChangeAt

set_option maxRecDepth 100000 in
set_option maxHeartbeats 3200000 in
theorem walk (w : World) (A : Option Addr) (c : Nat) (ks : List ByteArray) (hl : ks.length ≤ 140737488355328) (hs : ∀ s ∈ ks, s.size ≤ 140737488355328) (hb : Ss w A ks) (hlc : ks.length ≤ c) (hc : c * 16 ≤ 140737488355328) :
    Calls Try.prog 4 #[.slice A ks.length c] w fun e w' => e = .returned (.bool true) ∧ Below w.heap.size w w' := by
  obtain ⟨n, hn⟩ : ∃ n, ks.length = n := ⟨_, rfl⟩
  rw [hn] at hl hlc ⊢
  replace hn := Lib.hid hn
  replace hs := Lib.hid hs
  clear hlc hc
  go_enter Try.func4, Try.ntmps4
  go_wp2_with fail
  refine (great_any w A n c ks hn.out hl hs.out hb).mono ?_
  rintro _ _ ⟨t, rfl, rfl, ht⟩
  by_cases hg : 100000 < t
  · have d1 : decide ((100000 : Int) < (t : Int)) = true := decide_eq_true (by omega)
    go_wp2_with fail
    refine (lives_any w).mono ?_
    rintro e w1 ⟨rfl, hb1⟩
    go_wp2
    go_ret
    exact ⟨rfl, hb1⟩
  · have d1 : decide ((100000 : Int) < (t : Int)) = false := decide_eq_false (by omega)
    by_cases hg2 : 2000 < n
    · have d2 : decide ((2000 : Int) < (n : Int)) = true := decide_eq_true (by omega)
      go_wp2_with fail
      refine (lives_any w).mono ?_
      rintro e w1 ⟨rfl, hb1⟩
      go_wp2
      go_ret
      exact ⟨rfl, hb1⟩
    · have d2 : decide ((2000 : Int) < (n : Int)) = false := decide_eq_false (by omega)
      obtain ⟨B, hB⟩ : ∃ B, room n = B := ⟨_, rfl⟩
      have hB' := hB
      unfold room at hB'
      obtain ⟨T, hT⟩ : ∃ T, told (8 * B) (List.replicate B 0) ks = T := ⟨_, rfl⟩
      have hTl : T.length = B := by rw [← hT, told_length, List.length_replicate]
      have hof : ofP ks = T ++ [6] := by unfold ofP; rw [hn.out, hB, hT]
      have hmost : pops T ≤ 6 * n := by have h := told_most ks; rw [hn.out, hB, hT] at h; exact h
      have hleast : 0 < n → 1 ≤ pops T := fun h0 => by
        have h := told_pos ks (fun e => by have := hn.out; rw [e] at this; simp at this; omega)
        rw [hn.out, hB, hT] at h
        exact h
      have hown := hasP_own ks
      rw [hof] at hown
      have po := bloomOf_at w A n c ks hn.out (by omega) hs.out hb (B + 1) (by rw [hB]) (T ++ [6]) hof
      have hB8 : 8 ≤ B := by omega
      have hBm : B ≤ 3000 := by omega
      replace hown := Lib.hid hown
      replace hTl := Lib.hid hTl
      clear hof hT hB
      go_wp2_with fail
      refine po.mono ?_
      clear po
      rintro _ w1 ⟨g, rfl, hz, b1⟩
      have h6 : w1.cell? ⟨g, B, none⟩ = some (.int .u8 6) := by
        obtain ⟨b', off, e, hq, hc⟩ := hz.at_ (k := B) (by rw [List.length_append, hTl.out]; simp)
        cases e
        have h := hc B (by rw [List.length_append, hTl.out]; simp)
        rw [List.getElem_append_right (by rw [hTl.out]; omega)] at h
        simpa [hTl.out] using h
      have e1 : decide ((B : Int) < 8) = false := decide_eq_false (by omega)
      by_cases hB9 : 8 < B
      · have e2 : decide ((8 : Int) < (B : Int)) = true := decide_eq_true (by omega)
        have e3 : decide (8 * (B : Int) < 10 * (n : Int)) = false := decide_eq_false (by omega)
        have e4 : decide (10 * (n : Int) + 8 ≤ 8 * (B : Int)) = false := decide_eq_false (by omega)
        have e5 : ((B : Int) == 8) = false := by simp; omega
        replace hB' := Lib.hid hB'
        go_wp2_with fail
        replace hmost := Lib.hid hmost
        replace hleast := Lib.hid hleast
        replace h6 := Lib.hid h6
        go_loopw [5] (fun i wr => ∃ k : Nat, k ≤ n ∧ i = .int .i64 (k : Int) ∧ Below w.heap.size w wr ∧ Bs wr (some ⟨g, 0, none⟩) (T ++ [6])) (fun i _ => n - (intOf i).toNat)
        case atStart => exact ⟨0, by omega, rfl, b1, hz⟩
        case round =>
          obtain ⟨k, hk, rfl, hbel, hzr⟩ := hrel
          by_cases hlt : k < n
          · obtain ⟨b, off, rfl, hq, hcell⟩ := (hb.below hbel).at_ (k := k) (by rw [hn.out]; exact hlt)
            have hsz := hs.out _ (List.getElem_mem (show k < ks.length by rw [hn.out]; exact hlt))
            have hH := hown.out _ (List.getElem_mem (show k < ks.length by rw [hn.out]; exact hlt))
            generalize ks[k]'(by rw [hn.out]; exact hlt) = key at *
            have ph := has_any wr _ (B + 1) (B + 1) (T ++ [6]) (by rw [List.length_append, hTl.out]; rfl) (by omega) hzr key (text key) rfl key.size rfl hsz
            rw [hH] at ph
            clear hH
            replace ph := Lib.hid ph
            go_wp2_with fail
            refine ph.out.mono ?_
            clear ph
            rintro _ w2 ⟨rfl, b2⟩
            go_wp2
            go_roundw
            case rel => exact ⟨k + 1, by omega, by go_num, hbel.trans (b2.mono hbel.size), hzr.below b2⟩
            case measure => simp [intOf]; omega
          · have hkn : k = n := by omega
            replace hkn := Lib.hid hkn
            have hT2 : Bs wr (some ⟨g, 0, none⟩) T := by
              have h := hzr.take T.length
              rwa [List.take_left] at h
            have ps := set_any wr (some ⟨g, 0, none⟩) B (B + 1) T hTl.out (by omega) hT2
            have hm1 := hmost.out
            have hl1 := hleast.out
            obtain ⟨q, hq⟩ : ∃ q, pops T = q := ⟨_, rfl⟩
            rw [hq] at ps hm1 hl1
            replace hq := Lib.hid hq
            have f1 : decide ((q : Int) ≤ 6 * (n : Int)) = true := decide_eq_true (by omega)
            replace hm1 := Lib.hid hm1
            replace hl1 := Lib.hid hl1
            go_wp2_with fail
            refine ps.mono ?_
            rintro _ _ ⟨rfl, rfl⟩
            by_cases h0 : n = 0
            · subst h0
              obtain rfl : q = 0 := by have := hm1.out; omega
              go_wp2_with fail
              refine (lives_any wr).mono ?_
              rintro _ w3 ⟨rfl, b3⟩
              go_wp2
              go_ret
              exact ⟨rfl, hbel.trans (b3.mono hbel.size)⟩
            · have f2 : ((n : Int) == 0) = false := by simp; omega
              have f3 : decide ((1 : Int) ≤ (q : Int)) = true := decide_eq_true (by have := hl1.out (by omega); omega)
              go_wp2_with fail
              refine ps.mono ?_
              rintro _ _ ⟨rfl, rfl⟩
              go_wp2_with fail
              refine (lives_any wr).mono ?_
              rintro _ w3 ⟨rfl, b3⟩
              go_wp2
              go_ret
              exact ⟨rfl, hbel.trans (b3.mono hbel.size)⟩
      · obtain rfl : B = 8 := by omega
        have e2 : decide ((6 : Int) < (n : Int)) = false := decide_eq_false (by omega)
        replace hB' := Lib.hid hB'
        go_wp2_with fail
        replace hmost := Lib.hid hmost
        replace hleast := Lib.hid hleast
        replace h6 := Lib.hid h6
        go_loopw [5] (fun i wr => ∃ k : Nat, k ≤ n ∧ i = .int .i64 (k : Int) ∧ Below w.heap.size w wr ∧ Bs wr (some ⟨g, 0, none⟩) (T ++ [6])) (fun i _ => n - (intOf i).toNat)
        case atStart => exact ⟨0, by omega, rfl, b1, hz⟩
        case round =>
          obtain ⟨k, hk, rfl, hbel, hzr⟩ := hrel
          by_cases hlt : k < n
          · obtain ⟨b, off, rfl, hq, hcell⟩ := (hb.below hbel).at_ (k := k) (by rw [hn.out]; exact hlt)
            have hsz := hs.out _ (List.getElem_mem (show k < ks.length by rw [hn.out]; exact hlt))
            have hH := hown.out _ (List.getElem_mem (show k < ks.length by rw [hn.out]; exact hlt))
            generalize ks[k]'(by rw [hn.out]; exact hlt) = key at *
            have ph := has_any wr _ 9 9 (T ++ [6]) (by rw [List.length_append, hTl.out]; rfl) (by omega) hzr key (text key) rfl key.size rfl hsz
            rw [hH] at ph
            clear hH
            replace ph := Lib.hid ph
            go_wp2_with fail
            refine ph.out.mono ?_
            clear ph
            rintro _ w2 ⟨rfl, b2⟩
            go_wp2
            go_roundw
            case rel => exact ⟨k + 1, by omega, by go_num, hbel.trans (b2.mono hbel.size), hzr.below b2⟩
            case measure => simp [intOf]; omega
          · have hkn : k = n := by omega
            replace hkn := Lib.hid hkn
            have hT2 : Bs wr (some ⟨g, 0, none⟩) T := by
              have h := hzr.take T.length
              rwa [List.take_left] at h
            have ps := set_any wr (some ⟨g, 0, none⟩) 8 9 T hTl.out (by omega) hT2
            have hm1 := hmost.out
            have hl1 := hleast.out
            obtain ⟨q, hq⟩ : ∃ q, pops T = q := ⟨_, rfl⟩
            rw [hq] at ps hm1 hl1
            replace hq := Lib.hid hq
            have f1 : decide ((q : Int) ≤ 6 * (n : Int)) = true := decide_eq_true (by omega)
            replace hm1 := Lib.hid hm1
            replace hl1 := Lib.hid hl1
            go_wp2_with fail
            refine ps.mono ?_
            rintro _ _ ⟨rfl, rfl⟩
            by_cases h0 : n = 0
            · subst h0
              obtain rfl : q = 0 := by have := hm1.out; omega
              go_wp2_with fail
              refine (lives_any wr).mono ?_
              rintro _ w3 ⟨rfl, b3⟩
              go_wp2
              go_ret
              exact ⟨rfl, hbel.trans (b3.mono hbel.size)⟩
            · have f2 : ((n : Int) == 0) = false := by simp; omega
              have f3 : decide ((1 : Int) ≤ (q : Int)) = true := decide_eq_true (by have := hl1.out (by omega); omega)
              go_wp2_with fail
              refine ps.mono ?_
              rintro _ _ ⟨rfl, rfl⟩
              go_wp2_with fail
              refine (lives_any wr).mono ?_
              rintro _ w3 ⟨rfl, b3⟩
              go_wp2
              go_ret
              exact ⟨rfl, hbel.trans (b3.mono hbel.size)⟩

/-! ### from the walk to the statement (by tail.py) -/
set_option maxRecDepth 100000 in
theorem lifted (os : Os) (started : os.Started) (H : Type) (enc : TypeId × Value → H) :
    ReturnsInHanded {} Try.checked os 4 .any (Rows.bloomsKeysSpec.pre6 enc Try.prog Try.f4 Rows.bloomsKeysRow.domain false) (Rows.bloomsKeysSpec.post enc Try.prog Try.f4 false true false false) := by
  refine lifted_of (C := Try.checked) (tb := 4) (n := 1) (by kernel_rfl) started (by kernel_rfl) Try.func4 (by kernel_rfl) (by kernel_rfl) rfl (by kernel_rfl) Try.underlying4 (by kernel_rfl)
    (fun ds hd => by match ds, hd with | [d1], _ => exact ⟨rfl, rfl, rfl⟩)
    (ChangeSpec.witness6 (enc := enc) (C := Try.checked) false ⟨#[], #[.slice none 0 0], []⟩ 8 (by kernel_rfl) (by kernel_rfl) (by kernel_rfl) (by kernel_rfl)) ?_
  intro W base args ds before hval hA hsz
  rw [Try.params4] at hA hval hsz
  obtain ⟨v0, vs0, d0, ds0, p0, q0, rfl, rfl, rfl, h0, r0⟩ := trodAll_cons hA
  obtain ⟨rfl, rfl, rfl⟩ := trodAll_nil r0
  obtain ⟨A0, c0, ks0, rfl, hb0, hlc0, _, hcap0⟩ := open_strs Try.underlying27 Try.underlying9 (by kernel_rfl) (by kernel_rfl) (hval 0 _ _ rfl rfl) h0
  have hc0 := hcap0 hsz 0 rfl rfl
  exact walk W A0 c0 ks0 (by have := reachBytes_lt; have := hc0.1; omega) (fun s hs => by have := reachBytes_lt; have := hc0.2 s hs; omega) hb0 hlc0 (by have := reachBytes_lt; have := hc0.1; omega)

theorem over : Rows.bloomsKeysRow.holds Try.pinned (OpenSpec.ofChange Rows.bloomsKeysSpec) :=
  OpenClaim.holds_of_wide 4 Try.f4 rfl rfl rfl rfl rfl rfl rfl ⟨rfl, rfl, rfl, rfl, rfl⟩ rfl rfl rfl rfl rfl (by kernel_rfl) Try.func4 (by kernel_rfl)
    (of_decide_eq_true (by kernel_rfl)) (by unfold Func.isWrapper; first | (rw [if_pos (by decide +kernel)]; kernel_rfl) | (rw [if_neg (by decide +kernel)]; exact ⟨rfl, rfl⟩))
    (fun os started H enc _ => lifted os started H enc)

theorem proved : Rows.BloomsKeysSaid := over
end Go.Proofs.Ytebledknjfojlaa.lawBloomsKeys
