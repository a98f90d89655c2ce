/- The walk of the statements' rising. -/
import Derived.Test.YtnlmchbigpjamaaJnLives
import Derived.Test.YtnlmchbigpjamaaJnLaw2
set_option linter.unusedSimpArgs false
set_option linter.unusedVariables false
namespace Go.Proofs.Ytnlmchbigpjamaa
open Go Go.RowKit Go.Shelf Herb Herb.Jn
set_option maxRecDepth 100000 in
set_option maxHeartbeats 1600000 in
theorem rising_any (w : World) (A : Option Addr) (n c : Nat) (fs : List Ft) (hn : fs.length = n) (hn2 : n ≤ 1000000) (hfs : Fs w A fs) :
    Calls Try.prog 15 #[.slice A n c] w fun e w' => ∃ b : Bool, e = .returned (.bool b) ∧ (b = true ↔ Ris fs) ∧ Below w.heap.size w w' := by
  replace hn := Lib.hid hn
  go_enter Try.func15, Try.ntmps15
  go_wp2
  go_loopw [3] (fun i wr => ∃ k : Nat, k ≤ n + 1 ∧ i = .int .i64 ((k : Int) + 1) ∧ Hid (∀ j f g, j < k → fs[j]? = some f → fs[j + 1]? = some g → cmpFt f g ≤ 0) ∧ Below w.heap.size w wr) (fun i _ => n + 1 - (intOf i).toNat)
  case atStart => exact ⟨0, by omega, rfl, Lib.hid (fun j f g h => absurd h (by omega)), Below.refl _ _⟩
  case round =>
    obtain ⟨k, hk, rfl, hall, hB⟩ := hrel
    by_cases hlt : k + 1 < n
    · obtain ⟨b, o, rfl, _, hc⟩ := (hfs.below hB).at_ (i := k) (by rw [hn.out]; omega)
      have h0 := hc k (by rw [hn.out]; omega)
      have h1 := hc (k + 1) (by rw [hn.out]; omega)
      obtain ⟨f, hf⟩ : ∃ f, fs[k]'(by rw [hn.out]; omega) = f := ⟨_, rfl⟩
      obtain ⟨g, hg⟩ : ∃ g, fs[k + 1]'(by rw [hn.out]; omega) = g := ⟨_, rfl⟩
      rw [hf] at h0
      rw [hg] at h1
      have hfk : fs[k]? = some f := by rw [List.getElem?_eq_getElem (by rw [hn.out]; omega), hf]
      have hgk : fs[k + 1]? = some g := by rw [List.getElem?_eq_getElem (by rw [hn.out]; omega), hg]
      obtain ⟨z, hz⟩ : ∃ z, cmpFt f g = z := ⟨_, rfl⟩
      have hz2 : cmpFt f g ≤ 0 ↔ z ≤ 0 := by rw [hz]
      obtain ⟨xk, xva, xse, xli, xki, xv⟩ := f
      obtain ⟨yk, yva, yse, yli, yki, yv⟩ := g
      simp only at h0 h1
      have pc := fun W => cmp_any W xk yk xv yv (xva : Int) (yva : Int) (xse : Int) (yse : Int) (xli : Int) (yli : Int) (xki : Int) (yki : Int)
      have e1 : cmpF xk yk (xva : Int) (yva : Int) (xse : Int) (yse : Int) (xki : Int) (yki : Int) = z := hz
      simp only [e1] at pc
      have e6 : o + (k + 1) * 6 = o + k * 6 + 6 := by omega
      have hsub : ((k : Int) + 1 - 1) = (k : Int) := by omega
      have hwrk : IntKind.i64.wrap (k : Int) = (k : Int) := IntWalk.i64_in _ (by omega)
      have d1 : decide ((k : Int) + 1 < (n : Int)) = true := decide_eq_true (by omega)
      have hkk : (0 : Int) ≤ (k : Int) ∧ (k : Int) < (n : Int) := by omega
      have hkk1 : (0 : Int) ≤ (k : Int) + 1 ∧ (k : Int) + 1 < (n : Int) := by omega
      have htn : ((k : Int) + 1).toNat = k + 1 := by omega
      replace hfk := Lib.hid hfk
      replace hgk := Lib.hid hgk
      replace hz := Lib.hid hz
      replace hz2 := Lib.hid hz2
      replace pc := Lib.hid pc
      clear hc hf hg e1 e6
      go_wp2_with fail
      refine still_tail 9 (by kernel_rfl) (by kernel_rfl) ?_
      simp only [List.take_succ_cons, List.take_zero, List.drop_succ_cons, List.drop_zero]
      iterate 9 still_step
      refine wpStill_nil ?_
      go_wp2_with fail
      refine (pc.out _).mono ?_
      rintro _ w2 ⟨rfl, b2⟩
      have hB2 := (hB.drew).trans (b2.mono (by exact hB.size))
      clear pc h0 h1
      by_cases hz0 : 0 < z
      · have dz : decide (0 < z) = true := decide_eq_true hz0
        have hno : ¬ Ris fs := fun h => by have := h k _ _ hfk.out hgk.out; have := hz2.out.1 this; omega
        replace hno := Lib.hid hno
        go_wp2
        go_ret
        exact ⟨false, rfl, ⟨fun h => (by cases h), fun h => absurd h hno.out⟩, hB2⟩
      · have dz : decide (0 < z) = false := decide_eq_false hz0
        go_wp2
        go_roundw
        case rel =>
          refine ⟨k + 1, by omega, by go_num, Lib.hid (fun j f' g' hj hf' hg' => ?_), hB2⟩
          by_cases e : j = k
          · subst e
            rw [hfk.out] at hf'
            rw [hgk.out] at hg'
            cases hf'
            cases hg'
            exact hz2.out.2 (by omega)
          · exact hall.out j f' g' (by omega) hf' hg'
        case measure => simp [intOf] <;> omega
    · have d1 : decide ((k : Int) + 1 < (n : Int)) = false := decide_eq_false (by omega)
      have hyes : Ris fs := fun j f g hf hg => by
        have hj := (List.getElem?_eq_some_iff.1 hg).1
        rw [hn.out] at hj
        exact hall.out j f g (by omega) hf hg
      replace hyes := Lib.hid hyes
      go_wp2
      go_ret
      exact ⟨true, rfl, ⟨fun _ => hyes.out, fun _ => rfl⟩, hB⟩
end Go.Proofs.Ytnlmchbigpjamaa
