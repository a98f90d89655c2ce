/- The walks of equal and SameFacts at facts that are the same. -/
import Derived.Test.YtnlmchbigpjamaaJnOf
set_option linter.unusedSimpArgs false
set_option linter.unusedVariables false
namespace Go.Proofs.Ytnlmchbigpjamaa
open Go Go.RowKit Herb
set_option maxHeartbeats 1600000 in
theorem equalFt_yes (w : World) (A A' : Option Addr) (n c c' : Nat) (fs : List Ft) (hln : fs.length = n) (hn : n ≤ 140737488355328) (hb : Fs w A fs) (hb' : Fs w A' fs) :
    Calls Try.prog 26 #[.slice A n c, .slice A' n c'] w fun e w' => e = .returned (.bool true) ∧ Below w.heap.size w w' := by
  have hgd : Try.prog.eqGuardType Try.prog.depth 44 = false := by kernel_rfl
  subst hln
  go_enter Try.func26, Try.ntmps26
  go_wp2
  go_loopw [5] (fun i wr => ∃ k : Nat, k ≤ fs.length ∧ i = .int .i64 k ∧ Below w.heap.size w wr) (fun i _ => fs.length - (intOf i).toNat)
  case atStart => exact ⟨0, by omega, rfl, Below.refl _ _⟩
  case round =>
    obtain ⟨k, hk, rfl, hbel⟩ := hrel
    by_cases hlt : k < fs.length
    · obtain ⟨b, off, rfl, hblt, hc⟩ := (hb.below hbel).at_ hlt
      obtain ⟨b', off', rfl, hblt', hc'⟩ := (hb'.below hbel).at_ hlt
      obtain ⟨e0, e1, e2, e3, e4, e5⟩ := hc k hlt
      obtain ⟨f0, f1, f2, f3, f4, f5⟩ := hc' k hlt
      obtain ⟨x, hx⟩ : ∃ x, fs[k] = x := ⟨_, rfl⟩
      rw [hx] at e0 e1 e2 e3 e4 e5 f0 f1 f2 f3 f4 f5
      obtain ⟨xk, xva, xse, xli, xki, xv⟩ := x
      simp only at e0 e1 e2 e3 e4 e5 f0 f1 f2 f3 f4 f5
      have heq := fun W => fact_refl W xk xv (xva : Int) (xse : Int) (xli : Int) (xki : Int)
      have hd : decide (k < fs.length) = true := by simpa using hlt
      clear hc hc' hx
      go_wp2
      go_quiet (fail)
      go_wp2
      go_roundw
      case rel => exact ⟨k + 1, by omega, by go_num, below_drewN hbel _⟩
      case measure => simp [intOf]; omega
    · go_wp2
      go_ret
      exact ⟨rfl, hbel⟩
theorem sameFt_yes (w : World) (A A' : Option Addr) (n c c' : Nat) (fs : List Ft) (hln : fs.length = n) (hn : n ≤ 140737488355328) (hb : Fs w A fs) (hb' : Fs w A' fs) :
    Calls Try.prog 13 #[.slice A n c, .slice A' n c'] w fun e w' => e = .returned (.bool true) ∧ Below w.heap.size w w' := by
  have ce := equalFt_yes w A A' n c c' fs hln hn hb hb'
  replace hln := Lib.hid hln
  go_enter Try.func13, Try.ntmps13
  go_wp2_with fail
  refine ce.mono ?_
  rintro _ w2 ⟨rfl, b2⟩
  go_wp2
  go_ret
  exact ⟨rfl, b2⟩
end Go.Proofs.Ytnlmchbigpjamaa
