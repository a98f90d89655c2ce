/- The walks of equal and SameFacts at facts that are the same, and of great. -/
import Derived.Test.YtdifdbkbpeanhaaDoorMemGot
import Derived.Test.YtdifdbkbpeanhaaDoorMg3
import Derived.Laws.StructEq
set_option linter.unusedSimpArgs false
set_option linter.unusedVariables false
namespace Go.Proofs.YtdifdbkbpeanhaaDoor
open Go Go.RowKit Herb
set_option maxHeartbeats 1600000 in
theorem equalFt_yes (w : World) (A A' : Option Addr) (n c c' : Nat) (fs : List Ft) (hln : fs.length = n) (hn : n ≤ 140737488355328) (hb : Fs w A fs) (hb' : Fs w A' fs) :
    Calls Tryd.prog 32 #[.slice A n c, .slice A' n c'] w fun e w' => e = .returned (.bool true) ∧ Below w.heap.size w w' := by
  have hgd : Tryd.prog.eqGuardType Tryd.prog.depth 27 = false := by kernel_rfl
  subst hln
  go_enter Tryd.func32, Tryd.ntmps32
  go_wp2
  go_loopw [5] (fun i wr => ∃ k : Nat, k ≤ fs.length ∧ i = .int .i64 k ∧ Below w.heap.size w wr) (fun i _ => fs.length - (intOf i).toNat)
  case atStart => exact ⟨0, by omega, rfl, Below.refl _ _⟩
  case round =>
    obtain ⟨k, hk, rfl, hbel⟩ := hrel
    by_cases hlt : k < fs.length
    · obtain ⟨b, off, rfl, hblt, hc⟩ := (hb.below hbel).at_ hlt
      obtain ⟨b', off', rfl, hblt', hc'⟩ := (hb'.below hbel).at_ hlt
      obtain ⟨e0, e1, e2, e3, e4, e5⟩ := hc k hlt
      obtain ⟨f0, f1, f2, f3, f4, f5⟩ := hc' k hlt
      obtain ⟨x, hx⟩ : ∃ x, fs[k] = x := ⟨_, rfl⟩
      rw [hx] at e0 e1 e2 e3 e4 e5 f0 f1 f2 f3 f4 f5
      obtain ⟨xk, xva, xse, xli, xki, xv⟩ := x
      simp only at e0 e1 e2 e3 e4 e5 f0 f1 f2 f3 f4 f5
      have heq := fun W => fact_refl W xk xv (xva : Int) (xse : Int) (xli : Int) (xki : Int)
      have hd : decide (k < fs.length) = true := by simpa using hlt
      clear hc hc' hx
      go_wp2
      go_quiet (fail)
      go_wp2
      go_roundw
      case rel => exact ⟨k + 1, by omega, by go_num, below_drewN hbel _⟩
      case measure => simp [intOf]; omega
    · go_wp2
      go_ret
      exact ⟨rfl, hbel⟩
theorem sameFt_yes (w : World) (A A' : Option Addr) (n c c' : Nat) (fs : List Ft) (hln : fs.length = n) (hn : n ≤ 140737488355328) (hb : Fs w A fs) (hb' : Fs w A' fs) :
    Calls Tryd.prog 17 #[.slice A n c, .slice A' n c'] w fun e w' => e = .returned (.bool true) ∧ Below w.heap.size w w' := by
  have ce := equalFt_yes w A A' n c c' fs hln hn hb hb'
  replace hln := Lib.hid hln
  go_enter Tryd.func17, Tryd.ntmps17
  go_wp2_with fail
  refine ce.mono ?_
  rintro _ w2 ⟨rfl, b2⟩
  go_wp2
  go_ret
  exact ⟨rfl, b2⟩
theorem greatFt_any (w : World) (f : Ft) (g : Bool) (hg : g = true ↔ (1000 < f.k.size ∨ 1000 < f.v.size)) :
    Calls Tryd.prog 4 #[f.val] w fun e w' => e = .returned (.bool g) ∧ Below w.heap.size w w' := by
  have hb := (Below.refl w.heap.size w).alloc (Nat.le_refl _) (.cells #[.string f.k, .int .u32 (f.va : Int), .int .u64 (f.se : Int), .int .u64 (f.li : Int), .int .u8 (f.ki : Int), .string f.v] 27)
  by_cases h1 : 1000 < f.k.size
  · obtain rfl : g = true := hg.2 (.inl h1)
    clear hg
    go_enter Tryd.func4, Tryd.ntmps4
    go_wp2
    go_ret
    exact ⟨rfl, hb⟩
  · have hd : (decide ((1000 : Int) < (f.k.size : Int)) || decide ((1000 : Int) < (f.v.size : Int))) = g := by
      rw [Bool.eq_iff_iff, hg]
      simp
      omega
    clear hg
    replace hd := Lib.hid hd
    go_enter Tryd.func4, Tryd.ntmps4
    go_wp2
    go_ret
    exact ⟨congrArg (fun b => Ending.returned (Value.bool b)) hd.out, hb⟩
end Go.Proofs.YtdifdbkbpeanhaaDoor
