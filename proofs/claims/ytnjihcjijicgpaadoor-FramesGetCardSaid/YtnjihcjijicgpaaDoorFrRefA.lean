/- Walks of the document's frames, first part: gap, none, part. -/
import Derived.Test.YtnjihcjijicgpaaDoorFrPut
import Derived.Test.YtnjihcjijicgpaaDoorSumsRef
set_option linter.unusedSimpArgs false
set_option linter.unusedVariables false
namespace Go.Proofs.YtnjihcjijicgpaaDoor
open Go Go.RowKit Herb

theorem refGap_any (p G : Nat) (hG : Fr.gap p = G) (hp : p ≤ 4611686018427387904) (x : Int) (hx : x = (p : Int)) (w : World) : Calls Tryd.prog 20 #[.int .i64 x] w fun e w' => e = .returned (.int .i64 (G : Int)) ∧ w = w' := by
  subst hx
  by_cases h : 256 - p % 256 < 7
  · have hg : G = 256 - p % 256 := by rw [← hG]; unfold Fr.gap; rw [if_pos h]
    have hgi : (256 : Int) - (p : Int) % 256 = (G : Int) := by omega
    have d : decide ((G : Int) < 7) = true := decide_eq_true (by omega)
    clear hG hg h
    go_enter Tryd.func20, Tryd.ntmps20
    go_wp2
    go_ret
    exact ⟨rfl, rfl⟩
  · have hg : G = 0 := by rw [← hG]; unfold Fr.gap; rw [if_neg h]
    subst hg
    obtain ⟨L, hL⟩ : ∃ L : Nat, (256 : Int) - (p : Int) % 256 = (L : Int) := ⟨256 - p % 256, by omega⟩
    have d : decide ((L : Int) < 7) = false := decide_eq_false (by omega)
    clear hG h
    go_enter Tryd.func20, Tryd.ntmps20
    go_wp2
    go_ret
    exact ⟨rfl, rfl⟩

theorem refNone_any (w : World) (A : Option Addr) (n c : Nat) (l : List UInt8) (hln : l.length = n) (hn : n ≤ 1000000) (hb : Bs w A l) (z : Bool) (hz : Fr.allZ l = z) :
    Calls Tryd.prog 30 #[.slice A n c] w fun e w' => e = .returned (.bool z) ∧ w = w' := by
  subst hln
  go_enter Tryd.func30, Tryd.ntmps30
  go_wp2
  go_loop [3] (fun i => ∃ k : Nat, k ≤ l.length ∧ i = .int .i64 (k : Int) ∧ Fr.allZ (l.take k) = true) (fun i => l.length - (intOf i).toNat)
  case atStart => exact ⟨0, by omega, rfl, rfl⟩
  case round =>
    obtain ⟨k, hk, rfl, ha⟩ := hrel
    by_cases hlt : k < l.length
    · obtain ⟨b, off, rfl, hblt, hc⟩ := hb.at_ hlt
      have hck := hc k hlt
      have htk : Fr.allZ (l.take (k + 1)) = (l[k] == 0) := by
        unfold Fr.allZ at ha ⊢
        rw [List.take_succ_eq_append_getElem hlt, List.all_append, ha]
        simp
      clear hc
      by_cases h0 : l[k] = 0
      · have h1 : ((l[k].toNat : Int) != 0) = false := by rw [h0]; rfl
        rw [h0] at htk
        replace htk := Lib.hid htk
        replace h0 := Lib.hid h0
        replace ha := Lib.hid ha
        go_wp2
        go_round
        case rel => exact ⟨k + 1, by omega, by go_num, htk.out⟩
        case measure => simp [intOf]; omega
      · have h1 : ((l[k].toNat : Int) != 0) = true := by
          have : l[k].toNat ≠ 0 := fun e => h0 (UInt8.toNat_inj.1 (by rw [e]; rfl))
          simp; omega
        have hzf : z = false := by
          rw [← hz]
          unfold Fr.allZ
          refine Bool.eq_false_iff.2 fun h => h0 ?_
          have := List.all_eq_true.1 h _ (List.getElem_mem hlt)
          simpa using this
        subst hzf
        clear hz htk ha
        replace h0 := Lib.hid h0
        go_wp2
        go_ret
        exact ⟨rfl, rfl⟩
    · have hkn : k = l.length := by omega
      rw [hkn, List.take_length, hz] at ha
      subst ha
      replace hkn := Lib.hid hkn
      clear hz
      go_wp2
      go_ret
      exact ⟨rfl, rfl⟩
end Go.Proofs.YtnjihcjijicgpaaDoor
