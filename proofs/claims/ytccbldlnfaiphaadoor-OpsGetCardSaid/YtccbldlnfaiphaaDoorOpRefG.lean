/- Walks of the document's read, text, one (layer 7). -/
import Derived.Test.YtccbldlnfaiphaaDoorOpRefP
import Derived.Test.YtccbldlnfaiphaaDoorOpGuess
import Derived.Test.YtccbldlnfaiphaaDoorGetTextRef
import Derived.Test.YtccbldlnfaiphaaDoorCut
set_option linter.unusedSimpArgs false
set_option linter.unusedVariables false
namespace Herb.Cm
open Herb Go Go.RowKit
/-- A place in bytes: -1, or where the rest begins. -/
def AtIs (l : List UInt8) (v : Int) (st : St) : Prop := (st = none ∧ v = -1) ∨ ∃ p : Nat, p ≤ l.length ∧ st = some (l.drop p) ∧ v = (p : Int)
theorem AtIs.start (l : List UInt8) : AtIs l 0 (some l) := .inr ⟨0, by omega, by simp, rfl⟩
end Herb.Cm
namespace Go.Proofs.YtccbldlnfaiphaaDoor
open Go Go.RowKit Herb Herb.Cm

theorem read_any (w : World) (A : Option Addr) (n c : Nat) (l : List UInt8) (hln : l.length = n) (hnc : n ≤ c) (hn : n ≤ 1000000) (hb : Bs w A l) (v : Int) (st : Herb.Cm.St) (hv : AtIs l v st) :
    Calls Tryd.prog 63 #[.slice A n c, .int .i64 v] w fun e w' => ∃ v', e = .returned (.tuple #[.int .u64 ((gRead st).1 : Int), .int .i64 v']) ∧ AtIs l v' (gRead st).2 ∧ w = w' := by
  rcases hv with ⟨rfl, rfl⟩ | ⟨p, hp, rfl, rfl⟩
  · replace hln := Lib.hid hln
    go_enter Tryd.func63, Tryd.ntmps63
    go_wp2
    go_ret2
    exact ⟨-1, rfl, .inl ⟨rfl, rfl⟩, rfl⟩
  have hcut := fun W => run_cut_from (P := Tryd.prog) (t := 30) Tryd.underlying30 (by kernel_rfl : (Tryd.prog.info? 5).map (·.size) = some 1) A n c p (by omega) W
  have hbs := hb.cutA_from (c := c) hp (by omega)
  have cg := refGet_any w (cutA A c p) (n - p) (c - p) (l.drop p) (by rw [List.length_drop]; omega)  (by omega) hbs
  have hpn : p ≤ n := by omega
  have hpx : (p : Int) ≤ (n : Int) := by omega
  have hp0 : ¬ ((p : Int) < 0) := by omega
  clear hbs
  rcases rdN_dec (l.drop p) with ⟨m, t, hd, hr, ht, hm⟩ | ⟨x, hx, hd, hr⟩
  · have hgr : gRead (some (l.drop p)) = (m, some ((l.drop p).drop t)) := by unfold gRead; simp only [Option.bind_some, hr]
    rw [hd] at cg
    rw [hgr]
    rw [List.length_drop, hln] at ht
    have hsum : IntKind.i64.wrap ((p : Int) + (t : Int)) = (p : Int) + (t : Int) := IntWalk.i64_in _ (by omega)
    have hat : AtIs l ((p : Int) + (t : Int)) (some ((l.drop p).drop t)) := .inr ⟨p + t, by omega, by rw [List.drop_drop], by omega⟩
    clear hgr hd hr
    replace hln := Lib.hid hln
    replace hat := Lib.hid hat
    go_enter Tryd.func63, Tryd.ntmps63
    go_wp2_with fail
    refine cg.mono ?_
    clear cg hcut
    rintro _ _ ⟨rfl, rfl⟩
    go_wp2
    go_ret2
    exact ⟨_, rfl, hat.out, rfl⟩
  · have hgr : gRead (some (l.drop p)) = (0, none) := by unfold gRead; simp only [Option.bind_some, hr]
    rw [hd] at cg
    rw [hgr]
    have hx2 : ((x : Int) == 0) = false := by simp; omega
    clear hgr hd hr hx
    replace hln := Lib.hid hln
    go_enter Tryd.func63, Tryd.ntmps63
    go_wp2_with fail
    refine cg.mono ?_
    clear cg hcut
    rintro _ _ ⟨rfl, rfl⟩
    go_wp2
    go_ret2
    exact ⟨-1, rfl, .inl ⟨rfl, rfl⟩, rfl⟩
theorem text_any (w : World) (A : Option Addr) (n c : Nat) (l : List UInt8) (hln : l.length = n) (hnc : n ≤ c) (hn : n ≤ 1000000) (hb : Bs w A l) (v : Int) (st : Herb.Cm.St) (hv : AtIs l v st) :
    Calls Tryd.prog 65 #[.slice A n c, .int .i64 v] w fun e w' => ∃ v', e = .returned (.tuple #[.string (gText st).1, .int .i64 v']) ∧ AtIs l v' (gText st).2 ∧ w = w' := by
  rcases hv with ⟨rfl, rfl⟩ | ⟨p, hp, rfl, rfl⟩
  · replace hln := Lib.hid hln
    go_enter Tryd.func65, Tryd.ntmps65
    go_wp2
    go_ret2
    exact ⟨-1, rfl, .inl ⟨rfl, rfl⟩, rfl⟩
  have hcut := fun W => run_cut_from (P := Tryd.prog) (t := 30) Tryd.underlying30 (by kernel_rfl : (Tryd.prog.info? 5).map (·.size) = some 1) A n c p (by omega) W
  have hbs := hb.cutA_from (c := c) hp (by omega)
  have cg := refGetText_any w (cutA A c p) (n - p) (c - p) (l.drop p) (by rw [List.length_drop]; omega) (by omega) (by omega) hbs
  have hpn : p ≤ n := by omega
  have hpx : (p : Int) ≤ (n : Int) := by omega
  have hp0 : ¬ ((p : Int) < 0) := by omega
  clear hbs
  rcases rdT_dec (l.drop p) with ⟨m, t, hd, hr, ht⟩ | ⟨x, hx, hd, hr⟩
  · have hgr : gText (some (l.drop p)) = (⟨m.toArray⟩, some ((l.drop p).drop t)) := by unfold gText; simp only [Option.bind_some, hr]
    rw [hd] at cg
    rw [hgr]
    rw [List.length_drop, hln] at ht
    have hsum : IntKind.i64.wrap ((p : Int) + (t : Int)) = (p : Int) + (t : Int) := IntWalk.i64_in _ (by omega)
    have hat : AtIs l ((p : Int) + (t : Int)) (some ((l.drop p).drop t)) := .inr ⟨p + t, by omega, by rw [List.drop_drop], by omega⟩
    clear hgr hd hr
    replace hln := Lib.hid hln
    replace hat := Lib.hid hat
    go_enter Tryd.func65, Tryd.ntmps65
    go_wp2_with fail
    refine cg.mono ?_
    clear cg hcut
    rintro _ _ ⟨rfl, rfl⟩
    go_wp2
    go_ret2
    exact ⟨_, rfl, hat.out, rfl⟩
  · have hgr : gText (some (l.drop p)) = (ByteArray.empty, none) := by unfold gText; simp only [Option.bind_some, hr]
    rw [hd] at cg
    rw [hgr]
    have hx2 : ((x : Int) == 0) = false := by simp; omega
    clear hgr hd hr hx
    replace hln := Lib.hid hln
    go_enter Tryd.func65, Tryd.ntmps65
    go_wp2_with fail
    refine cg.mono ?_
    clear cg hcut
    rintro _ _ ⟨rfl, rfl⟩
    go_wp2
    go_ret2
    exact ⟨-1, rfl, .inl ⟨rfl, rfl⟩, rfl⟩
theorem one_any (w : World) (A : Option Addr) (n c : Nat) (l : List UInt8) (hln : l.length = n) (hnc : n ≤ c) (hn : n ≤ 1000000) (hb : Bs w A l) (v : Int) (st : Herb.Cm.St) (hv : AtIs l v st) :
    Calls Tryd.prog 64 #[.slice A n c, .int .i64 v] w fun e w' => ∃ v', e = .returned (.tuple #[.int .u8 ((gOne st).1 : Int), .int .i64 v']) ∧ AtIs l v' (gOne st).2 ∧ w = w' := by
  rcases hv with ⟨rfl, rfl⟩ | ⟨p, hp, rfl, rfl⟩
  · replace hln := Lib.hid hln
    go_enter Tryd.func64, Tryd.ntmps64
    go_wp2
    go_ret2
    exact ⟨-1, rfl, .inl ⟨rfl, rfl⟩, rfl⟩
  have hp0 : ¬ ((p : Int) < 0) := by omega
  by_cases hlt : p < n
  · have hpl : p < l.length := by omega
    obtain ⟨b, off, rfl, hblt, hc⟩ := hb.at_ hpl
    have hck := hc p hpl
    have hgr : gOne (some (l.drop p)) = (l[p].toNat, some (l.drop (p + 1))) := by
      unfold gOne
      rw [List.drop_eq_getElem_cons hpl]
      rfl
    have hat : AtIs l ((p : Int) + 1) (some (l.drop (p + 1))) := .inr ⟨p + 1, by omega, rfl, by omega⟩
    have hd : decide (n ≤ p) = false := decide_eq_false (by omega)
    rw [hgr]
    obtain ⟨x, hx⟩ : ∃ x, l[p].toNat = x := ⟨_, rfl⟩
    rw [hx] at hck ⊢
    clear hc hgr hx
    replace hln := Lib.hid hln
    replace hat := Lib.hid hat
    go_enter Tryd.func64, Tryd.ntmps64
    go_wp2
    go_ret2
    exact ⟨_, rfl, hat.out, rfl⟩
  · have hgr : gOne (some (l.drop p)) = (0, none) := by
      unfold gOne
      rw [List.drop_eq_nil_of_le (by omega)]
      rfl
    have hd : decide (n ≤ p) = true := decide_eq_true (by omega)
    rw [hgr]
    clear hgr
    replace hln := Lib.hid hln
    go_enter Tryd.func64, Tryd.ntmps64
    go_wp2
    go_ret2
    exact ⟨-1, rfl, .inl ⟨rfl, rfl⟩, rfl⟩
end Go.Proofs.YtccbldlnfaiphaaDoor
