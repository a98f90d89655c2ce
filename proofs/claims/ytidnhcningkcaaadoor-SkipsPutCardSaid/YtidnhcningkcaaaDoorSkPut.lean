/- The walks of skips' New and Put. -/
import Derived.Test.YtidnhcningkcaaaDoorSkAhead
import Derived.Deep.RegionLaw
import Derived.Deep.RegionHeld3
import Derived.Deep.QuietTactic
import Derived.BigQuiet
import Derived.StillTailTactics
set_option linter.unusedSimpArgs false
set_option linter.unusedVariables false
namespace Herb
open Go Go.RowKit
theorem Inv.new : Inv [Nd.zero] [] (fun _ => 0) := by
  refine ⟨?_, List.nodup_nil, by simp, rfl, List.Pairwise.nil, ?_, by simp⟩
  · intro d hd
    rw [List.mem_singleton.1 hd]
    rfl
  · intro f hf
    show Chain (nxOf [Nd.zero] f) [0]
    show nxOf [Nd.zero] f 0 = 0
    unfold nxOf
    exact rep0 8 f
end Herb
namespace Go.Proofs.YtidnhcningkcaaaDoor
open Go Go.RowKit Herb
theorem tow_lit (T : Nat → Nat) : (towL T 0).toArray = #[.int .i64 (T 0 : Int), .int .i64 (T 1 : Int), .int .i64 (T 2 : Int), .int .i64 (T 3 : Int), .int .i64 (T 4 : Int), .int .i64 (T 5 : Int), .int .i64 (T 6 : Int), .int .i64 (T 7 : Int)] := by
  unfold towL
  rw [show List.range 8 = [0, 1, 2, 3, 4, 5, 6, 7] by decide]
  simp only [List.map_cons, List.map_nil, Nat.zero_le, if_true]
/-- 'make([]node, 1)'. -/
theorem make_node (w : World) : (Instr.makeSlice 43 (.int .i64 1) (.int .i64 1)).run Tryd.prog w = .ok (.slice (some ⟨w.heap.size, 0, none⟩) 1 1) (w.alloc (.cells (flat [Nd.zero]).toArray 54)) := by kernel_rfl
set_option maxHeartbeats 800000 in
theorem new_any (w : World) : Calls Tryd.prog 5 #[] w fun e w' => ∃ p g cap, e = .returned (.pointer (some ⟨p, 0, none⟩)) ∧ SkAt w' w.heap.size p g cap [Nd.zero] ∧ Below w.heap.size w w' := by
  go_enter Tryd.func5, Tryd.ntmps5
  have hm := make_node w
  go_wp2
  go_ret
  have k1 : Blk ((w.alloc (.cells (flat [Nd.zero]).toArray 54)).alloc (.cells #[.slice (some ⟨w.heap.size, 0, none⟩) 1 1] 45)) (w.heap.size + 1) 45 #[.slice (some ⟨w.heap.size, 0, none⟩) 1 1] := by
    have := Blk.new (w.alloc (.cells (flat [Nd.zero]).toArray 54)) 45 #[.slice (some ⟨w.heap.size, 0, none⟩) 1 1]
    rwa [World.size_alloc] at this
  refine ⟨_, w.heap.size, 1, rfl, ⟨k1, (World.ownsRow_lit (base := w.heap.size) (e := 54) (size := 10) w (flat [Nd.zero]).toArray 1 (Nat.le_refl _) (by unfold maxLen; omega) rfl).alloc _, ?_, by omega⟩, ((Below.refl _ _).alloc (Nat.le_refl _) _).alloc (by simp) _⟩
  intro d hd
  rw [List.mem_singleton.1 hd]
  exact ⟨.inl rfl, by simp [Nd.zero]⟩
set_option maxHeartbeats 800000 in
theorem put_bad (w : World) (base p g cap : Nat) (N : List Nd) (hS : SkAt w base p g cap N) (hN : 0 < N.length) (A : Option Addr) (n c : Nat) (x H : Int) (hH : H < 1 ∨ 8 < H) :
    Calls Tryd.prog 8 #[.pointer (some ⟨p, 0, none⟩), .slice A n c, .int .i64 x, .int .i64 H] w fun e w' => e = .returned (.int .i64 1) ∧ w = w' := by
  have ht := there_yes w base p g cap N hS hN
  go_enter Tryd.func8, Tryd.ntmps8
  go_wp2_with fail
  refine ht.mono ?_
  clear ht
  rintro _ _ ⟨rfl, rfl⟩
  rcases hH with h1 | h1
  · have d1 : decide (H < 1) = true := decide_eq_true h1
    go_wp2
    go_ret
    exact ⟨rfl, rfl⟩
  · have d1 : decide (H < 1) = false := decide_eq_false (by omega)
    have d2 : decide (8 < H) = true := decide_eq_true h1
    go_wp2
    go_ret
    exact ⟨rfl, rfl⟩
set_option maxRecDepth 100000 in
set_option maxHeartbeats 800000 in
theorem put_there (w : World) (base p g cap : Nat) (N : List Nd) (L : List Nat) (h : Nat → Nat) (I : Inv N L h) (hS : SkAt w base p g cap N) (M : Nat) (hM : N.length = M) (hM2 : M ≤ 1000000) (K : List UInt8) (A : Option Addr) (n c : Nat) (hn : K.length = n) (hb : Bs w A K) (x H : Int) (hH1 : 1 ≤ H) (hH8 : H ≤ 8)
    (hh : hasM (toldL N L) K = true) :
    Calls Tryd.prog 8 #[.pointer (some ⟨p, 0, none⟩), .slice A n c, .int .i64 x, .int .i64 H] w fun e w' => e = .returned (.int .i64 8) ∧ Below w.heap.size w w' := by
  have ht := there_yes w base p g cap N hS (by have := I.len; omega)
  have ha := ahead_any w base p g cap N L h I hS M hM hM2 K A n c hn hb
  have hT0M : topOf N L h K 0 < M := by rw [← hM]; exact I.top_lt K 0
  have hnx : nxOf N 0 (topOf N L h K 0) = (restL N L K).headD 0 := by
    have hc := I.floor K 0 (by omega)
    obtain ⟨X, hX⟩ := split_last (onFloor h 0 (aheadL N L K))
    rw [hX, List.append_assoc] at hc
    have := Chain.mid hc
    have e : onFloor h 0 (restL N L K) = restL N L K := by
      unfold onFloor
      rw [List.filter_eq_self]
      intro i hi
      simpa using I.high i (rest_mem hi)
    rw [e] at this
    exact this
  obtain ⟨T, hT⟩ : ∃ T, topOf N L h K = T := ⟨_, rfl⟩
  rw [hT] at ha hT0M hnx
  rw [tow_lit] at ha
  rw [hasM_head I] at hh
  rcases hr : restL N L K with _ | ⟨b, R⟩
  · rw [hr] at hh; cases hh
  · rw [hr] at hh hnx
    simp only [List.headD_cons, List.head?_cons, Option.map_some, Option.getD_some] at hh hnx
    have hbl := I.lt b (rest_mem (K := K) (by rw [hr]; simp))
    have hbM : b < M := by rw [← hM]; exact hbl.2
    have hcx := fun W (hW : Below w.heap.size w W) => (hS.below hW).cellNx I.ok8 (show T 0 < N.length by omega) (show 0 < 8 by omega)
    rw [hnx] at hcx
    have hck := fun W (hW : Below w.heap.size w W) => (hS.below hW).cellKey I.ok8 hbl.2
    have hkk := fun W (hW : Below w.heap.size w W) => ((hS.below hW).keys _ (getD_mem hbl.2)).1.bs
    have hbk : (N.getD b Nd.zero).key = K := by have h' : Herb.keyOf N b = K := by simpa using hh
                                                exact h'
    generalize N.getD b Nd.zero = d at hck hkk hbk
    obtain ⟨kb, nb, Ab, cb, xb⟩ := d
    simp only at hck hkk hbk
    subst hbk
    rw [hn] at hck
    have hbx := fun W (hW : Below w.heap.size w W) => (hS.below hW).box.cell 0
    rw [hM] at hbx
    have d1 : decide (H < 1) = false := decide_eq_false (by omega)
    have d2 : decide (8 < H) = false := decide_eq_false (by omega)
    replace ha := Lib.hid ha
    replace hn := Lib.hid hn
    replace hM := Lib.hid hM
    replace hT := Lib.hid hT
    replace hnx := Lib.hid hnx
    replace hcx := Lib.hid hcx
    replace hck := Lib.hid hck
    replace hkk := Lib.hid hkk
    replace hbx := Lib.hid hbx
    replace hr := Lib.hid hr
    clear hh
    go_enter Tryd.func8, Tryd.ntmps8
    go_wp2_with fail
    refine ht.mono ?_
    clear ht
    rintro _ _ ⟨rfl, rfl⟩
    go_wp2_with fail
    refine ha.out.mono ?_
    clear ha
    rintro _ w1 ⟨rfl, b1⟩
    have kt : Blk (w1.alloc (.cells #[.int .i64 (T 0 : Int), .int .i64 (T 1 : Int), .int .i64 (T 2 : Int), .int .i64 (T 3 : Int), .int .i64 (T 4 : Int), .int .i64 (T 5 : Int), .int .i64 (T 6 : Int), .int .i64 (T 7 : Int)] 51)) w1.heap.size 51 #[.int .i64 (T 0 : Int), .int .i64 (T 1 : Int), .int .i64 (T 2 : Int), .int .i64 (T 3 : Int), .int .i64 (T 4 : Int), .int .i64 (T 5 : Int), .int .i64 (T 6 : Int), .int .i64 (T 7 : Int)] := Blk.new w1 _ _
    have b2 := b1.alloc b1.size (.cells #[.int .i64 (T 0 : Int), .int .i64 (T 1 : Int), .int .i64 (T 2 : Int), .int .i64 (T 3 : Int), .int .i64 (T 4 : Int), .int .i64 (T 5 : Int), .int .i64 (T 6 : Int), .int .i64 (T 7 : Int)] 51)
    go_wp2_with fail
    generalize w1.alloc (.cells #[.int .i64 (T 0 : Int), .int .i64 (T 1 : Int), .int .i64 (T 2 : Int), .int .i64 (T 3 : Int), .int .i64 (T 4 : Int), .int .i64 (T 5 : Int), .int .i64 (T 6 : Int), .int .i64 (T 7 : Int)] 51) = w2 at *
    have c1 := kt.cell 0
    have c2 := hcx.out _ b2
    have c3 := hbx.out _ b2
    have c4 := hck.out _ b2
    have hbp : (0 : Int) < (b : Int) := by omega
    go_quiet (fail)
    rename_i nq
    have b3 := below_drewN b2 nq
    have pe := equal_bs (w2.drewN nq) Ab A kb kb n cb n c hn.out hn.out (hkk.out _ b3) (hb.below b3)
    rw [beq_self_eq_true] at pe
    go_wp2_with fail
    refine pe.mono ?_
    clear pe
    rintro _ _ ⟨rfl, rfl⟩
    go_wp2
    go_ret
    exact ⟨rfl, b3⟩
end Go.Proofs.YtidnhcningkcaaaDoor
