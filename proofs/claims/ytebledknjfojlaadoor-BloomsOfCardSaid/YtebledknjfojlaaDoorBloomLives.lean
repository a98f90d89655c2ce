/- Walks of the statements' helpers of layer 11: lives, set. -/
import Derived.Test.YtebledknjfojlaaDoorOf
import Derived.Test.YtebledknjfojlaaDoorStr
set_option linter.unusedSimpArgs false
set_option linter.unusedVariables false
namespace Go.Proofs.YtebledknjfojlaaDoor
open Go Go.RowKit Herb

theorem bloomOf_at (w : World) (A : Option Addr) (n c : Nat) (ks : List ByteArray) (hn : ks.length = n) (hl : n ≤ 100000) (hs : ∀ s ∈ ks, s.size ≤ 140737488355328) (hb : Ss w A ks) (m : Nat) (hm : room n + 1 = m) (z : List UInt8) (hz : ofP ks = z) :
    Calls Tryd.prog 7 #[.slice A n c] w fun e w' => ∃ g, e = .returned (.slice (some ⟨g, 0, none⟩) m m) ∧ Bs w' (some ⟨g, 0, none⟩) z ∧ Below w.heap.size w w' := by
  refine (of_keys w A n c ks hn hl hs hb).mono ?_
  rintro _ w' ⟨g, rfl, hk, _, hb⟩
  subst hm
  subst hz
  refine ⟨g, rfl, hk.rd (by rw [bvs_length, ofP_length, hn]; omega) (fun j u hu => ?_), hb⟩
  simpa using hu
theorem Ss.nil_ (w : World) (A : Option Addr) : Ss w A [] := Rd.nil_ w 1 A
theorem Ss.one (w : World) (e : TypeId) (s : ByteArray) : Ss (w.alloc (.cells #[.string s] e)) (some ⟨w.heap.size, 0, none⟩) [s] := Rd.one w e (.string s)

set_option maxHeartbeats 1600000 in
theorem lives_any (w : World) : Calls Tryd.prog 5 #[] w fun e w' => e = .returned (.bool true) ∧ Below w.heap.size w w' := by
  have kstr := fun (w : World) (A : Option Addr) (l : List UInt8) (h : Bs w A l) (n : Nat) (hn : l.length = n) (c : Nat) => run_str (P := Tryd.prog) h 26 9 5 Tryd.underlying26 Tryd.underlying5 Tryd.underlying9 n c hn
  have hmk := fun w => make_one (P := Tryd.prog) Tryd.underlying26 info_u8 rfl 9 9 (by omega) (by omega) (by omega) w
  have z0 : ofP [] = [0, 0, 0, 0, 0, 0, 0, 0, 6] := by decide +kernel
  have z1 : ofP [ByteArray.mk #[]] = [1, 0, 0, 0, 0, 0, 0, 0, 6] := by decide +kernel
  have e0 : hasP [0, 0, 0, 0, 0, 0, 0, 0, 6] [97] = false := by decide +kernel
  have e1 : hasP [6] [97] = true := by decide +kernel
  have e2 : hasP [0, 0, 0, 0, 0, 0, 0, 0, 0] [97] = true := by decide +kernel
  replace z0 := Lib.hid z0
  replace z1 := Lib.hid z1
  have c0 := fun (w : World) A (hb : Bs w A [0, 0, 0, 0, 0, 0, 0, 0, 6]) => has_any w A 9 9 [0, 0, 0, 0, 0, 0, 0, 0, 6] rfl (by omega) hb ⟨#[97]⟩ [97] rfl 1 rfl (by omega)
  have c1 := fun (w : World) A (hb : Bs w A [6]) => has_any w A 1 1 [6] rfl (by omega) hb ⟨#[97]⟩ [97] rfl 1 rfl (by omega)
  have c2 := fun (w : World) A (hb : Bs w A [0, 0, 0, 0, 0, 0, 0, 0, 0]) => has_any w A 9 9 [0, 0, 0, 0, 0, 0, 0, 0, 0] rfl (by omega) hb ⟨#[97]⟩ [97] rfl 1 rfl (by omega)
  simp only [e0, e1, e2] at c0 c1 c2
  clear e0 e1 e2
  replace c0 := Lib.hid c0
  replace c1 := Lib.hid c1
  replace c2 := Lib.hid c2
  replace kstr := Lib.hid kstr
  go_enter Tryd.func5, Tryd.ntmps5
  go_wp2_with fail
  refine (bloomOf_at w none 0 0 [] rfl (by omega) (fun s h => by cases h) (Ss.nil_ _ _) 9 rfl _ z0.out).mono ?_
  rintro _ w1 ⟨g1, rfl, hs1, b1⟩
  have k1 := kstr.out w1 _ _ hs1 9 rfl 9
  go_wp2_with fail
  refine (c0.out w1 _ hs1).mono ?_
  rintro _ w2 ⟨rfl, b2⟩
  clear k1 hs1
  replace b2 := b1.trans (b2.mono b1.size)
  have h3 := Ss.one w2 9 ⟨#[]⟩
  have b3 := b2.alloc b2.size (.cells #[.string ⟨#[]⟩] 9)
  have hp := bloomOf_at _ _ 1 1 [ByteArray.mk #[]] rfl (by omega) (fun s h => by rw [List.mem_singleton.1 h]; decide) h3 9 rfl _ z1.out
  clear h3
  go_wp2_with fail
  refine hp.mono ?_
  clear hp
  rintro _ w4 ⟨g4, rfl, hs4, b4⟩
  replace b4 := b3.trans (b4.mono b3.size)
  have k4 := kstr.out w4 _ _ hs4 9 rfl 9
  have h5 := Bs.new w4 5 [6] (0, 0)
  have b5 := b4.alloc b4.size (.cells (bvs [6]).toArray 5)
  have hp := c1.out _ _ h5
  clear h5
  go_wp2_with fail
  refine hp.mono ?_
  clear hp k4 hs4
  rintro _ w6 ⟨rfl, b6⟩
  replace b6 := b5.trans (b6.mono b5.size)
  have h7 := Bs.new w6 5 [0, 0, 0, 0, 0, 0, 0, 0, 0] (0, 0)
  have b7 := b6.alloc b6.size (.cells (bvs [0, 0, 0, 0, 0, 0, 0, 0, 0]).toArray 5)
  have hp := c2.out _ _ h7
  clear h7
  go_wp2_with fail
  refine hp.mono ?_
  clear hp
  rintro _ w8 ⟨rfl, b8⟩
  go_wp2
  go_ret
  exact ⟨rfl, b7.trans (b8.mono b7.size)⟩

end Go.Proofs.YtebledknjfojlaaDoor
