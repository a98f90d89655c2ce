/- Walks of blooms.places and its iterator. -/
import Derived.Test.YtebledknjfojlaaDoorSumsRef
import Derived.Test.YtebledknjfojlaaDoorTwinB
import Derived.Test.YtebledknjfojlaaDoorPlacesLaw
import Derived.RangeFuncNested
import Derived.RangeFuncBound
import Derived.RangeFuncCalls
import Derived.RangeFuncLeaves
import Derived.RangeFuncBox
import Derived.Shelf.Abstract
import Derived.Shelf.RegionOpen
import Derived.WalkKit
import Derived.OwnWalkIn
import Derived.TacticsInMore
import Derived.LoopNIn
import Derived.LoopIn
import Derived.Laws.IdiomStrings
import Derived.WalkLawsBesides
set_option linter.unusedSimpArgs false
set_option linter.unusedVariables false
namespace Herb
open Go Go.RowKit
/-- '[]byte(s)'. -/
theorem bytes_of_str {P : Program} (w : World) (src dst e : TypeId) (s : ByteArray) (hs : P.underlying src = some .string) (hd : P.underlying dst = some (.slice e)) (he : P.underlying e = some (.int .u8)) (l : List UInt8) (hl : s.data.toList = l) (n : Nat) (hn : s.size = n) :
    ∃ c w', n ≤ c ∧ (convert src dst (.string s)).run P w = .ok (.slice (some ⟨w.heap.size, 0, none⟩) n c) w' ∧ Bs w' (some ⟨w.heap.size, 0, none⟩) l ∧ Below w.heap.size w w' := by
  subst hn
  subst hl
  refine ⟨_, _, grownCap_ge w s.size 0 e, run_bytes_of_string w src dst e s hs hd he, ⟨by rw [bvs_length]; omega, fun _ => ⟨w.heap.size, 0, rfl, by simp, fun j u hu => ?_⟩⟩, ((Below.refl _ w).drew).alloc (by simp) _⟩
  have hj : j < s.data.size := by
    have := (List.getElem?_eq_some_iff.1 hu).1
    rw [bvs_length] at this
    simpa using this
  have h1 := cell_new_any w.drew (bytesRow s (grownCap w s.size 0 e)) e ((bytesRow s (grownCap w s.size 0 e)).size, (bytesRow s (grownCap w s.size 0 e)).size + 1) j
  rw [Nat.zero_add]
  refine h1.trans ?_
  rw [bytesRow_at s _ j hj]
  rw [bvs_get (by simpa using hj)] at hu
  simpa [bv] using hu
theorem grown_of_below {w w' : World} (h : Below w.heap.size w w') : w.grownBy w' none := ⟨h.os, h.tape, h.output, h.size, fun k hk _ => h.block k hk⟩
end Herb
namespace Go.Proofs.YtebledknjfojlaaDoor
open Go Go.RowKit Go.Shelf Herb
attribute [local go_sem] Oper.semAt_some

def encN {m : Nat} (x : { x : Nat // x < m }) : Array Value := #[.int .i64 (x.1 : Int)]
/-- What a round keeps: the two captured cells. -/
def keeps2 (C : Nat) (W W' : World) : Prop := W'.heap[C]? = W.heap[C]? ∧ W'.heap[C + 1]? = W.heap[C + 1]?

set_option maxRecDepth 100000 in
set_option maxHeartbeats 1600000 in
theorem placesIter_in (n : Nat) (l C m : Nat) (key : ByteArray) (kl : List UInt8) (hkl : key.data.toList = kl) (kn : Nat) (hkn : key.size = kn) (hk : kn ≤ 140737488355328) (hm : 0 < m) (hm2 : m < 1000000000000) (J Jx : List { x : Nat // x < m } → World → Prop) (W : World)
    (hJ : AbidesFrom W.heap.size J)
    (hY : ∀ pre x W1, J pre W1 → pre.length < 6 → YieldAt Fence.wide (n - 1) Tryd.prog l (encN x) W1 fun e W' => (e = .returned (.bool true) ∧ J (pre ++ [x]) W' ∧ keeps2 C W1 W') ∨ (e = .returned (.bool false) ∧ Jx (pre ++ [x]) W'))
    (hC : Boxed W C 9 (.string key)) (hD : Boxed W (C + 1) 3 (.int .i64 m)) (h0 : J [] W) :
    CallsIn Fence.wide n Tryd.prog 21 #[.func (.yield l) #[] #[], .pointer (some ⟨C, 0, none⟩), .pointer (some ⟨C + 1, 0, none⟩)] W fun e W' => (∃ v, e = .returned v) ∧
      ((∃ xs, xs = placesS (more 0 kl) m hm ∧ J xs W') ∨ (∃ pre, pre <+: placesS (more 0 kl) m hm ∧ Jx pre W')) := by
  obtain ⟨s, hs⟩ : ∃ s, more 0 kl = s := ⟨_, rfl⟩
  have hsl : s < 4294967296 := by rw [← hs]; exact more_lt _ _
  have hcc := hC.cell
  obtain ⟨c, w1, hc, hconv, hb1, hbel1⟩ := bytes_of_str (P := Tryd.prog) W 9 26 5 key Tryd.underlying9 Tryd.underlying26 Tryd.underlying5 kl hkl kn hkn
  refine callsIn_of_wp Tryd.func21 rfl trivial ?_ rfl
  simp only [Tryd.ntmps21, List.size_toArray, List.length_cons, List.length_nil, Nat.reduceAdd, Nat.reduceSub, Array.replicate_succ, Array.replicate_zero, List.push_toArray, List.append_toArray, List.nil_append, List.cons_append]
  have hlen : kl.length = kn := by rw [← hkl, ← hkn]; rfl
  replace hkl := Lib.hid hkl
  replace hlen := Lib.hid hlen
  obtain ⟨x0, hx0⟩ : ∃ x0, s % 65536 = x0 := ⟨_, rfl⟩
  obtain ⟨y0, hy0⟩ : ∃ y0, s / 65536 = y0 := ⟨_, rfl⟩
  have hx0l : x0 ≤ 65535 := by omega
  have hy0l : y0 ≤ 65535 := by omega
  have hand : bits .and .u32 (s : Int) 65535 = (x0 : Int) := by
    have e := u32_and_nat s 65535 hsl (by omega)
    rw [show (65535 : Nat) = 2 ^ 16 - 1 by rfl, Nat.and_two_pow_sub_one_eq_mod, show (2 : Nat) ^ 16 = 65536 by rfl, hx0] at e
    exact e
  have hdiv : (s : Int) / 65536 = (y0 : Int) := by omega
  have wx := Word.ofInt (x0 : Int) (by rw [show (2 : Nat) ^ 53 = 9007199254740992 by decide]; omega)
  have wy := Word.ofInt (y0 : Int) (by rw [show (2 : Nat) ^ 53 = 9007199254740992 by decide]; omega)
  replace hx0 := Lib.hid hx0
  replace hy0 := Lib.hid hy0
  gi_wp2_with fail
  refine ⟨trivial, fun h => (by cases h), (callsIn_wide.2 (of_at w1 _ kn c kl hlen.out (by omega) hb1)).mono ?_⟩
  rintro _ w2 ⟨rfl, hb2⟩
  rw [hs]
  have hbel2 := hbel1.trans (hb2.mono hbel1.size)
  have hD2 : Boxed w2 (C + 1) 3 (.int .i64 m) := (hbel2.block _ hD.lt).trans hD
  have hJ2 : J [] w2 := hJ [] W w2 none h0 (grown_of_below hbel2) (fun r e => by cases e)
  clear hcc hconv hb1 hb2 hbel1 hbel2 h0 hC hD
  gi_wp2_with fail
  gi_loopw [5, 17] (fun z i wr => ∃ k re im : Nat, k ≤ 6 ∧ z = .complex .f64 re im ∧ i = .int .i64 (k : Int) ∧ Word re (zk x0 y0 k).1 ∧ Word im (zk x0 y0 k).2 ∧ Boxed wr (C + 1) 3 (.int .i64 m) ∧ J ((placesS s m hm).take k) wr) (fun _ i _ => 6 - (intOf i).toNat)
  case atStart => exact ⟨0, _, _, by omega, rfl, rfl, wx, wy, hD2, hJ2⟩
  case round =>
    obtain ⟨k, re, im, hk6, rfl, rfl, hre, him, hDr, hJr⟩ := hrel
    by_cases hlt : k < 6
    · obtain ⟨hu, hv⟩ := zk_small x0 y0 (by omega) (by omega) (k := k) (by omega)
      have hp53 : (2 : Nat) ^ 53 = 9007199254740992 := by decide
      have hti := hre.toInt (by rw [hp53]; omega)
      obtain ⟨re', im', hmul, hre', him'⟩ := turn_words hre him hu hv
      have htm := tmod_emod (zk x0 y0 k).1 m hm
      have hpl : ((zk x0 y0 k).1 % (m : Int)).toNat = place s m k := by unfold place; rw [hx0.out, hy0.out]
      rw [hpl] at htm
      have hplt := place_lt s m k hm
      have htake : (placesS s m hm).take (k + 1) = (placesS s m hm).take k ++ [placeS s m hm k] := by
        rw [List.take_succ_eq_append_getElem (by simp [placesS]; exact hlt)]
        simp [placesS]
      replace hre' : Word re' (zk x0 y0 (k + 1)).1 := hre'
      replace him' : Word im' (zk x0 y0 (k + 1)).2 := him'
      have hcv := fun w => run_convert_float_int (P := Tryd.prog) w 55 3 .f64 .i64 re _ (by kernel_rfl) Tryd.underlying3 hti
      have hmu := fun w => run_complex_mul (P := Tryd.prog) w 54 _ _ _ _ _ _ hmul
      obtain ⟨fn, tmps, assign, body, hy, hR⟩ := hY _ (placeS s m hm k) wr hJr (by simp [placesS]; omega)
      have hpre : ((placesS s m hm).take k).length = k := by simp [placesS]; omega
      have hcd := hDr.cell
      simp only [encN, placeS] at hy
      rw [← htake] at hR
      generalize (zk x0 y0 k).1 = u at *
      generalize place s m k = p at *
      replace hre' := Lib.hid hre'
      replace him' := Lib.hid him'
      clear htake hpl hti hmul hre him hv hpre
      rcases htm with ⟨h1, h2⟩ | ⟨h1, h2⟩
      · gi_wp2
        refine ⟨fun h => (by cases h), hR.mono ?_⟩
        rintro e W3 (⟨rfl, hJ3, hk3⟩ | ⟨rfl, hJx3⟩)
        · have hD3 : Boxed W3 (C + 1) 3 (.int .i64 m) := hk3.2.trans hDr
          gi_wp2
          go_roundw
          case rel => exact ⟨k + 1, re', im', by omega, rfl, by go_num, hre'.out, him'.out, hD3, hJ3⟩
          case measure => simp [intOf]; omega
        · gi_wp2
          refine bodyPost_ret (results_none rfl _ _ _) rfl ?_
          exact ⟨⟨_, rfl⟩, .inr ⟨(placesS s m hm).take (k + 1), by rw [hs]; exact List.take_prefix _ _, hJx3⟩⟩
      · obtain ⟨r, hr⟩ : ∃ r, u.tmod (m : Int) = r := ⟨_, rfl⟩
        rw [hr] at h1 h2
        gi_wp2
        refine ⟨fun h => (by cases h), hR.mono ?_⟩
        rintro e W3 (⟨rfl, hJ3, hk3⟩ | ⟨rfl, hJx3⟩)
        · have hD3 : Boxed W3 (C + 1) 3 (.int .i64 m) := hk3.2.trans hDr
          gi_wp2
          go_roundw
          case rel => exact ⟨k + 1, re', im', by omega, rfl, by go_num, hre'.out, him'.out, hD3, hJ3⟩
          case measure => simp [intOf]; omega
        · gi_wp2
          refine bodyPost_ret (results_none rfl _ _ _) rfl ?_
          exact ⟨⟨_, rfl⟩, .inr ⟨(placesS s m hm).take (k + 1), by rw [hs]; exact List.take_prefix _ _, hJx3⟩⟩
    · obtain rfl : k = 6 := by omega
      rw [List.take_of_length_le (by simp [placesS])] at hJr
      clear hre him
      gi_wp2
      go_end0
      exact ⟨⟨_, rfl⟩, .inl ⟨placesS s m hm, by rw [hs], hJr⟩⟩

/-- blooms.places: two boxes are laid; the function value has captured them. -/
theorem places_in (n : Nat) (key : ByteArray) (m : Nat) (w : World) :
    CallsIn Fence.wide n Tryd.prog 15 #[.string key, .int .i64 (m : Int)] w fun e w' => e = .returned (.func (.func 21) #[] #[.pointer (some ⟨w.heap.size, 0, none⟩), .pointer (some ⟨w.heap.size + 1, 0, none⟩)]) ∧
      w' = (w.alloc (.cells #[.string key] 9)).alloc (.cells #[.int .i64 (m : Int)] 3) := by
  refine callsIn_of_wp Tryd.func15 rfl trivial ?_ rfl
  simp only [Tryd.ntmps15, List.size_toArray, List.length_cons, List.length_nil, Nat.reduceAdd, Nat.reduceSub, Array.replicate_succ, Array.replicate_zero, List.push_toArray, List.append_toArray, List.nil_append, List.cons_append]
  gi_wp2
  go_ret
  exact ⟨rfl, rfl⟩

theorem places_stops (n : Nat) (C m : Nat) (key : ByteArray) (kl : List UInt8) (hkl : key.data.toList = kl) (kn : Nat) (hkn : key.size = kn) (hk : kn ≤ 140737488355328) (hm : 0 < m) (hm2 : m < 1000000000000) (w : World)
    (hC : Boxed w C 9 (.string key)) (hD : Boxed w (C + 1) 3 (.int .i64 m)) :
    SeqStopsK Fence.wide n Tryd.prog 21 #[.pointer (some ⟨C, 0, none⟩), .pointer (some ⟨C + 1, 0, none⟩)] encN (keeps2 C) (fun xs => xs = placesS (more 0 kl) m hm) (fun pre => pre <+: placesS (more 0 kl) m hm) 6 w := fun l J Jx W hW hJ hJx hY h0 =>
  placesIter_in n l C m key kl hkl kn hkn hk hm hm2 J Jx W hJ hY ((hW.block _ hC.lt).trans hC) ((hW.block _ hD.lt).trans hD) h0
theorem keeps2_t {C : Nat} {X Y Z : World} (h : keeps2 C X Y) (k : keeps2 C Y Z) : keeps2 C X Z := ⟨k.1.trans h.1, k.2.trans h.2⟩
theorem keeps2_b {C : Nat} {w : World} (hw : C + 1 < w.heap.size) (W : World) (l : Nat) (o o' : Obj) (hl : w.heap.size ≤ l) (h : W.heap[l]? = some o) (_ : o.isCells = false) (_ : o.isWalk = false) : keeps2 C W (W.putObj l o') :=
  ⟨World.putObj_heap_other (by omega), World.putObj_heap_other (by omega)⟩
end Go.Proofs.YtebledknjfojlaaDoor
