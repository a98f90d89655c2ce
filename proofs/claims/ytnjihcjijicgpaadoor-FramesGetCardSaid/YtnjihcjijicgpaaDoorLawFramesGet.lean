/- The record that stands at any place of any bytes, and where it ends, are the chapter's, in new memory, or refused; the bytes stay as they were: for every input, no condition but what the listed variables hold. -/
import Derived.Test.YtnjihcjijicgpaaDoorFrLives
import Derived.Test.YtnjihcjijicgpaaDoorFrRefGet
import Derived.Test.YtnjihcjijicgpaaDoorTwinB
import Derived.Test.YtnjihcjijicgpaaDoorSheets
import Derived.Test.YtnjihcjijicgpaaDoorLiftD
import Derived.Test.YtnjihcjijicgpaaDoorCards
import Derived.Test.YtnjihcjijicgpaaDoorTie
import Derived.LaidMore
import Derived.SevenTiedAt
set_option linter.unusedSimpArgs false
set_option linter.unusedVariables false
namespace Go.Proofs.YtnjihcjijicgpaaDoor.lawFramesGet
open Go Go.RowKit Herb Go.ChangeShapes Go.WideShapes Go.ChangeAt

theorem get_x (l : List UInt8) (p : Nat) : (Fr.get l p).1.length ≤ 65536 := by
  by_cases h : (Fr.get l p).2.2 = 0
  · obtain ⟨⟨x, n, e⟩, hx⟩ : ∃ r, Fr.get l p = r := ⟨_, rfl⟩
    rw [hx] at h ⊢
    simp only at h
    subst h
    exact (Fr.get_again l p x n hx).2.2.2.2
  · rw [(Fr.get_err l p h).1]
    simp
/-- What Get answers. -/
def getE (l : List UInt8) (p : Int) : List UInt8 := if p < 0 ∨ (l.length : Int) < p then [] else (Fr.get l p.toNat).1
def getN (l : List UInt8) (p : Int) : Nat := if p < 0 ∨ (l.length : Int) < p then 0 else (Fr.get l p.toNat).2.1
def getR (l : List UInt8) (p : Int) : Nat := if p < 0 ∨ (l.length : Int) < p then 1 else (Fr.get l p.toNat).2.2
theorem getE_len (l : List UInt8) (p : Int) : (getE l p).length ≤ 65536 := by
  unfold getE
  split
  · simp
  · exact get_x _ _
theorem get_gen (w : World) (p : Int) (A : Option Addr) (n c : Nat) (l : List UInt8) (hln : l.length = n) (hn : n ≤ 1000000) (hnc : n ≤ c) (hb : Bs w A l) :
    Calls Tryd.prog 13 #[.slice A n c, .int .i64 p] w
      fun e w' => ∃ A' k, e = .returned (.tuple #[.slice A' k k, .int .i64 (getN l p : Int), .int .i64 (getR l p : Int)]) ∧ (getE l p).length = k ∧ Bs w' A' (getE l p) ∧ Own1 w' w.heap.size w'.heap.size A' k k ∧ Below w.heap.size w w' := by
  unfold getE getN getR
  by_cases h1 : p < 0 ∨ (l.length : Int) < p
  · rw [if_pos h1, if_pos h1, if_pos h1]
    refine (get_bad w A n c p (by omega)).mono ?_
    rintro _ _ ⟨rfl, rfl⟩
    exact ⟨none, 0, rfl, rfl, Bs.nil_ _ _, Own1.none _ _ _, Below.refl _ _⟩
  rw [if_neg h1, if_neg h1, if_neg h1]
  obtain ⟨q, rfl⟩ : ∃ q : Nat, p = (q : Int) := ⟨p.toNat, by omega⟩
  rw [Int.toNat_natCast]
  refine (get_at w A n c l hln hn hnc hb q (by omega) _ _ _ rfl).mono ?_
  rintro _ w' ⟨A', k, cap, rfl, hk, hown, b⟩
  exact ⟨A', k, rfl, hk, bs_of (Rd.of_own hown) hk, Own1.of_row hown, b⟩
theorem refGet_gen (w : World) (p : Int) (A : Option Addr) (n c : Nat) (l : List UInt8) (hln : l.length = n) (hn : n ≤ 1000000) (hnc : n ≤ c) (hb : Bs w A l) :
    Calls Tryd.prog 14 #[.slice A n c, .int .i64 p] w
      fun e w' => ∃ A' k c', e = .returned (.tuple #[.slice A' k c', .int .i64 (getN l p : Int), .int .i64 (getR l p : Int)]) ∧ (getE l p).length = k ∧ Bs w' A' (getE l p) ∧ Below w.heap.size w w' := by
  unfold getE getN getR
  by_cases h1 : p < 0 ∨ (l.length : Int) < p
  · rw [if_pos h1, if_pos h1, if_pos h1]
    refine (refGet_bad w A n c p (by omega)).mono ?_
    rintro _ _ ⟨rfl, rfl⟩
    exact ⟨none, 0, 0, rfl, rfl, Bs.nil_ _ _, Below.refl _ _⟩
  rw [if_neg h1, if_neg h1, if_neg h1]
  obtain ⟨q, rfl⟩ : ∃ q : Nat, p = (q : Int) := ⟨p.toNat, by omega⟩
  rw [Int.toNat_natCast]
  exact refGet_any w A n c l hln hn hnc hb q (by omega) _ _ _ rfl

set_option maxRecDepth 100000 in
set_option maxHeartbeats 6400000 in
theorem walk (w : World) (A : Option Addr) (c : Nat) (l : List UInt8) (hl : l.length ≤ 140737488355328) (hb : Bs w A l) (hlc : l.length ≤ c) (hc : c ≤ 140737488355328) (p : Int) (hp0 : -9223372036854775808 ≤ p) (hp : p ≤ 9223372036854775807) :
    Calls Tryd.prog 4 #[.slice A l.length c, .int .i64 p] w fun e w' => e = .returned (.bool true) ∧ Below w.heap.size w w' := by
  obtain ⟨n, hn⟩ : ∃ n, l.length = n := ⟨_, rfl⟩
  by_cases hbig : 70000 < l.length
  · rw [hn] at hbig ⊢
    have dd : decide ((70000 : Int) < (n : Int)) = true := decide_eq_true (by omega)
    clear hbig
    go_enter Tryd.func4, Tryd.ntmps4
    go_wp2_with fail
    refine (lives_any w).mono ?_
    rintro _ w1 ⟨rfl, b1⟩
    go_wp2
    go_ret
    exact ⟨rfl, b1⟩
  have hn1 : l.length ≤ 70000 := by omega
  have pt := twinBytes_any w A c l (by omega) hb
  have pleft := fun W g (h : Bs W A l) (k : Blk W g 5 (bvs (l ++ [90, 90])).toArray) => leftBytes_any W g A c l (by omega) h k
  have cp := fun W A' c' (hc' : n ≤ c') (h : Bs W A' l) => get_gen W p A' n c' l hn (by omega) hc' h
  have cr := fun W (h : Bs W A l) => refGet_gen W p A n c l hn (by omega) (by omega) h
  have hLb := getE_len l p
  obtain ⟨R, hR⟩ : ∃ R, getR l p = R := ⟨_, rfl⟩
  obtain ⟨M, hM⟩ : ∃ M, getN l p = M := ⟨_, rfl⟩
  obtain ⟨L, hL⟩ : ∃ L, getE l p = L := ⟨_, rfl⟩
  simp only [hR, hM, hL] at cp cr hLb
  rw [hn] at hn1 hl hlc pt pleft hbig ⊢
  have dd : decide ((70000 : Int) < (n : Int)) = false := decide_eq_false (by omega)
  clear hR hM hL hbig
  replace hn := Lib.hid hn
  replace pt := Lib.hid pt
  replace pleft := Lib.hid pleft
  replace cp := Lib.hid cp
  replace cr := Lib.hid cr
  go_enter Tryd.func4, Tryd.ntmps4
  go_wp2_with fail
  refine pt.out.mono ?_
  clear pt
  obtain ⟨W1, hW1⟩ : ∃ W1, w.alloc (.cells (bvs (l ++ [90, 90])).toArray 5) = W1 := ⟨_, rfl⟩
  rw [hW1]
  rintro _ _ ⟨rfl, rfl⟩
  have bt : Blk W1 w.heap.size 5 (bvs (l ++ [90, 90])).toArray := by rw [← hW1]; exact Blk.new w _ _
  have hB1 : Below w.heap.size w W1 := by rw [← hW1]; exact (Below.refl w.heap.size w).alloc (Nat.le_refl _) _
  have ht1 : Own1 W1 w.heap.size W1.heap.size (some ⟨w.heap.size, 0, none⟩) n (n + 2) := Own1.of_blk bt (Nat.le_refl _) (by omega) (by rw [List.size_toArray, bvs_length, List.length_append, hn.out]; exact Nat.le_refl _) (by omega)
  clear hW1
  go_wp2_with fail
  refine (cp.out W1 _ (n + 2) (by omega) (Bs.twin bt)).mono ?_
  rintro _ w2 ⟨A2, n2, rfl, hn2, hs2, ho2, b2⟩
  replace hn2 := Lib.hid hn2
  have hB2 := hB1.trans (b2.mono hB1.size)
  replace bt := bt.below b2 bt.lt
  replace ht1 := ht1.below b2
  go_wp2_with fail
  refine (cr.out w2 (hb.below hB2)).mono ?_
  rintro _ w4 ⟨A3, n3, c3, rfl, hn3, hs3, b3⟩
  replace hn3 := Lib.hid hn3
  have hB4 := hB2.trans (b3.mono hB2.size)
  replace bt := bt.below b3 bt.lt
  replace ht1 := ht1.below b3
  replace ho2 := ho2.below b3
  replace hs2 := hs2.below b3
  have s12 := b2.size
  have s23 := b3.size
  have hw1 := hB1.size
  clear b2 b3
  have h32 : n3 = n2 := by rw [← hn3.out, ← hn2.out]
  subst h32
  have hLb1 : n3 ≤ 2000000 := by rw [← hn3.out]; omega
  clear hLb
  go_wp2_with fail
  obtain ⟨p, hp⟩ : ∃ p, w4.heap.size = p := ⟨_, rfl⟩
  obtain ⟨W4, hW4⟩ : ∃ W4, w4.alloc (Obj.cells #[.slice none 0 0] 30) = W4 := ⟨_, rfl⟩
  have bk : BookAt W4 p p [] := by
    rw [← hW4, ← hp]
    exact ⟨none, 0, Blk.new w4 _ _, World.ownsRow_nil _ _ _ _⟩
  have b44 : Below w4.heap.size w4 W4 := by rw [← hW4]; exact (Below.refl _ _).alloc (Nat.le_refl _) _
  have hpl : p < W4.heap.size := by rw [← hW4, ← hp]; simp
  rw [hp, hW4]
  have hB5 := hB4.trans (b44.mono hB4.size)
  replace hs2 := hs2.below b44
  replace hs3 := hs3.below b44
  replace ht1 := ht1.below b44
  replace ho2 := ho2.below b44
  replace bt := bt.below b44 bt.lt
  clear hW4 b44
  refine (sameBytes_yes W4 _ _ n3 _ _ L hn3.out (by omega) hs2 hs3).mono ?_
  rintro _ W6 ⟨rfl, b6⟩
  have hB6 := hB5.trans (b6.mono hB5.size)
  have bt6 := bt.below b6 bt.lt
  go_wp2_with fail
  refine (pleft.out W6 _ (hb.below hB6) bt6).mono ?_
  rintro _ W9 ⟨rfl, b9⟩
  have b49 := b6.trans (b9.mono b6.size)
  have hB9 := hB5.trans (b49.mono hB5.size)
  have bk9 := bk.below b49
  replace ht1 := ht1.below b49
  replace ho2 := ho2.below b49
  have hp9 : p ≤ W9.heap.size := by have := b49.size; omega
  clear b6 b9 b49 bk hs2 hs3 hB5 hB6 bt6 bt
  go_wp2_with fail
  refine (bytes_any W9 p p [] bk9 hp9 0 rfl (by omega) _ n (n + 2)).mono ?_
  rintro _ W10 ⟨rfl, bk10, kt10, b10⟩
  have b10 := b10 (Nat.le_refl _)
  have hp10 : p ≤ W10.heap.size := Nat.le_trans hp9 kt10.size
  go_wp2_with fail
  refine (bytes_any W10 p p _ bk10 hp10 1 rfl (by omega) _ n3 n3).mono ?_
  rintro _ W12 ⟨rfl, bk12, kt12, b12⟩
  have b12 := b12 (Nat.le_refl _)
  have hwp : w.heap.size ≤ p := by rw [← hp]; exact hB4.size
  have hB12 : Below w.heap.size w W12 := (hB9.trans (b10.mono hwp)).trans (b12.mono hwp)
  have go1 := (ht1.keepT kt10).keepT kt12
  have go2 := (ho2.keepT kt10).keepT kt12
  have hsh := sheets2 (U := w.heap.size) (q0 := ⟨some ⟨w.heap.size, 0, none⟩, n, n + 2, 1⟩) (q1 := ⟨A2, n3, n3, 2⟩) go1 go2 (.inl (by omega)) (by omega) (by omega)
  have pa := apart_any W12 p p w.heap.size [⟨some ⟨w.heap.size, 0, none⟩, n, n + 2, 1⟩, ⟨A2, n3, n3, 2⟩] bk12 hB12.size (by show 2 ≤ 8; omega) hsh.1 hsh.2.1 hsh.2.2
  clear bk9 bk10 bk12 kt10 kt12 ht1 ho2 go1 go2 hsh
  replace pa := Lib.hid pa
  go_wp2_with fail
  refine pa.out.mono ?_
  rintro _ W13 ⟨rfl, b13⟩
  have hB13 := hB12.trans b13
  go_wp2_with fail
  refine (lives_any W13).mono ?_
  rintro _ W14 ⟨rfl, b14⟩
  go_wp2
  go_ret
  exact ⟨rfl, hB13.trans (b14.mono hB13.size)⟩

/-! ### from the walk to the statement (by tail.py) -/
set_option maxRecDepth 100000 in
theorem door_met (os : Os) (args : Array Value) : laidMetH Tryd.prog Rows.framesGetRow.laid ((World.doorLaid Tryd.prog 24 os).forCall (fun _ _ => 0) ⟨#[], args, []⟩).memory :=
  laidMetH_of_parts3 (fuel := 8) (laidMet_of_run' 8 (by kernel_rfl) (by kernel_rfl)) (by kernel_rfl) (by kernel_rfl)
set_option maxRecDepth 100000 in
theorem lifted (os : Os) (started : os.Started) (H : Type) (enc : TypeId × Value → H) :
    ReturnsInHanded {} Tryd.checked os 4 .any (fun w args => (Rows.framesGetSpec.pre enc Tryd.prog Tryd.f4 [] false w args ∧ laidMetH Tryd.prog Rows.framesGetRow.laid w) ∧ sizedMet enc Tryd.prog Tryd.f4 (OpenSpec.ofChange Rows.framesGetSpec) false w args) (Rows.framesGetSpec.post enc Tryd.prog Tryd.f4 false true false false) := by
  refine lifted_of_and (C := Tryd.checked) (tb := 4) (n := 2) (X := fun w _ => laidMetH Tryd.prog Rows.framesGetRow.laid w) (fun _ _ _ hh h => h.of_heap hh) (by kernel_rfl) started (by kernel_rfl) Tryd.func4 (by kernel_rfl) (by kernel_rfl) rfl (by kernel_rfl) Tryd.underlying4 (by kernel_rfl)
    (fun ds hd => by match ds, hd with | [d1, d2], _ => exact ⟨rfl, rfl, rfl⟩)
    (ChangeSpec.witness_shaped (enc := enc) (C := Tryd.checked) (os := os) (X := fun w _ => laidMetH Tryd.prog Rows.framesGetRow.laid w) false (World.doorLaid Tryd.prog 24 os) #[.slice none 0 0, .int .i64 0] 8 rfl (World.shaped_of_RefB (by kernel_rfl) (by kernel_rfl)) (by kernel_rfl) (by kernel_rfl) (by kernel_rfl) (door_met os _)) ?_
  intro W base args ds before hval hA hsz hX
  rw [Tryd.params4] at hA hval hsz
  obtain ⟨v0, vs0, d0, ds0, p0, q0, rfl, rfl, rfl, h0, r0⟩ := trodAll_cons hA
  obtain ⟨v1, vs1, d1, ds1, p1, q1, rfl, rfl, rfl, h1, r1⟩ := trodAll_cons r0
  obtain ⟨rfl, rfl, rfl⟩ := trodAll_nil r1
  obtain ⟨A0, c0, l0, rfl, hb0, hlc0, _, hcap0⟩ := open_bytes Tryd.underlying22 Tryd.underlying5 (by kernel_rfl) (by kernel_rfl) (hval 0 _ _ rfl rfl) h0
  have hc0 := hcap0 hsz 0 rfl rfl
  obtain ⟨x1, rfl, hxl1, hxh1⟩ := open_i64 Tryd.underlying3 (hval 1 _ _ rfl rfl) h1
  exact walk W A0 c0 l0 (by have := reachBytes_lt; omega) hb0 hlc0 (by have := reachBytes_lt; omega) x1 hxl1 hxh1

theorem over : Rows.framesGetRow.holds Tryd.pinned (OpenSpec.ofChange Rows.framesGetSpec) :=
  OpenClaim.holds_of_wide 4 Tryd.f4 rfl rfl rfl rfl rfl rfl rfl ⟨rfl, rfl, rfl, rfl, rfl⟩ rfl rfl rfl rfl rfl (by kernel_rfl) Tryd.func4 (by kernel_rfl)
    (of_decide_eq_true (by kernel_rfl)) (by unfold Func.isWrapper; first | (rw [if_pos (by decide +kernel)]; kernel_rfl) | (rw [if_neg (by decide +kernel)]; exact ⟨rfl, rfl⟩))
    (fun os started H enc _ => lifted os started H enc)

theorem proved : Rows.FramesGetCardSaid :=
  Claim7.holds_tied_plain_at .later [] [.data, .data, .data] true (true, "9e5abdaaf07a2ce2cbf6356c0d285e15b253ed0633203ba9dd521d1ad7a6f9e5") false
    over (fun _ h => by cases h) (by kernel_rfl) (fun _ h => by cases h) framesGet_row_tie rfl ⟨rfl, rfl⟩ (by kernel_rfl) rfl
    (fun f fn hf hfn => by
      obtain rfl : f = 4 := Option.some.inj ((show Tryd.prog.funcNamed "herbarium/herbariumlaw05.FramesGet" = some 4 by kernel_rfl).symm.trans hf) |>.symm
      obtain rfl : fn = Tryd.f4 := (Option.some.inj (Tryd.func4.symm.trans hfn)).symm
      exact ⟨by kernel_rfl, fun j t ht => by
        have hall : (Tryd.f4.params.toList.all fun u => !Tryd.prog.wantsStandIn u) = true := by kernel_rfl
        have hm : t ∈ Tryd.f4.params.toList := Array.mem_toList_iff.2 (Array.mem_of_getElem? ht)
        exact (show Tryd.prog.wantsStandIn t = false by simpa using List.all_eq_true.1 hall t hm)⟩)
    (by kernel_rfl)
end Go.Proofs.YtnjihcjijicgpaaDoor.lawFramesGet
