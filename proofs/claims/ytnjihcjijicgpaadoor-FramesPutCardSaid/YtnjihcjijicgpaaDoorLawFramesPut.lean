/- What stands behind any number of bytes, when any record is put there, is the chapter's, in new memory, or refused; the record stays as it was: for every input, no condition but what the listed variables hold. -/
import Derived.Test.YtnjihcjijicgpaaDoorFrLives
import Derived.Test.YtnjihcjijicgpaaDoorFrRefPut
import Derived.Test.YtnjihcjijicgpaaDoorTwinB
import Derived.Test.YtnjihcjijicgpaaDoorSheets
import Derived.Test.YtnjihcjijicgpaaDoorLiftD
import Derived.Test.YtnjihcjijicgpaaDoorCards
import Derived.Test.YtnjihcjijicgpaaDoorTie
import Derived.LaidMore
import Derived.SevenTiedAt
set_option linter.unusedSimpArgs false
set_option linter.unusedVariables false
namespace Go.Proofs.YtnjihcjijicgpaaDoor.lawFramesPut
open Go Go.RowKit Herb Go.ChangeShapes Go.WideShapes Go.ChangeAt

/-- What Put answers: bytes, or none. -/
def putE (p : Int) (r : List UInt8) : List UInt8 := if p < 0 ∨ 65536 < r.length then [] else Fr.put p.toNat r
def putR (p : Int) (r : List UInt8) : Int := if p < 0 then 1 else if 65536 < r.length then 3 else 0
theorem put_gen (w : World) (p : Int) (hp : p ≤ 9223372036854775807) (A : Option Addr) (n c : Nat) (r : List UInt8) (hln : r.length = n) (hnc : n ≤ c) (hb : Bs w A r) :
    Calls Tryd.prog 7 #[.int .i64 p, .slice A n c] w
      fun e w' => ∃ A' k, e = .returned (.tuple #[.slice A' k k, .int .i64 (putR p r)]) ∧ (putE p r).length = k ∧ Bs w' A' (putE p r) ∧ Own1 w' w.heap.size w'.heap.size A' k k ∧ Below w.heap.size w w' := by
  unfold putE putR
  by_cases h1 : p < 0
  · rw [if_pos h1, if_pos (.inl h1)]
    refine (put_neg w p h1 A n c).mono ?_
    rintro _ _ ⟨rfl, rfl⟩
    exact ⟨none, 0, rfl, rfl, Bs.nil_ _ _, Own1.none _ _ _, Below.refl _ _⟩
  rw [if_neg h1]
  by_cases h2 : 65536 < r.length
  · rw [if_pos h2, if_pos (.inr h2)]
    refine (put_great w p (by omega) A n c (by omega)).mono ?_
    rintro _ _ ⟨rfl, rfl⟩
    exact ⟨none, 0, rfl, rfl, Bs.nil_ _ _, Own1.none _ _ _, Below.refl _ _⟩
  rw [if_neg h2, if_neg (by omega)]
  obtain ⟨q, rfl⟩ : ∃ q : Nat, p = (q : Int) := ⟨p.toNat, by omega⟩
  rw [Int.toNat_natCast]
  refine (put_any w q (by omega) A n c r hln (by omega) hnc hb).mono ?_
  rintro _ w' ⟨g, k, cap, rfl, hk, hown, b⟩
  exact ⟨_, k, rfl, hk, bs_of (Rd.of_own hown) hk, Own1.of_row hown, b⟩
theorem refPut_gen (w : World) (p : Int) (hp : p ≤ 9223372036854775807) (A : Option Addr) (n c : Nat) (r : List UInt8) (hln : r.length = n) (hnc : n ≤ c) (hb : Bs w A r) :
    Calls Tryd.prog 8 #[.int .i64 p, .slice A n c] w
      fun e w' => ∃ A' k c', e = .returned (.tuple #[.slice A' k c', .int .i64 (putR p r)]) ∧ (putE p r).length = k ∧ Bs w' A' (putE p r) ∧ Below w.heap.size w w' := by
  unfold putE putR
  by_cases h1 : p < 0
  · rw [if_pos h1, if_pos (.inl h1)]
    refine (refPut_neg w p h1 A n c).mono ?_
    rintro _ _ ⟨rfl, rfl⟩
    exact ⟨none, 0, 0, rfl, rfl, Bs.nil_ _ _, Below.refl _ _⟩
  rw [if_neg h1]
  by_cases h2 : 65536 < r.length
  · rw [if_pos h2, if_pos (.inr h2)]
    refine (refPut_great w p (by omega) A n c (by omega)).mono ?_
    rintro _ _ ⟨rfl, rfl⟩
    exact ⟨none, 0, 0, rfl, rfl, Bs.nil_ _ _, Below.refl _ _⟩
  rw [if_neg h2, if_neg (by omega)]
  obtain ⟨q, rfl⟩ : ∃ q : Nat, p = (q : Int) := ⟨p.toNat, by omega⟩
  rw [Int.toNat_natCast]
  refine (refPut_any w q (by omega) A n c r hln (by omega) hnc hb).mono ?_
  rintro _ w' ⟨A', k, cap, rfl, hk, hbs, b⟩
  exact ⟨A', k, cap, rfl, hk, hbs, b⟩

set_option maxRecDepth 100000 in
set_option maxHeartbeats 6400000 in
theorem walk (w : World) (p : Int) (hp0 : -9223372036854775808 ≤ p) (hp : p ≤ 9223372036854775807) (A : Option Addr) (c : Nat) (l : List UInt8) (hl : l.length ≤ 140737488355328) (hb : Bs w A l) (hlc : l.length ≤ c) (hc : c ≤ 140737488355328) :
    Calls Tryd.prog 3 #[.int .i64 p, .slice A l.length c] w fun e w' => e = .returned (.bool true) ∧ Below w.heap.size w w' := by
  by_cases hbig : (3000 < l.length ∧ l.length ≤ 65536) ∨ 70000 < l.length
  · have dd : (decide ((3000 : Int) < (l.length : Int)) = true ∧ decide ((l.length : Int) ≤ 65536) = true) ∨ (decide ((l.length : Int) ≤ 65536) = false ∧ decide ((3000 : Int) < (l.length : Int)) = true ∧ decide ((70000 : Int) < (l.length : Int)) = true) := by
      rcases hbig with h | h
      · exact .inl ⟨decide_eq_true (by omega), decide_eq_true (by omega)⟩
      · exact .inr ⟨decide_eq_false (by omega), decide_eq_true (by omega), decide_eq_true (by omega)⟩
    obtain ⟨n, hn⟩ : ∃ n, l.length = n := ⟨_, rfl⟩
    rw [hn] at dd hl hlc ⊢
    clear hbig
    rcases dd with ⟨d1, d2⟩ | ⟨d1, d2, d3⟩
    · go_enter Tryd.func3, Tryd.ntmps3
      go_wp2_with fail
      refine (lives_any w).mono ?_
      rintro _ w1 ⟨rfl, b1⟩
      go_wp2
      go_ret
      exact ⟨rfl, b1⟩
    · go_enter Tryd.func3, Tryd.ntmps3
      go_wp2_with fail
      refine (lives_any w).mono ?_
      rintro _ w1 ⟨rfl, b1⟩
      go_wp2
      go_ret
      exact ⟨rfl, b1⟩
  have hn1 : l.length ≤ 70000 := by omega
  obtain ⟨n, hn⟩ : ∃ n, l.length = n := ⟨_, rfl⟩
  have pt := twinBytes_any w A c l (by omega) hb
  have pleft := fun W g (h : Bs W A l) (k : Blk W g 5 (bvs (l ++ [90, 90])).toArray) => leftBytes_any W g A c l (by omega) h k
  have cp := fun W A' c' (hc' : n ≤ c') (h : Bs W A' l) => put_gen W p hp A' n c' l hn hc' h
  have cr := fun W (h : Bs W A l) => refPut_gen W p hp A n c l hn (by omega) h
  obtain ⟨R, hR⟩ : ∃ R, putR p l = R := ⟨_, rfl⟩
  obtain ⟨L, hL⟩ : ∃ L, putE p l = L := ⟨_, rfl⟩
  have hLb : L.length ≤ 2000000 := by
    rw [← hL]
    unfold putE
    split
    · simp
    · have := Fr.put_length_le p.toNat l
      omega
  simp only [hR, hL] at cp cr
  rw [hn] at hn1 hl hlc pt pleft hbig ⊢
  have dd : (decide ((3000 : Int) < (n : Int)) = false ∧ decide ((70000 : Int) < (n : Int)) = false) ∨ (decide ((n : Int) ≤ 65536) = false ∧ decide ((3000 : Int) < (n : Int)) = true ∧ decide ((70000 : Int) < (n : Int)) = false) := by
    rcases Nat.lt_or_ge 3000 n with h | h
    · exact .inr ⟨decide_eq_false (by omega), decide_eq_true (by omega), decide_eq_false (by omega)⟩
    · exact .inl ⟨decide_eq_false (by omega), decide_eq_false (by omega)⟩
  clear hR hL hbig
  replace hn := Lib.hid hn
  replace pt := Lib.hid pt
  replace pleft := Lib.hid pleft
  replace cp := Lib.hid cp
  replace cr := Lib.hid cr
  have hend : ∀ K : Prop, (decide ((3000 : Int) < (n : Int)) = false ∧ decide ((70000 : Int) < (n : Int)) = false → K) → ((decide ((n : Int) ≤ 65536) = false ∧ decide ((3000 : Int) < (n : Int)) = true ∧ decide ((70000 : Int) < (n : Int)) = false) → K) → K := fun K h1 h2 => dd.elim h1 h2
  clear dd
  refine hend _ ?_ ?_
  all_goals
    clear hend
    rintro ⟨d1, d2⟩
    go_enter Tryd.func3, Tryd.ntmps3
    go_wp2_with fail
    refine pt.out.mono ?_
    clear pt
    obtain ⟨W1, hW1⟩ : ∃ W1, w.alloc (.cells (bvs (l ++ [90, 90])).toArray 5) = W1 := ⟨_, rfl⟩
    rw [hW1]
    rintro _ _ ⟨rfl, rfl⟩
    have bt : Blk W1 w.heap.size 5 (bvs (l ++ [90, 90])).toArray := by rw [← hW1]; exact Blk.new w _ _
    have hB1 : Below w.heap.size w W1 := by rw [← hW1]; exact (Below.refl w.heap.size w).alloc (Nat.le_refl _) _
    have ht1 : Own1 W1 w.heap.size W1.heap.size (some ⟨w.heap.size, 0, none⟩) n (n + 2) := Own1.of_blk bt (Nat.le_refl _) (by omega) (by rw [List.size_toArray, bvs_length, List.length_append, hn.out]; exact Nat.le_refl _) (by omega)
    clear hW1
    go_wp2_with fail
    refine (cp.out W1 _ (n + 2) (by omega) (Bs.twin bt)).mono ?_
    rintro _ w2 ⟨A2, n2, rfl, hn2, hs2, ho2, b2⟩
    replace hn2 := Lib.hid hn2
    have hB2 := hB1.trans (b2.mono hB1.size)
    replace bt := bt.below b2 bt.lt
    replace ht1 := ht1.below b2
    go_wp2_with fail
    refine (cr.out w2 (hb.below hB2)).mono ?_
    rintro _ w3 ⟨A3, n3, c3, rfl, hn3, hs3, b3⟩
    replace hn3 := Lib.hid hn3
    have hB3 := hB2.trans (b3.mono hB2.size)
    replace bt := bt.below b3 bt.lt
    replace ht1 := ht1.below b3
    replace ho2 := ho2.below b3
    replace hs2 := hs2.below b3
    go_wp2_with fail
    refine (cp.out w3 _ (n + 2) (by omega) (Bs.twin bt)).mono ?_
    rintro _ w4 ⟨A4, n4, rfl, hn4, hs4, ho4, b4⟩
    replace hn4 := Lib.hid hn4
    have hB4 := hB3.trans (b4.mono hB3.size)
    replace bt := bt.below b4 bt.lt
    replace ht1 := ht1.below b4
    replace ho2 := ho2.below b4
    replace hs2 := hs2.below b4
    replace hs3 := hs3.below b4
    have s12 := b2.size
    have s23 := b3.size
    have s34 := b4.size
    have hw1 := hB1.size
    clear hs4 b2 b3 b4
    have h32 : n3 = n2 := by rw [← hn3.out, ← hn2.out]
    subst h32
    have h42 : n4 = n3 := by rw [← hn4.out, ← hn3.out]
    subst h42
    have hLb1 : n4 ≤ 2000000 := by rw [← hn4.out]; exact hLb
    clear hLb
    go_wp2_with fail
    obtain ⟨p, hp⟩ : ∃ p, w4.heap.size = p := ⟨_, rfl⟩
    obtain ⟨W4, hW4⟩ : ∃ W4, w4.alloc (Obj.cells #[.slice none 0 0] 30) = W4 := ⟨_, rfl⟩
    have bk : BookAt W4 p p [] := by
      rw [← hW4, ← hp]
      exact ⟨none, 0, Blk.new w4 _ _, World.ownsRow_nil _ _ _ _⟩
    have b44 : Below w4.heap.size w4 W4 := by rw [← hW4]; exact (Below.refl _ _).alloc (Nat.le_refl _) _
    have hpl : p < W4.heap.size := by rw [← hW4, ← hp]; simp
    rw [hp, hW4]
    have hB5 := hB4.trans (b44.mono hB4.size)
    replace hs2 := hs2.below b44
    replace hs3 := hs3.below b44
    replace ht1 := ht1.below b44
    replace ho2 := ho2.below b44
    replace ho4 := ho4.below b44
    replace bt := bt.below b44 bt.lt
    rw [hp] at ho4
    clear hW4 b44
    refine (sameBytes_yes W4 _ _ n4 _ _ L hn4.out (by omega) hs2 hs3).mono ?_
    rintro _ W6 ⟨rfl, b6⟩
    have hB6 := hB5.trans (b6.mono hB5.size)
    have bt6 := bt.below b6 bt.lt
    go_wp2_with fail
    refine (pleft.out W6 _ (hb.below hB6) bt6).mono ?_
    rintro _ W9 ⟨rfl, b9⟩
    have b49 := b6.trans (b9.mono b6.size)
    have hB9 := hB5.trans (b49.mono hB5.size)
    have bk9 := bk.below b49
    replace ht1 := ht1.below b49
    replace ho2 := ho2.below b49
    replace ho4 := ho4.below b49
    have hp9 : p ≤ W9.heap.size := by have := b49.size; omega
    clear b6 b9 b49 bk hs2 hs3 hB5 hB6 bt6 bt
    go_wp2_with fail
    refine (bytes_any W9 p p [] bk9 hp9 0 rfl (by omega) _ n (n + 2)).mono ?_
    rintro _ W10 ⟨rfl, bk10, kt10, b10⟩
    have b10 := b10 (Nat.le_refl _)
    have hp10 : p ≤ W10.heap.size := Nat.le_trans hp9 kt10.size
    go_wp2_with fail
    refine (bytes_any W10 p p _ bk10 hp10 1 rfl (by omega) _ n4 n4).mono ?_
    rintro _ W11 ⟨rfl, bk11, kt11, b11⟩
    have b11 := b11 (Nat.le_refl _)
    have hp11 : p ≤ W11.heap.size := Nat.le_trans hp10 kt11.size
    go_wp2_with fail
    refine (bytes_any W11 p p _ bk11 hp11 2 rfl (by omega) _ n4 n4).mono ?_
    rintro _ W12 ⟨rfl, bk12, kt12, b12⟩
    have b12 := b12 (Nat.le_refl _)
    have hwp : w.heap.size ≤ p := by rw [← hp]; exact hB4.size
    have hB12 : Below w.heap.size w W12 := ((hB9.trans (b10.mono hwp)).trans (b11.mono hwp)).trans (b12.mono hwp)
    have go1 := ((ht1.keepT kt10).keepT kt11).keepT kt12
    have go2 := ((ho2.keepT kt10).keepT kt11).keepT kt12
    have go4 := ((ho4.keepT kt10).keepT kt11).keepT kt12
    have hsh := sheets3 (U := w.heap.size) (q0 := ⟨some ⟨w.heap.size, 0, none⟩, n, n + 2, 1⟩) (q1 := ⟨A2, n4, n4, 2⟩) (q2 := ⟨A4, n4, n4, 3⟩) go1 go2 go4 (.inl (by omega)) (.inl (by omega)) (.inl (by omega)) (by omega) (by omega) (by omega)
    have pa := apart_any W12 p p w.heap.size [⟨some ⟨w.heap.size, 0, none⟩, n, n + 2, 1⟩, ⟨A2, n4, n4, 2⟩, ⟨A4, n4, n4, 3⟩] bk12 hB12.size (by show 3 ≤ 8; omega) hsh.1 hsh.2.1 hsh.2.2
    clear bk9 bk10 bk11 bk12 kt10 kt11 kt12 ht1 ho2 ho4 go1 go2 go4 hsh
    replace pa := Lib.hid pa
    go_wp2_with fail
    refine pa.out.mono ?_
    rintro _ W13 ⟨rfl, b13⟩
    have hB13 := hB12.trans b13
    go_wp2_with fail
    refine (lives_any W13).mono ?_
    rintro _ W14 ⟨rfl, b14⟩
    go_wp2
    go_ret
    exact ⟨rfl, hB13.trans (b14.mono hB13.size)⟩

/-! ### from the walk to the statement (by tail.py) -/
set_option maxRecDepth 100000 in
theorem door_met (os : Os) (args : Array Value) : laidMetH Tryd.prog Rows.framesPutRow.laid ((World.doorLaid Tryd.prog 24 os).forCall (fun _ _ => 0) ⟨#[], args, []⟩).memory :=
  laidMetH_of_parts3 (fuel := 8) (laidMet_of_run' 8 (by kernel_rfl) (by kernel_rfl)) (by kernel_rfl) (by kernel_rfl)
set_option maxRecDepth 100000 in
theorem lifted (os : Os) (started : os.Started) (H : Type) (enc : TypeId × Value → H) :
    ReturnsInHanded {} Tryd.checked os 3 .any (fun w args => (Rows.framesPutSpec.pre enc Tryd.prog Tryd.f3 [] false w args ∧ laidMetH Tryd.prog Rows.framesPutRow.laid w) ∧ sizedMet enc Tryd.prog Tryd.f3 (OpenSpec.ofChange Rows.framesPutSpec) false w args) (Rows.framesPutSpec.post enc Tryd.prog Tryd.f3 false true false false) := by
  refine lifted_of_and (C := Tryd.checked) (tb := 4) (n := 2) (X := fun w _ => laidMetH Tryd.prog Rows.framesPutRow.laid w) (fun _ _ _ hh h => h.of_heap hh) (by kernel_rfl) started (by kernel_rfl) Tryd.func3 (by kernel_rfl) (by kernel_rfl) rfl (by kernel_rfl) Tryd.underlying4 (by kernel_rfl)
    (fun ds hd => by match ds, hd with | [d1, d2], _ => exact ⟨rfl, rfl, rfl⟩)
    (ChangeSpec.witness_shaped (enc := enc) (C := Tryd.checked) (os := os) (X := fun w _ => laidMetH Tryd.prog Rows.framesPutRow.laid w) false (World.doorLaid Tryd.prog 24 os) #[.int .i64 0, .slice none 0 0] 8 rfl (World.shaped_of_RefB (by kernel_rfl) (by kernel_rfl)) (by kernel_rfl) (by kernel_rfl) (by kernel_rfl) (door_met os _)) ?_
  intro W base args ds before hval hA hsz hX
  rw [Tryd.params3] at hA hval hsz
  obtain ⟨v0, vs0, d0, ds0, p0, q0, rfl, rfl, rfl, h0, r0⟩ := trodAll_cons hA
  obtain ⟨v1, vs1, d1, ds1, p1, q1, rfl, rfl, rfl, h1, r1⟩ := trodAll_cons r0
  obtain ⟨rfl, rfl, rfl⟩ := trodAll_nil r1
  obtain ⟨x0, rfl, hxl0, hxh0⟩ := open_i64 Tryd.underlying3 (hval 0 _ _ rfl rfl) h0
  obtain ⟨A1, c1, l1, rfl, hb1, hlc1, _, hcap1⟩ := open_bytes Tryd.underlying22 Tryd.underlying5 (by kernel_rfl) (by kernel_rfl) (hval 1 _ _ rfl rfl) h1
  have hc1 := hcap1 hsz 1 rfl rfl
  exact walk W x0 hxl0 hxh0 A1 c1 l1 (by have := reachBytes_lt; omega) hb1 hlc1 (by have := reachBytes_lt; omega)

theorem over : Rows.framesPutRow.holds Tryd.pinned (OpenSpec.ofChange Rows.framesPutSpec) :=
  OpenClaim.holds_of_wide 3 Tryd.f3 rfl rfl rfl rfl rfl rfl rfl ⟨rfl, rfl, rfl, rfl, rfl⟩ rfl rfl rfl rfl rfl (by kernel_rfl) Tryd.func3 (by kernel_rfl)
    (of_decide_eq_true (by kernel_rfl)) (by unfold Func.isWrapper; first | (rw [if_pos (by decide +kernel)]; kernel_rfl) | (rw [if_neg (by decide +kernel)]; exact ⟨rfl, rfl⟩))
    (fun os started H enc _ => lifted os started H enc)

theorem proved : Rows.FramesPutCardSaid :=
  Claim7.holds_tied_plain_at .later [] [.data, .data, .data] true (true, "9e5abdaaf07a2ce2cbf6356c0d285e15b253ed0633203ba9dd521d1ad7a6f9e5") false
    over (fun _ h => by cases h) (by kernel_rfl) (fun _ h => by cases h) framesPut_row_tie rfl ⟨rfl, rfl⟩ (by kernel_rfl) rfl
    (fun f fn hf hfn => by
      obtain rfl : f = 3 := Option.some.inj ((show Tryd.prog.funcNamed "herbarium/herbariumlaw05.FramesPut" = some 3 by kernel_rfl).symm.trans hf) |>.symm
      obtain rfl : fn = Tryd.f3 := (Option.some.inj (Tryd.func3.symm.trans hfn)).symm
      exact ⟨by kernel_rfl, fun j t ht => by
        have hall : (Tryd.f3.params.toList.all fun u => !Tryd.prog.wantsStandIn u) = true := by kernel_rfl
        have hm : t ∈ Tryd.f3.params.toList := Array.mem_toList_iff.2 (Array.mem_of_getElem? ht)
        exact (show Tryd.prog.wantsStandIn t = false by simpa using List.all_eq_true.1 hall t hm)⟩)
    (by kernel_rfl)
end Go.Proofs.YtnjihcjijicgpaaDoor.lawFramesPut
