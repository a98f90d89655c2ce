/- Any number, and any text, behind any bytes, are the chapter's, in new memory; the bytes stay as they were: for every input, no condition but what the listed variables hold. -/
import Derived.Test.YtajlghnbjomnnaaDoorVarLives
import Derived.Test.YtajlghnbjomnnaaDoorLiftD
import Derived.Test.YtajlghnbjomnnaaDoorRefPut
import Derived.Test.YtajlghnbjomnnaaDoorBookC
import Derived.Test.YtajlghnbjomnnaaDoorSameB
import Derived.Test.YtajlghnbjomnnaaDoorCards
import Derived.Test.YtajlghnbjomnnaaDoorTie
import Derived.LaidMore
import Derived.SevenTiedAt
set_option linter.unusedSimpArgs false
set_option linter.unusedVariables false
namespace Go.Proofs.YtajlghnbjomnnaaDoor.lawVarintsPut
open Go Go.RowKit Herb Go.ChangeShapes Go.WideShapes Go.ChangeAt

theorem own_blk {w : World} {base n g cap : Nat} {e : TypeId} {xs : List Value} (h : w.ownsRow base e 1 (.slice (some ⟨g, 0, none⟩) n cap) n xs) : ∃ cur, Blk w g e cur ∧ n ≤ cur.size ∧ base ≤ g ∧ n ≤ 9223372036854775807 ∧ g < w.heap.size := by
  rcases h.2 with ⟨h0, _⟩ | ⟨g', cap', cur, h0, hbg, hg, hnc, hcm, hcs, _⟩
  · cases h0
  · cases h0
    unfold maxLen at hcm
    exact ⟨cur, hg, by omega, hbg, by omega, (show Blk w g e cur from hg).lt⟩
theorem KeepT.blk {w w' : World} (h : KeepT w w') {g : Nat} {cs : Array Value} (hg : Blk w g 5 cs) : Blk w' g 5 cs := h.block g cs _ _ hg (by decide) (by decide)

set_option maxRecDepth 100000 in
set_option maxHeartbeats 6400000 in
theorem walk (w : World) (A : Option Addr) (c : Nat) (l : List UInt8) (hl : l.length ≤ 140737488355328) (hb : Bs w A l) (hlc : l.length ≤ c) (hc : c ≤ 140737488355328) (v : Nat) (hv : v < 18446744073709551616) (s : ByteArray) (hs : s.size ≤ 140737488355328) :
    Calls Tryd.prog 3 #[.slice A l.length c, .int .u64 (v : Int), .string s] w fun e w' => e = .returned (.bool true) ∧ Below w.heap.size w w' := by
  by_cases hbig : 100000 < l.length + s.size
  · have d1 : decide ((100000 : Int) < (l.length : Int) + (s.size : Int)) = true := decide_eq_true (by omega)
    go_enter Tryd.func3, Tryd.ntmps3
    go_wp2_with fail
    refine (lives_any w).mono ?_
    rintro _ w1 ⟨rfl, b1⟩
    go_wp2
    go_ret
    exact ⟨rfl, b1⟩
  have d1 : decide ((100000 : Int) < (l.length : Int) + (s.size : Int)) = false := decide_eq_false (by omega)
  have hn1 : l.length ≤ 100000 := by omega
  have hs1 : s.size ≤ 100000 := by omega
  obtain ⟨n, hn⟩ : ∃ n, l.length = n := ⟨_, rfl⟩
  have pt := twinBytes_any w A c l (by omega) hb
  have pleft := fun W g (h : Bs W A l) (k : Blk W g 5 (bvs (l ++ [90, 90])).toArray) => leftBytes_any W g A c l (by omega) h k
  rw [hn] at d1 hn1 hl hlc pt pleft ⊢
  replace hn := Lib.hid hn
  replace pt := Lib.hid pt
  replace pleft := Lib.hid pleft
  go_enter Tryd.func3, Tryd.ntmps3
  go_wp2_with fail
  refine pt.out.mono ?_
  clear pt
  obtain ⟨W1, hW1⟩ : ∃ W1, w.alloc (.cells (bvs (l ++ [90, 90])).toArray 5) = W1 := ⟨_, rfl⟩
  rw [hW1]
  rintro _ _ ⟨rfl, rfl⟩
  have bt : Blk W1 w.heap.size 5 (bvs (l ++ [90, 90])).toArray := by rw [← hW1]; exact Blk.new w _ _
  have hB1 : Below w.heap.size w W1 := by rw [← hW1]; exact (Below.refl w.heap.size w).alloc (Nat.le_refl _) _
  clear hW1
  have htl := bt.lt
  go_wp2_with fail
  refine (put_any W1 _ n (n + 2) l hn.out (by omega) (by omega) (Bs.twin bt) v hv).mono ?_
  rintro _ W2 ⟨kx, gx, cx, hkx, rfl, hownx, b2⟩
  have bt2 := bt.below b2 bt.lt
  have hB2 := hB1.trans (b2.mono hB1.size)
  go_wp2_with fail
  refine (putText_any W2 _ n (n + 2) l hn.out (by omega) s (by omega) (Bs.twin bt2)).mono ?_
  rintro _ W3 ⟨ky, gy, cy, hky, rfl, howny, b3⟩
  have bt3 := bt2.below b3 bt2.lt
  have hB3 := hB2.trans (b3.mono hB2.size)
  obtain ⟨curx, bx2, hxs, hgx, hkx63, hgx2⟩ := own_blk hownx
  obtain ⟨cury, by3, hys, hgy, hky63, hgy2⟩ := own_blk howny
  have bx3 := bx2.below b3 bx2.lt
  have hbx3 := ((Bs.of_own hownx).2).below b3
  have hby3 := (Bs.of_own howny).2
  have h2s := b2.size
  clear hownx howny b2 b3 bt bt2 bx2
  go_wp2_with fail
  obtain ⟨p, hp⟩ : ∃ p, W3.heap.size = p := ⟨_, rfl⟩
  obtain ⟨W4, hW4⟩ : ∃ W4, W3.alloc (Obj.cells #[.slice none 0 0] 30) = W4 := ⟨_, rfl⟩
  have bk : BookAt W4 p p [] := by
    rw [← hW4, ← hp]
    exact ⟨none, 0, Blk.new W3 _ _, World.ownsRow_nil _ _ _ _⟩
  have b34 : Below W3.heap.size W3 W4 := by rw [← hW4]; exact (Below.refl _ _).alloc (Nat.le_refl _) _
  have hpl : p < W4.heap.size := by rw [← hW4, ← hp]; simp
  rw [hp, hW4]
  have bt4 := bt3.below b34 bt3.lt
  have bx4 := bx3.below b34 bx3.lt
  have by4 := by3.below b34 by3.lt
  have hbx4 := hbx3.below b34
  have hby4 := hby3.below b34
  have hB4 := hB3.trans (b34.mono hB3.size)
  rw [hp] at hgy2
  clear hW4 b34 bt3 bx3 by3 hbx3 hby3 hB3
  refine (refPut_any W4 A n c l hn.out (by omega) (hb.below hB4) v hv).mono ?_
  rintro _ W5 ⟨v5, k5, rfl, hk5, hown5, b5⟩
  obtain ⟨A5, c5, rfl⟩ := own_slice hown5
  have hb5 := (Bs.of_own hown5).2
  have hkk : k5 = kx := by rw [← hk5, hkx]
  have hkxb : kx ≤ 200000 := by
    have h1 := hn.out
    have h2 := enc_len64 hv
    rw [← hkx, List.length_append]
    omega
  subst hkk
  have hB5 := hB4.trans (b5.mono hB4.size)
  clear hown5
  go_wp2_with fail
  refine (sameBytes_yes W5 _ _ k5 _ _ (l ++ enc v) hkx (by omega) (hbx4.below b5) hb5).mono ?_
  rintro _ W6 ⟨rfl, b6⟩
  have b56 := b5.trans (b6.mono b5.size)
  have hB6 := hB4.trans (b56.mono hB4.size)
  clear hb5 b5 b6 hB5
  go_wp2_with fail
  refine (refPutText_any W6 A n c l hn.out s (by omega) (hb.below hB6)).mono ?_
  rintro _ W7 ⟨v7, k7, rfl, hk7, hown7, b7⟩
  obtain ⟨A7, c7, rfl⟩ := own_slice hown7
  have hb7 := (Bs.of_own hown7).2
  have hkk : k7 = ky := by rw [← hk7, hky]
  subst hkk
  have b57 := b56.trans (b7.mono b56.size)
  have hel := enc_len64 (n := s.size) (by omega)
  have hkyb : k7 ≤ 300000 := by
    rw [← hk7]
    have h1 := hn.out
    have h2 : s.data.toList.length = s.size := rfl
    simp only [List.length_append]
    omega
  clear hown7
  go_wp2_with fail
  refine (sameBytes_yes W7 _ _ k7 _ _ (l ++ enc s.size ++ s.data.toList) hky (by omega) (hby4.below b57) hb7).mono ?_
  rintro _ W8 ⟨rfl, b8⟩
  have b58 := b57.trans (b8.mono b57.size)
  have hB8 := hB4.trans (b58.mono hB4.size)
  clear hb7 b7 b8 b57 b56 hB6
  go_wp2_with fail
  refine (pleft.out W8 _ (hb.below hB8) (bt4.below b58 bt4.lt)).mono ?_
  rintro _ W9 ⟨rfl, b9⟩
  have b49 := b58.trans (b9.mono b58.size)
  have hB9 := hB4.trans (b49.mono hB4.size)
  have bk9 := bk.below b49
  have bt9 := bt4.below b49 bt4.lt
  have bx9 := bx4.below b49 bx4.lt
  have by9 := by4.below b49 by4.lt
  have hp9 : p ≤ W9.heap.size := by have := b49.size; omega
  clear b9 b58 b49 hB8 bk bt4 bx4 by4 hbx4 hby4 pleft hB4
  go_wp2_with fail
  refine (bytes_any W9 p p [] bk9 hp9 0 rfl (by omega) _ n (n + 2)).mono ?_
  rintro _ W10 ⟨rfl, bk10, kt10, b10⟩
  have b10 := b10 (Nat.le_refl _)
  have hp10 : p ≤ W10.heap.size := Nat.le_trans hp9 kt10.size
  go_wp2_with fail
  refine (bytes_any W10 p p _ bk10 hp10 1 rfl (by omega) _ k5 k5).mono ?_
  rintro _ W11 ⟨rfl, bk11, kt11, b11⟩
  have b11 := b11 (Nat.le_refl _)
  have hp11 : p ≤ W11.heap.size := Nat.le_trans hp10 kt11.size
  go_wp2_with fail
  refine (bytes_any W11 p p _ bk11 hp11 2 rfl (by omega) _ k7 k7).mono ?_
  rintro _ W12 ⟨rfl, bk12, kt12, b12⟩
  have b12 := b12 (Nat.le_refl _)
  have bt12 := KeepT.blk kt12 (KeepT.blk kt11 (KeepT.blk kt10 bt9))
  have bx12 := KeepT.blk kt12 (KeepT.blk kt11 (KeepT.blk kt10 bx9))
  have by12 := KeepT.blk kt12 (KeepT.blk kt11 (KeepT.blk kt10 by9))
  have hwp : w.heap.size ≤ p := by omega
  have hB12 : Below w.heap.size w W12 := ((hB9.trans (b10.mono hwp)).trans (b11.mono hwp)).trans (b12.mono hwp)
  have hlt2 : (bvs (l ++ [90, 90])).toArray.size = n + 2 := by rw [List.size_toArray, bvs_length, List.length_append, hn.out]; rfl
  have pa := apart_any W12 p p w.heap.size [⟨some ⟨w.heap.size, 0, none⟩, n, n + 2, 1⟩, ⟨some ⟨gx, 0, none⟩, k5, k5, 2⟩, ⟨some ⟨gy, 0, none⟩, k7, k7, 3⟩] bk12 hB12.size (by show 3 ≤ 8; omega)
    (by
      intro j hj
      match j, hj with
      | 0, _ => exact ⟨by show n ≤ n + 2; omega, by show n + 2 ≤ _; omega, .inr ⟨_, _, rfl, bt12, by rw [hlt2]; exact Nat.le_refl _, Nat.zero_le _, fun x hx => absurd hx (Nat.not_lt_zero x)⟩⟩
      | 1, _ => exact ⟨Nat.le_refl _, hkx63, .inr ⟨_, _, rfl, bx12, hxs, Nat.zero_le _, fun x hx => absurd hx (Nat.not_lt_zero x)⟩⟩
      | 2, _ => exact ⟨Nat.le_refl _, hky63, .inr ⟨_, _, rfl, by12, hys, Nat.zero_le _, fun x hx => absurd hx (Nat.not_lt_zero x)⟩⟩)
    (by
      have e1 : w.heap.size < gx := by omega
      have e2 : gx < gy := by omega
      intro i j hi hj hij g g' _ _ hA hA'
      match i, j, hi, hj with
      | 0, 0, _, _ => exact absurd rfl hij
      | 1, 1, _, _ => exact absurd rfl hij
      | 2, 2, _, _ => exact absurd rfl hij
      | 0, 1, _, _ => cases hA; cases hA'; omega
      | 0, 2, _, _ => cases hA; cases hA'; omega
      | 1, 0, _, _ => cases hA; cases hA'; omega
      | 1, 2, _, _ => cases hA; cases hA'; omega
      | 2, 0, _, _ => cases hA; cases hA'; omega
      | 2, 1, _, _ => cases hA; cases hA'; omega)
    (by
      intro i hi _ g hA
      match i, hi with
      | 0, _ => cases hA; exact Nat.le_refl _
      | 1, _ => cases hA; omega
      | 2, _ => cases hA; omega)
  clear bk9 bk10 bk11 bk12 kt10 kt11 kt12 bt9 bx9 by9
  replace pa := Lib.hid pa
  go_wp2_with fail
  refine pa.out.mono ?_
  rintro _ W13 ⟨rfl, b13⟩
  have hB13 := hB12.trans b13
  go_wp2_with fail
  refine (lives_any W13).mono ?_
  rintro _ W14 ⟨rfl, b14⟩
  go_wp2
  go_ret
  exact ⟨rfl, hB13.trans (b14.mono hB13.size)⟩

/-! ### from the walk to the statement (by tail.py) -/
set_option maxRecDepth 100000 in
theorem door_met (os : Os) (args : Array Value) : laidMetH Tryd.prog Rows.varintsPutRow.laid ((World.doorLaid Tryd.prog 24 os).forCall (fun _ _ => 0) ⟨#[], args, []⟩).memory :=
  laidMetH_of_parts3 (fuel := 8) (laidMet_of_run' 8 (by kernel_rfl) (by kernel_rfl)) (by kernel_rfl) (by kernel_rfl)
set_option maxRecDepth 100000 in
theorem lifted (os : Os) (started : os.Started) (H : Type) (enc : TypeId × Value → H) :
    ReturnsInHanded {} Tryd.checked os 3 .any (fun w args => (Rows.varintsPutSpec.pre enc Tryd.prog Tryd.f3 [] false w args ∧ laidMetH Tryd.prog Rows.varintsPutRow.laid w) ∧ sizedMet enc Tryd.prog Tryd.f3 (OpenSpec.ofChange Rows.varintsPutSpec) false w args) (Rows.varintsPutSpec.post enc Tryd.prog Tryd.f3 false true false false) := by
  refine lifted_of_and (C := Tryd.checked) (tb := 4) (n := 3) (X := fun w _ => laidMetH Tryd.prog Rows.varintsPutRow.laid w) (fun _ _ _ hh h => h.of_heap hh) (by kernel_rfl) started (by kernel_rfl) Tryd.func3 (by kernel_rfl) (by kernel_rfl) rfl (by kernel_rfl) Tryd.underlying4 (by kernel_rfl)
    (fun ds hd => by match ds, hd with | [d1, d2, d3], _ => exact ⟨rfl, rfl, rfl⟩)
    (ChangeSpec.witness_shaped (enc := enc) (C := Tryd.checked) (os := os) (X := fun w _ => laidMetH Tryd.prog Rows.varintsPutRow.laid w) false (World.doorLaid Tryd.prog 24 os) #[.slice none 0 0, .int .u64 0, .string ByteArray.empty] 8 rfl (World.shaped_of_RefB (by kernel_rfl) (by kernel_rfl)) (by kernel_rfl) (by kernel_rfl) (by kernel_rfl) (door_met os _)) ?_
  intro W base args ds before hval hA hsz hX
  rw [Tryd.params3] at hA hval hsz
  obtain ⟨v0, vs0, d0, ds0, p0, q0, rfl, rfl, rfl, h0, r0⟩ := trodAll_cons hA
  obtain ⟨v1, vs1, d1, ds1, p1, q1, rfl, rfl, rfl, h1, r1⟩ := trodAll_cons r0
  obtain ⟨v2, vs2, d2, ds2, p2, q2, rfl, rfl, rfl, h2, r2⟩ := trodAll_cons r1
  obtain ⟨rfl, rfl, rfl⟩ := trodAll_nil r2
  obtain ⟨A0, c0, l0, rfl, hb0, hlc0, _, hcap0⟩ := open_bytes Tryd.underlying22 Tryd.underlying5 (by kernel_rfl) (by kernel_rfl) (hval 0 _ _ rfl rfl) h0
  have hc0 := hcap0 hsz 0 rfl rfl
  obtain ⟨x1, rfl, hx1⟩ := open_u64 Tryd.underlying23 (hval 1 _ _ rfl rfl) h1
  obtain ⟨s2, rfl, hcap2⟩ := open_str Tryd.underlying9 (hval 2 _ _ rfl rfl) h2
  have hs2 := hcap2 hsz 2 rfl rfl
  exact walk W A0 c0 l0 (by have := reachBytes_lt; omega) hb0 hlc0 (by have := reachBytes_lt; omega) x1 hx1 s2 (by have := reachBytes_lt; omega)

theorem over : Rows.varintsPutRow.holds Tryd.pinned (OpenSpec.ofChange Rows.varintsPutSpec) :=
  OpenClaim.holds_of_wide 3 Tryd.f3 rfl rfl rfl rfl rfl rfl rfl ⟨rfl, rfl, rfl, rfl, rfl⟩ rfl rfl rfl rfl rfl (by kernel_rfl) Tryd.func3 (by kernel_rfl)
    (of_decide_eq_true (by kernel_rfl)) (by unfold Func.isWrapper; first | (rw [if_pos (by decide +kernel)]; kernel_rfl) | (rw [if_neg (by decide +kernel)]; exact ⟨rfl, rfl⟩))
    (fun os started H enc _ => lifted os started H enc)

theorem proved : Rows.VarintsPutCardSaid :=
  Claim7.holds_tied_plain_at .later [] [.data, .data, .data] true (true, "52594008a43a5fb2373844464d00d2ad9abcba3d574335cd4b550a4ccd09d40b") false
    over (fun _ h => by cases h) (by kernel_rfl) (fun _ h => by cases h) varintsPut_row_tie rfl ⟨rfl, rfl⟩ (by kernel_rfl) rfl
    (fun f fn hf hfn => by
      obtain rfl : f = 3 := Option.some.inj ((show Tryd.prog.funcNamed "herbarium/herbariumlaw01.VarintsPut" = some 3 by kernel_rfl).symm.trans hf) |>.symm
      obtain rfl : fn = Tryd.f3 := (Option.some.inj (Tryd.func3.symm.trans hfn)).symm
      exact ⟨by kernel_rfl, fun j t ht => by
        have hall : (Tryd.f3.params.toList.all fun u => !Tryd.prog.wantsStandIn u) = true := by kernel_rfl
        have hm : t ∈ Tryd.f3.params.toList := Array.mem_toList_iff.2 (Array.mem_of_getElem? ht)
        exact (show Tryd.prog.wantsStandIn t = false by simpa using List.all_eq_true.1 hall t hm)⟩)
    (by kernel_rfl)
end Go.Proofs.YtajlghnbjomnnaaDoor.lawVarintsPut
