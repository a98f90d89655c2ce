/- The filter of any keys is the chapter's, in new memory; the keys stay as they were: for every input, no condition but what the listed variables hold. -/
import Derived.Test.YtebledknjfojlaaDoorBloomLives
import Derived.Test.YtebledknjfojlaaDoorGreat
import Derived.Test.YtebledknjfojlaaDoorLiftS
import Derived.Test.YtebledknjfojlaaDoorLiftD
import Derived.Test.YtebledknjfojlaaDoorRefOf
import Derived.Test.YtebledknjfojlaaDoorTwinS
import Derived.Test.YtebledknjfojlaaDoorBookC
import Derived.Test.YtebledknjfojlaaDoorSameB
import Derived.Test.YtebledknjfojlaaDoorCards
import Derived.Test.YtebledknjfojlaaDoorTie
import Derived.LaidMore
import Derived.SevenTiedAt
set_option linter.unusedSimpArgs false
set_option linter.unusedVariables false
namespace Go.Proofs.YtebledknjfojlaaDoor.lawBloomsOf
open Go Go.RowKit Herb Go.ChangeShapes Go.WideShapes Go.ChangeAt

theorem KeepT.blk {w w' : World} (h : KeepT w w') {g : Nat} {cs : Array Value} (hg : Blk w g 5 cs) : Blk w' g 5 cs := h.block g cs _ _ hg (by decide) (by decide)
theorem Ss.twin {w : World} {g : Nat} {t : TypeId} {ks : List ByteArray} {m : ByteArray} (h : Blk w g t (svs (ks ++ [m, m])).toArray) : Ss w (some ⟨g, 0, none⟩) ks :=
  h.rd (by rw [svs_length]; omega) (fun j u hu => by
    unfold svs at hu ⊢
    rw [List.map_append, Nat.zero_add, List.getElem?_toArray, List.getElem?_append_left (by
      by_cases hj : j < (List.map Value.string ks).length
      · exact hj
      · rw [List.getElem?_eq_none (by omega)] at hu; cases hu)]
    exact hu)

set_option maxRecDepth 100000 in
set_option maxHeartbeats 6400000 in
theorem walk (w : World) (A : Option Addr) (c : Nat) (ks : List ByteArray) (hl : ks.length ≤ 140737488355328) (hs : ∀ s ∈ ks, s.size ≤ 140737488355328) (hb : Ss w A ks) (hlc : ks.length ≤ c) (hc : c * 16 ≤ 140737488355328) :
    Calls Tryd.prog 3 #[.slice A ks.length c] w fun e w' => e = .returned (.bool true) ∧ Below w.heap.size w w' := by
  obtain ⟨n, hn⟩ : ∃ n, ks.length = n := ⟨_, rfl⟩
  have pt := fun h => twinTexts_any w A c ks h hb
  have pleft := fun W g h (hA : Ss W A ks) (k : Blk W g 9 (svs (ks ++ [⟨#[63, 33]⟩, ⟨#[63, 33]⟩])).toArray) => leftTexts_any W g A c ks h hA k
  rw [hn] at hl hlc pt pleft ⊢
  replace hn := Lib.hid hn
  replace hs := Lib.hid hs
  replace pt := Lib.hid pt
  replace pleft := Lib.hid pleft
  clear hlc hc
  go_enter Tryd.func3, Tryd.ntmps3
  go_wp2_with fail
  refine (great_any w A n c ks hn.out hl hs.out hb).mono ?_
  rintro _ _ ⟨t, rfl, rfl, ht⟩
  by_cases hg : 100000 < t
  · have d1 : decide ((100000 : Int) < (t : Int)) = true := decide_eq_true (by omega)
    go_wp2_with fail
    refine (lives_any w).mono ?_
    rintro e w1 ⟨rfl, hb1⟩
    go_wp2
    go_ret
    exact ⟨rfl, hb1⟩
  have d1 : decide ((100000 : Int) < (t : Int)) = false := decide_eq_false (by omega)
  have hnb : n ≤ 100000 := by
    have h1 := bulk_len ks
    have h2 := ht.out (by omega)
    have h3 := hn.out
    omega
  obtain ⟨R, hR⟩ : ∃ R, room n + 1 = R := ⟨_, rfl⟩
  have hRb : R ≤ 200000 := by rw [← hR]; unfold room; omega
  have hof : (ofP ks).length = R := by rw [ofP_length, hn.out, hR]
  have po := fun W A c (h : Ss W A ks) => of_keys W A n c ks hn.out hnb hs.out h
  rw [hR] at po
  have pr := fun W (h : Ss W A ks) => refFilter_any W A n c ks hn.out hnb hs.out h
  replace po := Lib.hid po
  replace pr := Lib.hid pr
  replace hof := Lib.hid hof
  replace hR := Lib.hid hR
  clear ht hg hl
  go_wp2_with fail
  refine (pt.out (by omega)).mono ?_
  clear pt
  obtain ⟨W1, hW1⟩ : ∃ W1, w.alloc (.cells (svs (ks ++ [⟨#[63, 33]⟩, ⟨#[63, 33]⟩])).toArray 9) = W1 := ⟨_, rfl⟩
  rw [hW1]
  rintro _ _ ⟨rfl, rfl⟩
  have bt : Blk W1 w.heap.size 9 (svs (ks ++ [⟨#[63, 33]⟩, ⟨#[63, 33]⟩])).toArray := by rw [← hW1]; exact Blk.new w _ _
  have hB1 : Below w.heap.size w W1 := by rw [← hW1]; exact (Below.refl w.heap.size w).alloc (Nat.le_refl _) _
  clear hW1
  have htl := bt.lt
  go_wp2_with fail
  refine (po.out W1 _ (n + 2) (Ss.twin bt)).mono ?_
  rintro _ W2 ⟨gx, rfl, bx2, hgx, b2⟩
  have bt2 := bt.below b2 bt.lt
  have hB2 := hB1.trans (b2.mono hB1.size)
  go_wp2_with fail
  refine (po.out W2 _ (n + 2) (Ss.twin bt2)).mono ?_
  rintro _ W3 ⟨gy, rfl, by3, hgy, b3⟩
  have bt3 := bt2.below b3 bt2.lt
  have bx3 := bx2.below b3 bx2.lt
  have hB3 := hB2.trans (b3.mono hB2.size)
  have h2s := b2.size
  have h3s := b3.size
  have hgx2 := bx2.lt
  have hgy2 := by3.lt
  clear b2 b3 bt bt2 bx2
  go_wp2_with fail
  obtain ⟨p, hp⟩ : ∃ p, W3.heap.size = p := ⟨_, rfl⟩
  obtain ⟨W4, hW4⟩ : ∃ W4, W3.alloc (Obj.cells #[.slice none 0 0] 30) = W4 := ⟨_, rfl⟩
  have bk : BookAt W4 p p [] := by
    rw [← hW4, ← hp]
    exact ⟨none, 0, Blk.new W3 _ _, World.ownsRow_nil _ _ _ _⟩
  have b34 : Below W3.heap.size W3 W4 := by rw [← hW4]; exact (Below.refl _ _).alloc (Nat.le_refl _) _
  have hpl : p < W4.heap.size := by rw [← hW4, ← hp]; simp
  rw [hp, hW4]
  have bt4 := bt3.below b34 bt3.lt
  have bx4 := bx3.below b34 bx3.lt
  have by4 := by3.below b34 by3.lt
  have hB4 := hB3.trans (b34.mono hB3.size)
  rw [hp] at hgy2
  clear hW4 b34 bt3 bx3 by3 hB3
  refine (pr.out W4 (hb.below hB4)).mono ?_
  rintro _ W5 ⟨v5, rfl, hown5, b5⟩
  rw [hR.out] at hown5
  obtain ⟨A5, c5, rfl⟩ := own_slice hown5
  have hb5 := (Bs.of_own hown5).2
  have hx5 : Bs W5 (some ⟨gx, 0, none⟩) (ofP ks) := (bx4.below b5 bx4.lt).rd (by rw [bvs_length]; omega) (fun j u hu => by simpa using hu)
  have hB5 := hB4.trans (b5.mono hB4.size)
  clear hown5
  go_wp2_with fail
  refine (sameBytes_yes W5 _ _ R _ _ (ofP ks) hof.out (by omega) hx5 hb5).mono ?_
  rintro _ W6 ⟨rfl, b6⟩
  have b46 := b5.trans (b6.mono b5.size)
  have hB6 := hB4.trans (b46.mono hB4.size)
  clear hb5 b5 b6 hB5 hx5
  go_wp2_with fail
  refine (pleft.out W6 _ (by omega) (hb.below hB6) (bt4.below b46 bt4.lt)).mono ?_
  rintro _ W9 ⟨rfl, b9⟩
  have b49 := b46.trans (b9.mono b46.size)
  have hB9 := hB4.trans (b49.mono hB4.size)
  have bk9 := bk.below b49
  have bx9 := bx4.below b49 bx4.lt
  have by9 := by4.below b49 by4.lt
  have hp9 : p ≤ W9.heap.size := by have := b49.size; omega
  clear b9 b46 b49 hB6 bk bt4 bx4 by4 pleft hB4
  go_wp2_with fail
  refine (bytes_any W9 p p [] bk9 hp9 0 rfl (by omega) _ R R).mono ?_
  rintro _ W10 ⟨rfl, bk10, kt10, b10⟩
  have b10 := b10 (Nat.le_refl _)
  have hp10 : p ≤ W10.heap.size := Nat.le_trans hp9 kt10.size
  go_wp2_with fail
  refine (bytes_any W10 p p _ bk10 hp10 1 rfl (by omega) _ R R).mono ?_
  rintro _ W12 ⟨rfl, bk12, kt12, b12⟩
  have b12 := b12 (Nat.le_refl _)
  have bx12 := KeepT.blk kt12 (KeepT.blk kt10 bx9)
  have by12 := KeepT.blk kt12 (KeepT.blk kt10 by9)
  have hwp : w.heap.size ≤ p := by omega
  have hB12 : Below w.heap.size w W12 := (hB9.trans (b10.mono hwp)).trans (b12.mono hwp)
  have hsz : (bvs (ofP ks)).toArray.size = R := by rw [List.size_toArray, bvs_length, hof.out]
  have pa := apart_any W12 p p w.heap.size [⟨some ⟨gx, 0, none⟩, R, R, 1⟩, ⟨some ⟨gy, 0, none⟩, R, R, 2⟩] bk12 hB12.size (by show 2 ≤ 8; omega)
    (by
      intro j hj
      match j, hj with
      | 0, _ => exact ⟨Nat.le_refl _, by show R ≤ _; omega, .inr ⟨_, _, rfl, bx12, by rw [hsz]; exact Nat.le_refl _, Nat.zero_le _, fun x hx => absurd hx (Nat.not_lt_zero x)⟩⟩
      | 1, _ => exact ⟨Nat.le_refl _, by show R ≤ _; omega, .inr ⟨_, _, rfl, by12, by rw [hsz]; exact Nat.le_refl _, Nat.zero_le _, fun x hx => absurd hx (Nat.not_lt_zero x)⟩⟩)
    (by
      have e2 : gx < gy := by omega
      intro i j hi hj hij g g' _ _ hA hA'
      match i, j, hi, hj with
      | 0, 0, _, _ => exact absurd rfl hij
      | 1, 1, _, _ => exact absurd rfl hij
      | 0, 1, _, _ => cases hA; cases hA'; omega
      | 1, 0, _, _ => cases hA; cases hA'; omega)
    (by
      intro i hi _ g hA
      match i, hi with
      | 0, _ => cases hA; omega
      | 1, _ => cases hA; omega)
  clear bk9 bk10 bk12 kt10 kt12 bx9 by9
  replace pa := Lib.hid pa
  go_wp2_with fail
  refine pa.out.mono ?_
  rintro _ W13 ⟨rfl, b13⟩
  have hB13 := hB12.trans b13
  go_wp2_with fail
  refine (lives_any W13).mono ?_
  rintro _ W14 ⟨rfl, b14⟩
  go_wp2
  go_ret
  exact ⟨rfl, hB13.trans (b14.mono hB13.size)⟩

/-! ### from the walk to the statement (by tail.py) -/
set_option maxRecDepth 100000 in
theorem door_met (os : Os) (args : Array Value) : laidMetH Tryd.prog Rows.bloomsOfRow.laid ((World.doorLaid Tryd.prog 24 os).forCall (fun _ _ => 0) ⟨#[], args, []⟩).memory :=
  laidMetH_of_parts3 (fuel := 8) (laidMet_of_run' 8 (by kernel_rfl) (by kernel_rfl)) (by kernel_rfl) (by kernel_rfl)
set_option maxRecDepth 100000 in
theorem lifted (os : Os) (started : os.Started) (H : Type) (enc : TypeId × Value → H) :
    ReturnsInHanded {} Tryd.checked os 3 .any (fun w args => (Rows.bloomsOfSpec.pre enc Tryd.prog Tryd.f3 [] false w args ∧ laidMetH Tryd.prog Rows.bloomsOfRow.laid w) ∧ sizedMet enc Tryd.prog Tryd.f3 (OpenSpec.ofChange Rows.bloomsOfSpec) false w args) (Rows.bloomsOfSpec.post enc Tryd.prog Tryd.f3 false true false false) := by
  refine lifted_of_and (C := Tryd.checked) (tb := 4) (n := 1) (X := fun w _ => laidMetH Tryd.prog Rows.bloomsOfRow.laid w) (fun _ _ _ hh h => h.of_heap hh) (by kernel_rfl) started (by kernel_rfl) Tryd.func3 (by kernel_rfl) (by kernel_rfl) rfl (by kernel_rfl) Tryd.underlying4 (by kernel_rfl)
    (fun ds hd => by match ds, hd with | [d1], _ => exact ⟨rfl, rfl, rfl⟩)
    (ChangeSpec.witness_shaped (enc := enc) (C := Tryd.checked) (os := os) (X := fun w _ => laidMetH Tryd.prog Rows.bloomsOfRow.laid w) false (World.doorLaid Tryd.prog 24 os) #[.slice none 0 0] 8 rfl (World.shaped_of_RefB (by kernel_rfl) (by kernel_rfl)) (by kernel_rfl) (by kernel_rfl) (by kernel_rfl) (door_met os _)) ?_
  intro W base args ds before hval hA hsz hX
  rw [Tryd.params3] at hA hval hsz
  obtain ⟨v0, vs0, d0, ds0, p0, q0, rfl, rfl, rfl, h0, r0⟩ := trodAll_cons hA
  obtain ⟨rfl, rfl, rfl⟩ := trodAll_nil r0
  obtain ⟨A0, c0, ks0, rfl, hb0, hlc0, _, hcap0⟩ := open_strs Tryd.underlying22 Tryd.underlying9 (by kernel_rfl) (by kernel_rfl) (hval 0 _ _ rfl rfl) h0
  have hc0 := hcap0 hsz 0 rfl rfl
  exact walk W A0 c0 ks0 (by have := reachBytes_lt; have := hc0.1; omega) (fun s hs => by have := reachBytes_lt; have := hc0.2 s hs; omega) hb0 hlc0 (by have := reachBytes_lt; have := hc0.1; omega)

theorem over : Rows.bloomsOfRow.holds Tryd.pinned (OpenSpec.ofChange Rows.bloomsOfSpec) :=
  OpenClaim.holds_of_wide 3 Tryd.f3 rfl rfl rfl rfl rfl rfl rfl ⟨rfl, rfl, rfl, rfl, rfl⟩ rfl rfl rfl rfl rfl (by kernel_rfl) Tryd.func3 (by kernel_rfl)
    (of_decide_eq_true (by kernel_rfl)) (by unfold Func.isWrapper; first | (rw [if_pos (by decide +kernel)]; kernel_rfl) | (rw [if_neg (by decide +kernel)]; exact ⟨rfl, rfl⟩))
    (fun os started H enc _ => lifted os started H enc)

theorem proved : Rows.BloomsOfCardSaid :=
  Claim7.holds_tied_plain_at .later [] [.data, .data, .data] true (true, "b780a7d43006f099e2a3771abec694e8cac0a12146ba1ee6b334e09f26f2339b") false
    over (fun _ h => by cases h) (by kernel_rfl) (fun _ h => by cases h) bloomsOf_row_tie rfl ⟨rfl, rfl⟩ (by kernel_rfl) rfl
    (fun f fn hf hfn => by
      obtain rfl : f = 3 := Option.some.inj ((show Tryd.prog.funcNamed "herbarium/herbariumlaw11.BloomsOf" = some 3 by kernel_rfl).symm.trans hf) |>.symm
      obtain rfl : fn = Tryd.f3 := (Option.some.inj (Tryd.func3.symm.trans hfn)).symm
      exact ⟨by kernel_rfl, fun j t ht => by
        have hall : (Tryd.f3.params.toList.all fun u => !Tryd.prog.wantsStandIn u) = true := by kernel_rfl
        have hm : t ∈ Tryd.f3.params.toList := Array.mem_toList_iff.2 (Array.mem_of_getElem? ht)
        exact (show Tryd.prog.wantsStandIn t = false by simpa using List.all_eq_true.1 hall t hm)⟩)
    (by kernel_rfl)
end Go.Proofs.YtebledknjfojlaaDoor.lawBloomsOf
