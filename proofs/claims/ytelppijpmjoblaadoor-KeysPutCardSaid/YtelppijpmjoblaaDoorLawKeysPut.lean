/- Any fact is in bytes what the chapter says, in new memory, or refused; so is where any key's facts begin: for every input, no condition but what the listed variables hold. -/
import Derived.Test.YtelppijpmjoblaaDoorKeyLives
import Derived.Test.YtelppijpmjoblaaDoorKeyRefPut
import Derived.Test.YtelppijpmjoblaaDoorSameB
import Derived.Test.YtelppijpmjoblaaDoorSheets
import Derived.Test.YtelppijpmjoblaaDoorFact
import Derived.Test.YtelppijpmjoblaaDoorLiftD
import Derived.Test.YtelppijpmjoblaaDoorCards
import Derived.Test.YtelppijpmjoblaaDoorTie
import Derived.LaidMore
import Derived.SevenTiedAt
set_option linter.unusedSimpArgs false
set_option linter.unusedVariables false
namespace Go.Proofs.YtelppijpmjoblaaDoor.lawKeysPut
open Go Go.RowKit Herb Go.ChangeShapes Go.WideShapes Go.ChangeAt

/-- What Put answers: bytes, or none. -/
def putE (k : ByteArray) (va se ki : Nat) : List UInt8 := if mayB k se ki then putL k va se ki else []
def putR (k : ByteArray) (se ki : Nat) : Int := if mayB k se ki then 0 else 1
theorem put_gen (w : World) (k v : ByteArray) (va se li ki : Nat) (h1 : va < 4294967296) (h2 : se < 18446744073709551616) (h3 : ki < 256) :
    Calls Tryd.prog 5 #[.agg #[.string k, .int .u32 (va : Int), .int .u64 (se : Int), .int .u64 (li : Int), .int .u8 (ki : Int), .string v]] w
      fun e w' => ∃ A n, e = .returned (.tuple #[.slice A n n, .int .i64 (putR k se ki)]) ∧ (putE k va se ki).length = n ∧ Bs w' A (putE k va se ki) ∧ Own1 w' w.heap.size w'.heap.size A n n ∧ Below w.heap.size w w' := by
  unfold putE putR
  cases hm : mayB k se ki
  · refine (put_no w k v va se li ki hm).mono ?_
    rintro _ w' ⟨rfl, b⟩
    exact ⟨none, 0, rfl, rfl, Bs.nil_ _ _, Own1.none _ _ _, b⟩
  · refine (put_own w k v va se li ki h1 h2 h3 hm).mono ?_
    rintro _ w' ⟨g, n, rfl, hn, hg, ⟨cur, hk, hc⟩, hs, b⟩
    have hl : n ≤ 9223372036854775807 := by
      rw [hn]
      unfold putL
      have h32 : k.size ≤ 32 := by unfold mayB at hm; simp at hm; omega
      have := esc_length k.data.toList
      have hk : k.data.toList.length = k.size := rfl
      rw [List.length_append, tailL_length]
      omega
    exact ⟨some ⟨g, 0, none⟩, n, rfl, hn.symm, hs, Own1.of_blk hk hg (Nat.le_refl _) hc hl, b⟩

set_option maxRecDepth 100000 in
set_option maxHeartbeats 6400000 in
theorem walk (w : World) (k v : ByteArray) (va se li ki : Nat) (h1 : va < 4294967296) (h2 : se < 18446744073709551616) (h3 : li < 18446744073709551616) (h4 : ki < 256) :
    Calls Tryd.prog 3 #[.agg #[.string k, .int .u32 (va : Int), .int .u64 (se : Int), .int .u64 (li : Int), .int .u8 (ki : Int), .string v]] w
      fun e w' => e = .returned (.bool true) ∧ Below w.heap.size w w' := by
  obtain ⟨n, hn⟩ : ∃ n, k.size = n := ⟨_, rfl⟩
  have kb := Blk.new w 26 #[.string k, .int .u32 (va : Int), .int .u64 (se : Int), .int .u64 (li : Int), .int .u8 (ki : Int), .string v]
  have hb := (Below.refl w.heap.size w).alloc (Nat.le_refl _) (.cells #[.string k, .int .u32 (va : Int), .int .u64 (se : Int), .int .u64 (li : Int), .int .u8 (ki : Int), .string v] 26)
  have cp := fun W => put_gen W k v va se li ki h1 h2 h4
  have cr : ∀ W, Calls Tryd.prog 6 #[.agg #[.string k, .int .u32 (va : Int), .int .u64 (se : Int), .int .u64 (li : Int), .int .u8 (ki : Int), .string v]] W
      fun e w' => ∃ A n c, e = .returned (.tuple #[.slice A n c, .int .i64 (putR k se ki)]) ∧ (putE k va se ki).length = n ∧ Bs w' A (putE k va se ki) ∧ Below W.heap.size W w' := by
    intro W
    unfold putE putR
    cases hm : mayB k se ki
    · refine (refPut_no W k v va se li ki hm).mono ?_
      rintro _ w' ⟨rfl, b⟩
      exact ⟨none, 0, 0, rfl, rfl, Bs.nil_ _ _, b⟩
    · exact refPut_yes W k v va se li ki h1 h2 h4 hm
  have cs := fun W => seek_own W k va h1
  have cq := fun W => refSeek_any W k va h1
  obtain ⟨R, hR⟩ : ∃ R, putR k se ki = R := ⟨_, rfl⟩
  obtain ⟨L, hL⟩ : ∃ L, putE k va se ki = L := ⟨_, rfl⟩
  obtain ⟨S, hS⟩ : ∃ S, seekL k va = S := ⟨_, rfl⟩
  have hLb : L.length ≤ 1000000 := by
    rw [← hL]
    unfold putE
    split
    · rename_i hm
      unfold putL
      have h32 : k.size ≤ 32 := by unfold mayB at hm; simp at hm; omega
      have := esc_length k.data.toList
      have hk : k.data.toList.length = k.size := rfl
      rw [List.length_append, tailL_length]
      omega
    · simp
  have hSb : k.size ≤ 1000 → S.length ≤ 1000000 := by
    intro hk0
    rw [← hS]
    unfold seekL
    have := esc_length k.data.toList
    have hk : k.data.toList.length = k.size := rfl
    rw [List.length_append, be_length]
    omega
  simp only [hR, hL, hS] at cp cs cq cr
  rw [hn] at cs cq hSb
  clear hR hL hS
  replace cp := Lib.hid cp
  replace cr := Lib.hid cr
  replace cs := Lib.hid cs
  replace cq := Lib.hid cq
  replace kb := Lib.hid kb
  replace hn := Lib.hid hn
  go_enter Tryd.func3, Tryd.ntmps3
  by_cases hbig : 1000 < n
  · have d1 : decide ((1000 : Int) < (n : Int)) = true := decide_eq_true (by omega)
    have c0 := kb.out.cell
    have hn2 := hn.out
    go_wp2_with fail
    refine (lives_any _).mono ?_
    rintro _ w1 ⟨rfl, b1⟩
    go_wp2
    go_ret
    exact ⟨rfl, hb.trans (b1.mono hb.size)⟩
  have d1 : decide ((1000 : Int) < (n : Int)) = false := decide_eq_false (by omega)
  have hn1000 : n ≤ 1000 := by omega
  replace cs := fun W => cs.out W (by omega)
  replace cs := Lib.hid cs
  replace cq := fun W => cq.out W (by omega)
  replace cq := Lib.hid cq
  have hSb2 := hSb hn1000
  clear hSb hbig
  have c0 := kb.out.cell
  go_wp2_with (first | rw [hn.out] | fail)
  refine (cp.out _).mono ?_
  rintro _ w1 ⟨A1, n1, rfl, hn1, hs1, ho1, b1⟩
  have kb1 := kb.out.below b1 kb.out.lt
  have hB1 := hb.trans (b1.mono hb.size)
  clear c0 kb b1
  have c1 := kb1.cell
  go_wp2_with fail
  refine (cr.out _).mono ?_
  rintro _ w2 ⟨A2, n2, q2, rfl, hn2, hs2, b2⟩
  have kb2 := kb1.below b2 kb1.lt
  have hB2 := hB1.trans (b2.mono hB1.size)
  replace hs1 := hs1.below b2
  replace ho1 := ho1.below b2
  clear c1 kb1
  have c2 := kb2.cell
  go_wp2_with fail
  refine (cs.out _).mono ?_
  rintro _ w3 ⟨g3, n3, rfl, hn3, hg3, ⟨cur3, hk3, hc3⟩, hs3, b3⟩
  have kb3 := kb2.below b3 kb2.lt
  have hB3 := hB2.trans (b3.mono hB2.size)
  have hS3b : n3 ≤ 1000000 := by rw [hn3]; exact hSb2
  replace hn3 := Lib.hid hn3
  have ho3 : Own1 w3 w2.heap.size w3.heap.size (some ⟨g3, 0, none⟩) n3 n3 := Own1.of_blk hk3 hg3 (Nat.le_refl _) hc3 (by omega)
  replace hs1 := hs1.below b3
  replace hs2 := hs2.below b3
  replace ho1 := ho1.below b3
  clear c2 kb2 hk3 hc3 hg3
  have c3 := kb3.cell
  go_wp2_with fail
  refine (cp.out _).mono ?_
  rintro _ w4 ⟨A4, n4, rfl, hn4, hs4, ho4, b4⟩
  have kb4 := kb3.below b4 kb3.lt
  have hB4 := hB3.trans (b4.mono hB3.size)
  replace hs1 := hs1.below b4
  replace hs2 := hs2.below b4
  replace hs3 := hs3.below b4
  replace ho1 := ho1.below b4
  replace ho3 := ho3.below b4
  have s12 := b2.size
  have s23 := b3.size
  have s34 := b4.size
  have hw1 := hB1.size
  clear c3 kb3 hs4 b2 b3 b4
  have hnS : S.length = n3 := hn3.out.symm
  replace hn1 := Lib.hid hn1
  replace hn2 := Lib.hid hn2
  replace hn4 := Lib.hid hn4
  replace hnS := Lib.hid hnS
  have h12 : n2 = n1 := by rw [← hn1.out, ← hn2.out]
  subst h12
  have h14 : n4 = n2 := by rw [← hn4.out, ← hn2.out]
  subst h14
  have hLb1 : n4 ≤ 1000000 := by rw [← hn4.out]; exact hLb
  have hSb1 : n3 ≤ 1000000 := by rw [← hnS.out]; exact hSb2
  clear hLb hSb2
  have c4 := kb4.cell
  go_wp2_with (first | rw [hn.out] | fail)
  obtain ⟨p, hp⟩ : ∃ p, w4.heap.size = p := ⟨_, rfl⟩
  obtain ⟨W4, hW4⟩ : ∃ W4, w4.alloc (Obj.cells #[.slice none 0 0] 35) = W4 := ⟨_, rfl⟩
  have bk : BookAt W4 p p [] := by
    rw [← hW4, ← hp]
    exact ⟨none, 0, Blk.new w4 _ _, World.ownsRow_nil _ _ _ _⟩
  have b44 : Below w4.heap.size w4 W4 := by rw [← hW4]; exact (Below.refl _ _).alloc (Nat.le_refl _) _
  have hpl : p < W4.heap.size := by rw [← hW4, ← hp]; simp
  rw [hp, hW4]
  have hB5 := hB4.trans (b44.mono hB4.size)
  replace hs1 := hs1.below b44
  replace hs2 := hs2.below b44
  replace hs3 := hs3.below b44
  replace ho1 := ho1.below b44
  replace ho3 := ho3.below b44
  replace ho4 := ho4.below b44
  have kb5 := kb4.below b44 kb4.lt
  rw [hp] at ho4
  clear hW4 b44 c4 kb4
  have c5 := kb5.cell
  refine (sameBytes_yes W4 _ _ n4 _ _ L hn4.out (by omega) hs1 hs2).mono ?_
  rintro _ W6 ⟨rfl, b6⟩
  have hB6 := hB5.trans (b6.mono hB5.size)
  have kb6 := kb5.below b6 kb5.lt
  have c6 := kb6.cell
  clear c5
  go_wp2_with fail
  refine (cq.out _).mono ?_
  rintro _ W7 ⟨A7, n7, q7, rfl, hn7, hs7, b7⟩
  have hs7' := (Bs.of_own hs7).2
  have h73 : n7 = n3 := by rw [← hn7, hnS.out]
  subst h73
  have b67 := b6.trans (b7.mono b6.size)
  clear c6 hs7 b6 b7 hn7 kb5 kb6
  go_wp2_with fail
  refine (sameBytes_yes W7 _ _ n7 _ _ S hnS.out (by omega) (hs3.below b67) hs7').mono ?_
  rintro _ W9 ⟨rfl, b9⟩
  have b49 := b67.trans (b9.mono b67.size)
  have hB9 := hB5.trans (b49.mono hB5.size)
  have bk9 := bk.below b49
  replace ho1 := ho1.below b49
  replace ho3 := ho3.below b49
  replace ho4 := ho4.below b49
  have hp9 : p ≤ W9.heap.size := by have := b49.size; omega
  clear b67 b9 b49 bk hs1 hs2 hs3 hs7' hB5 hB6
  go_wp2_with fail
  refine (bytes_any W9 p p [] bk9 hp9 0 rfl (by omega) _ n4 n4).mono ?_
  rintro _ W10 ⟨rfl, bk10, kt10, b10⟩
  have b10 := b10 (Nat.le_refl _)
  have hp10 : p ≤ W10.heap.size := Nat.le_trans hp9 kt10.size
  go_wp2_with fail
  refine (bytes_any W10 p p _ bk10 hp10 1 rfl (by omega) _ n4 n4).mono ?_
  rintro _ W11 ⟨rfl, bk11, kt11, b11⟩
  have b11 := b11 (Nat.le_refl _)
  have hp11 : p ≤ W11.heap.size := Nat.le_trans hp10 kt11.size
  go_wp2_with fail
  refine (bytes_any W11 p p _ bk11 hp11 2 rfl (by omega) _ n7 n7).mono ?_
  rintro _ W12 ⟨rfl, bk12, kt12, b12⟩
  have b12 := b12 (Nat.le_refl _)
  have hwp : w.heap.size ≤ p := by rw [← hp]; exact hB4.size
  have hB12 : Below w.heap.size w W12 := ((hB9.trans (b10.mono hwp)).trans (b11.mono hwp)).trans (b12.mono hwp)
  have go1 := ((ho1.keepT kt10).keepT kt11).keepT kt12
  have go3 := ((ho3.keepT kt10).keepT kt11).keepT kt12
  have go4 := ((ho4.keepT kt10).keepT kt11).keepT kt12
  have hb0 := hb.size
  have hsh := sheets3 (U := w.heap.size) (q0 := ⟨A1, n4, n4, 1⟩) (q1 := ⟨A4, n4, n4, 2⟩) (q2 := ⟨some ⟨g3, 0, none⟩, n7, n7, 3⟩) go1 go4 go3 (.inl (by omega)) (.inl (by omega)) (.inr (by omega)) (by simp) (by omega) (by omega)
  have pa := apart_any W12 p p w.heap.size [⟨A1, n4, n4, 1⟩, ⟨A4, n4, n4, 2⟩, ⟨some ⟨g3, 0, none⟩, n7, n7, 3⟩] bk12 hB12.size (by show 3 ≤ 8; omega) hsh.1 hsh.2.1 hsh.2.2
  clear bk9 bk10 bk11 bk12 kt10 kt11 kt12 ho1 ho3 ho4 go1 go3 go4 hsh
  replace pa := Lib.hid pa
  go_wp2_with fail
  refine pa.out.mono ?_
  rintro _ W13 ⟨rfl, b13⟩
  have hB13 := hB12.trans b13
  go_wp2_with fail
  refine (lives_any W13).mono ?_
  rintro _ W14 ⟨rfl, b14⟩
  go_wp2
  go_ret
  exact ⟨rfl, hB13.trans (b14.mono hB13.size)⟩

/-! ### from the walk to the statement (by tail.py) -/
set_option maxRecDepth 100000 in
theorem door_met (os : Os) (args : Array Value) : laidMetH Tryd.prog Rows.keysPutRow.laid ((World.doorLaid Tryd.prog 24 os).forCall (fun _ _ => 0) ⟨#[], args, []⟩).memory :=
  laidMetH_of_parts3 (fuel := 8) (laidMet_of_run' 8 (by kernel_rfl) (by kernel_rfl)) (by kernel_rfl) (by kernel_rfl)
set_option maxRecDepth 100000 in
theorem lifted (os : Os) (started : os.Started) (H : Type) (enc : TypeId × Value → H) :
    ReturnsInHanded {} Tryd.checked os 3 .any (fun w args => (Rows.keysPutSpec.pre enc Tryd.prog Tryd.f3 [] false w args ∧ laidMetH Tryd.prog Rows.keysPutRow.laid w) ∧ sizedMet enc Tryd.prog Tryd.f3 (OpenSpec.ofChange Rows.keysPutSpec) false w args) (Rows.keysPutSpec.post enc Tryd.prog Tryd.f3 false true false false) := by
  refine lifted_of_and (C := Tryd.checked) (tb := 4) (n := 1) (X := fun w _ => laidMetH Tryd.prog Rows.keysPutRow.laid w) (fun _ _ _ hh h => h.of_heap hh) (by kernel_rfl) started (by kernel_rfl) Tryd.func3 (by kernel_rfl) (by kernel_rfl) rfl (by kernel_rfl) Tryd.underlying4 (by kernel_rfl)
    (fun ds hd => by match ds, hd with | [d1], _ => exact ⟨rfl, rfl, rfl⟩)
    (ChangeSpec.witness_shaped (enc := enc) (C := Tryd.checked) (os := os) (X := fun w _ => laidMetH Tryd.prog Rows.keysPutRow.laid w) false (World.doorLaid Tryd.prog 24 os) #[.agg #[.string ByteArray.empty, .int .u32 0, .int .u64 0, .int .u64 0, .int .u8 0, .string ByteArray.empty]] 8 rfl (World.shaped_of_RefB (by kernel_rfl) (by kernel_rfl)) (by kernel_rfl) (by kernel_rfl) (by kernel_rfl) (door_met os _)) ?_
  intro W base args ds before hval hA hsz hX
  rw [Tryd.params3] at hA hval hsz
  obtain ⟨v0, vs0, d0, ds0, p0, q0, rfl, rfl, rfl, h0, r0⟩ := trodAll_cons hA
  obtain ⟨rfl, rfl, rfl⟩ := trodAll_nil r0
  obtain ⟨k0, s0, va0, se0, li0, ki0, rfl, hva0, hse0, hli0, hki0⟩ := open_fact (hval 0 _ _ rfl rfl) h0
  exact walk W k0 s0 va0 se0 li0 ki0 hva0 hse0 hli0 hki0

theorem over : Rows.keysPutRow.holds Tryd.pinned (OpenSpec.ofChange Rows.keysPutSpec) :=
  OpenClaim.holds_of_wide 3 Tryd.f3 rfl rfl rfl rfl rfl rfl rfl ⟨rfl, rfl, rfl, rfl, rfl⟩ rfl rfl rfl rfl rfl (by kernel_rfl) Tryd.func3 (by kernel_rfl)
    (of_decide_eq_true (by kernel_rfl)) (by unfold Func.isWrapper; first | (rw [if_pos (by decide +kernel)]; kernel_rfl) | (rw [if_neg (by decide +kernel)]; exact ⟨rfl, rfl⟩))
    (fun os started H enc _ => lifted os started H enc)

theorem proved : Rows.KeysPutCardSaid :=
  Claim7.holds_tied_plain_at .later [] [.data, .data, .data] true (true, "e014336f31f6e0ad0021863987f9814d4a544e23a5562a1971e35631c18287b3") false
    over (fun _ h => by cases h) (by kernel_rfl) (fun _ h => by cases h) keysPut_row_tie rfl ⟨rfl, rfl⟩ (by kernel_rfl) rfl
    (fun f fn hf hfn => by
      obtain rfl : f = 3 := Option.some.inj ((show Tryd.prog.funcNamed "herbarium/herbariumlaw03.KeysPut" = some 3 by kernel_rfl).symm.trans hf) |>.symm
      obtain rfl : fn = Tryd.f3 := (Option.some.inj (Tryd.func3.symm.trans hfn)).symm
      exact ⟨by kernel_rfl, fun j t ht => by
        have hall : (Tryd.f3.params.toList.all fun u => !Tryd.prog.wantsStandIn u) = true := by kernel_rfl
        have hm : t ∈ Tryd.f3.params.toList := Array.mem_toList_iff.2 (Array.mem_of_getElem? ht)
        exact (show Tryd.prog.wantsStandIn t = false by simpa using List.all_eq_true.1 hall t hm)⟩)
    (by kernel_rfl)
end Go.Proofs.YtelppijpmjoblaaDoor.lawKeysPut
