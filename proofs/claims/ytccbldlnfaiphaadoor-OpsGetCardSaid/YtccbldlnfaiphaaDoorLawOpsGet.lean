/- The number and the op that any bytes are made of are the chapter's, in new memory, or there is none; the bytes stay as they were: for every input, no condition but what the listed variables hold. -/
import Derived.Test.YtccbldlnfaiphaaDoorOpH
import Derived.Test.YtccbldlnfaiphaaDoorOpArg
import Derived.Test.YtccbldlnfaiphaaDoorOpRefI
import Derived.Test.YtccbldlnfaiphaaDoorBookCh
import Derived.Test.YtccbldlnfaiphaaDoorTwinB
import Derived.Test.YtccbldlnfaiphaaDoorLiftD
import Derived.Test.YtccbldlnfaiphaaDoorCards
import Derived.Test.YtccbldlnfaiphaaDoorTie
import Derived.LaidMore
import Derived.SevenTiedAt
import Derived.Lib.LaidTab
set_option linter.unusedSimpArgs false
set_option linter.unusedVariables false
namespace Go.Proofs.YtccbldlnfaiphaaDoor.lawOpsGet
open Go Go.RowKit Herb Herb.Cm Go.ChangeShapes Go.WideShapes Go.ChangeAt

/-- What an answer tells. -/
def ansOf (x : Option (Nat × Rec)) : Nat × Rec × Int := match x with | none => (0, ⟨0, ⟨#[]⟩, ⟨#[]⟩, 0, []⟩, 4) | some (s, o) => (s, o, 0)
theorem og_ans {w w' : World} {x : Option (Nat × Rec)} {e : Ending} (h : OG w x e w') {s kd pl : Nat} {br ot : ByteArray} {cs : List Ch} {F : Int} (hx : ansOf x = (s, ⟨kd, br, ot, pl, cs⟩, F)) {k : Nat} (hk : cs.length = k) :
    ∃ A, e = .returned (.tuple #[.int .u64 (s : Int), .agg #[.int .u8 (kd : Int), .string br, .string ot, .int .u64 (pl : Int), .slice A k k], .int .i64 F]) ∧ Cs w' A cs ∧ BkCh.Own w' w.heap.size w'.heap.size A k k ∧ Below w.heap.size w w' := by
  obtain ⟨hB, h⟩ := h
  rcases x with _ | ⟨s', o⟩
  · simp only [ansOf, Prod.mk.injEq, Rec.mk.injEq] at hx
    obtain ⟨rfl, ⟨rfl, rfl, rfl, rfl, rfl⟩, rfl⟩ := hx
    obtain rfl : k = 0 := hk.symm
    exact ⟨none, h, Cs.nil_ _ _, BkCh.Own.none _ _ _, hB⟩
  · simp only [ansOf, Prod.mk.injEq] at hx
    obtain ⟨rfl, rfl, rfl⟩ := hx
    obtain ⟨A, k', cap, rfl, hk', own⟩ := h
    simp only at hk' own
    obtain rfl : k' = k := hk'.symm.trans hk
    exact ⟨A, rfl, by unfold Cs; rw [hk]; exact Rd.of_own own, BkCh.Own.of_row own, hB⟩
theorem rg_ans {w w' : World} {x : Option (Nat × Rec)} {e : Ending} (h : RG w x e w') {s kd pl : Nat} {br ot : ByteArray} {cs : List Ch} {F : Int} (hx : ansOf x = (s, ⟨kd, br, ot, pl, cs⟩, F)) {k : Nat} (hk : cs.length = k) :
    ∃ A c, e = .returned (.tuple #[.int .u64 (s : Int), .agg #[.int .u8 (kd : Int), .string br, .string ot, .int .u64 (pl : Int), .slice A k c], .int .i64 F]) ∧ Cs w' A cs ∧ Below w.heap.size w w' := by
  obtain ⟨hB, h⟩ := h
  rcases x with _ | ⟨s', o⟩
  · simp only [ansOf, Prod.mk.injEq, Rec.mk.injEq] at hx
    obtain ⟨rfl, ⟨rfl, rfl, rfl, rfl, rfl⟩, rfl⟩ := hx
    obtain rfl : k = 0 := hk.symm
    exact ⟨none, 0, h, Cs.nil_ _ _, hB⟩
  · simp only [ansOf, Prod.mk.injEq] at hx
    obtain ⟨rfl, rfl, rfl⟩ := hx
    obtain ⟨A, k', cap, rfl, hk', hc⟩ := h
    simp only at hk' hc
    obtain rfl : k' = k := hk'.symm.trans hk
    exact ⟨A, cap, rfl, hc, hB⟩

set_option maxRecDepth 100000 in
set_option maxHeartbeats 6400000 in
theorem walk (w : World) (hS : Sets w) (A : Option Addr) (c : Nat) (l : List UInt8) (hl : l.length ≤ 140737488355328) (hb : Bs w A l) (hlc : l.length ≤ c) (hc : c ≤ 140737488355328) :
    Calls Tryd.prog 4 #[.slice A l.length c] w fun e w' => e = .returned (.bool true) ∧ Below w.heap.size w w' := by
  by_cases hbig : (5000 < l.length ∧ l.length ≤ 65536) ∨ 70000 < l.length
  · have dd : (decide ((5000 : Int) < (l.length : Int)) = true ∧ decide ((l.length : Int) ≤ 65536) = true) ∨ (decide ((l.length : Int) ≤ 65536) = false ∧ decide ((5000 : Int) < (l.length : Int)) = true ∧ decide ((70000 : Int) < (l.length : Int)) = true) := by
      rcases hbig with h | h
      · exact .inl ⟨decide_eq_true (by omega), decide_eq_true (by omega)⟩
      · exact .inr ⟨decide_eq_false (by omega), decide_eq_true (by omega), decide_eq_true (by omega)⟩
    obtain ⟨n, hn⟩ : ∃ n, l.length = n := ⟨_, rfl⟩
    rw [hn] at dd hl hlc ⊢
    clear hbig
    replace hn := Lib.hid hn
    rcases dd with ⟨d1, d2⟩ | ⟨d1, d2, d3⟩
    all_goals
      go_enter Tryd.func4, Tryd.ntmps4
      go_wp2_with fail
      refine (lives_any w hS).mono ?_
      rintro _ w1 ⟨rfl, b1⟩
      go_wp2
      go_ret
      exact ⟨rfl, b1⟩
  have hn1 : l.length ≤ 70000 := by omega
  obtain ⟨n, hn⟩ : ∃ n, l.length = n := ⟨_, rfl⟩
  have pt := twinBytes_any w A c l (by omega) hb
  have pleft := fun W g (h : Bs W A l) (k : Blk W g 5 (bvs (l ++ [90, 90])).toArray) => leftBytes_any W g A c l (by omega) h k
  have cp := fun W (hB : Below w.heap.size w W) A' c' (hc' : n ≤ c') (h : Bs W A' l) => opGet_any W (hS.below hB) A' n c' l hn (by omega) hc' h
  have cr := fun W (hB : Below w.heap.size w W) => refOpGet_any W A n c l hn (by omega) (by omega) (hb.below hB)
  obtain ⟨x, hx⟩ : ∃ x, parse l = x := ⟨_, rfl⟩
  simp only [hx] at cp cr
  obtain ⟨⟨s, ⟨kd, br, ot, pl, cs⟩, F⟩, ha⟩ : ∃ y, ansOf x = y := ⟨_, rfl⟩
  obtain ⟨k, hk⟩ : ∃ k, cs.length = k := ⟨_, rfl⟩
  have hk9 : k ≤ 1000000 := by
    rw [← hk]
    rcases x with _ | ⟨s', o⟩
    · simp only [ansOf, Prod.mk.injEq, Rec.mk.injEq] at ha
      obtain ⟨_, ⟨_, _, _, _, rfl⟩, _⟩ := ha
      simp
    · simp only [ansOf, Prod.mk.injEq] at ha
      obtain ⟨_, rfl, _⟩ := ha
      have h1 := refGet_parse l
      rw [hx] at h1
      unfold refGet at h1
      split at h1
      · cases h1
      · split at h1
        · have h2 := (guess_fit l).2.2
          rw [Option.some.inj h1] at h2
          simp only at h2
          omega
        · cases h1
  rw [hn] at hn1 hl hlc pt pleft hbig ⊢
  have dd : (decide ((5000 : Int) < (n : Int)) = false ∧ decide ((70000 : Int) < (n : Int)) = false) ∨ (decide ((n : Int) ≤ 65536) = false ∧ decide ((5000 : Int) < (n : Int)) = true ∧ decide ((70000 : Int) < (n : Int)) = false) := by
    rcases Nat.lt_or_ge 5000 n with h | h
    · exact .inr ⟨decide_eq_false (by omega), decide_eq_true (by omega), decide_eq_false (by omega)⟩
    · exact .inl ⟨decide_eq_false (by omega), decide_eq_false (by omega)⟩
  clear hbig
  replace hx := Lib.hid hx
  replace ha := Lib.hid ha
  replace hk := Lib.hid hk
  replace hn := Lib.hid hn
  replace hS := Lib.hid hS
  replace pt := Lib.hid pt
  replace pleft := Lib.hid pleft
  replace cp := Lib.hid cp
  replace cr := Lib.hid cr
  have hend : ∀ K : Prop, (decide ((5000 : Int) < (n : Int)) = false ∧ decide ((70000 : Int) < (n : Int)) = false → K) → ((decide ((n : Int) ≤ 65536) = false ∧ decide ((5000 : Int) < (n : Int)) = true ∧ decide ((70000 : Int) < (n : Int)) = false) → K) → K := fun K h1 h2 => dd.elim h1 h2
  clear dd
  refine hend _ ?_ ?_
  all_goals
    clear hend
    rintro ⟨d1, d2⟩
    go_enter Tryd.func4, Tryd.ntmps4
    go_wp2_with fail
    refine pt.out.mono ?_
    clear pt
    obtain ⟨W1, hW1⟩ : ∃ W1, w.alloc (.cells (bvs (l ++ [90, 90])).toArray 5) = W1 := ⟨_, rfl⟩
    rw [hW1]
    rintro _ _ ⟨rfl, rfl⟩
    have bt : Blk W1 w.heap.size 5 (bvs (l ++ [90, 90])).toArray := by rw [← hW1]; exact Blk.new w _ _
    have hB1 : Below w.heap.size w W1 := by rw [← hW1]; exact (Below.refl w.heap.size w).alloc (Nat.le_refl _) _
    clear hW1
    go_wp2_with fail
    refine (cp.out W1 hB1 _ (n + 2) (by omega) (Bs.twin bt)).mono ?_
    rintro _ W2 q2
    obtain ⟨A2, rfl, hs2, ho2, b2⟩ := og_ans q2 ha.out hk.out
    clear q2
    have hB2 := hB1.trans (b2.mono hB1.size)
    replace bt := bt.below b2 bt.lt
    obtain ⟨W3, hW3⟩ : ∃ W3, W2.alloc (.cells #[.int .u8 (kd : Int), .string br, .string ot, .int .u64 (pl : Int), .slice A2 k k] 26) = W3 := ⟨_, rfl⟩
    have b3 : Below W2.heap.size W2 W3 := by rw [← hW3]; exact (Below.refl _ _).alloc (Nat.le_refl _) _
    have t3 : Blk W3 W2.heap.size 26 #[.int .u8 (kd : Int), .string br, .string ot, .int .u64 (pl : Int), .slice A2 k k] := by rw [← hW3]; exact Blk.new W2 _ _
    have hB3 := hB2.trans (b3.mono hB2.size)
    replace bt := bt.below b3 bt.lt
    replace hs2 := hs2.below b3
    replace ho2 := ho2.below b3
    go_wp2_with fail
    try rw [hW3]
    replace hW3 := Lib.hid hW3
    refine (cr.out W3 hB3).mono ?_
    rintro _ W4 q4
    obtain ⟨A4, c4, rfl, hs4, b4⟩ := rg_ans q4 ha.out hk.out
    clear q4
    have hB4 := hB3.trans (b4.mono hB3.size)
    replace bt := bt.below b4 bt.lt
    replace t3 := t3.below b4 t3.lt
    replace hs2 := hs2.below b4
    replace ho2 := ho2.below b4
    obtain ⟨W5, hW5⟩ : ∃ W5, W4.alloc (.cells #[.int .u8 (kd : Int), .string br, .string ot, .int .u64 (pl : Int), .slice A4 k c4] 26) = W5 := ⟨_, rfl⟩
    have b5 : Below W4.heap.size W4 W5 := by rw [← hW5]; exact (Below.refl _ _).alloc (Nat.le_refl _) _
    have t5 : Blk W5 W4.heap.size 26 #[.int .u8 (kd : Int), .string br, .string ot, .int .u64 (pl : Int), .slice A4 k c4] := by rw [← hW5]; exact Blk.new W4 _ _
    have hB5 := hB4.trans (b5.mono hB4.size)
    replace bt := bt.below b5 bt.lt
    replace t3 := t3.below b5 t3.lt
    replace hs2 := hs2.below b5
    replace ho2 := ho2.below b5
    replace hs4 := hs4.below b5
    go_wp2_with fail
    try rw [hW5]
    replace hW5 := Lib.hid hW5
    refine (cp.out W5 hB5 _ (n + 2) (by omega) (Bs.twin bt)).mono ?_
    rintro _ W6 q6
    obtain ⟨A6, rfl, hs6, ho6, b6⟩ := og_ans q6 ha.out hk.out
    clear q6 hs6
    have hB6 := hB5.trans (b6.mono hB5.size)
    replace bt := bt.below b6 bt.lt
    replace t3 := t3.below b6 t3.lt
    replace t5 := t5.below b6 t5.lt
    replace hs2 := hs2.below b6
    replace ho2 := ho2.below b6
    replace hs4 := hs4.below b6
    obtain ⟨W7, hW7⟩ : ∃ W7, (W6.alloc (.cells #[.int .u8 (kd : Int), .string br, .string ot, .int .u64 (pl : Int), .slice A6 k k] 26)).alloc (Obj.cells #[.slice none 0 0] 36) = W7 := ⟨_, rfl⟩
    have b7 : Below W6.heap.size W6 W7 := by rw [← hW7]; exact ((Below.refl _ _).alloc (Nat.le_refl _) _).alloc (by simp) _
    have t7 : Blk W7 W6.heap.size 26 #[.int .u8 (kd : Int), .string br, .string ot, .int .u64 (pl : Int), .slice A6 k k] := by rw [← hW7]; exact (Blk.new W6 _ _).alloc _
    obtain ⟨p, hp⟩ : ∃ p, W6.heap.size + 1 = p := ⟨_, rfl⟩
    have bk : BookAt W7 p p [] := by
      rw [← hW7, ← hp]
      have h := Blk.new (W6.alloc (.cells #[.int .u8 (kd : Int), .string br, .string ot, .int .u64 (pl : Int), .slice A6 k k] 26)) 36 #[.slice none 0 0]
      rw [World.size_alloc] at h
      exact ⟨none, 0, h, World.ownsRow_nil _ _ _ _⟩
    have hpl : p < W7.heap.size := by rw [← hW7, ← hp]; simp
    have hB7 := hB6.trans (b7.mono hB6.size)
    replace bt := bt.below b7 bt.lt
    replace t3 := t3.below b7 t3.lt
    replace t5 := t5.below b7 t5.lt
    replace hs2 := hs2.below b7
    replace ho2 := ho2.below b7
    replace hs4 := hs4.below b7
    replace ho6 := ho6.below b7
    have s23 := b3.size
    have s34 := b4.size
    have s45 := b5.size
    have s56 := b6.size
    clear b2 b3 b4 b5 b6 b7
    replace hW7 := Lib.hid hW7
    replace hp := Lib.hid hp
    go_upto_region 8 with (fail)
    rw [hp.out, hW7.out]
    have c3 := t3.cell
    have c5 := t5.cell
    go_wp2_with fail
    refine (sameOp_yes W7 (kd : Int) br ot (pl : Int) A2 A4 k k c4 cs hk.out (by omega) hs2 hs4).mono ?_
    clear c3 c5
    rintro _ W8 ⟨rfl, b8⟩
    have hB8 := hB7.trans (b8.mono hB7.size)
    have bk8 := bk.below b8
    replace bt := bt.below b8 bt.lt
    replace t3 := t3.below b8 t3.lt
    replace t7 := t7.below b8 t7.lt
    replace ho2 := ho2.below b8
    replace ho6 := ho6.below b8
    have s78 := b8.size
    clear b8 bk
    go_wp2_with fail
    refine (pleft.out W8 _ (hb.below hB8) bt).mono ?_
    rintro _ W9 ⟨rfl, b9⟩
    have hB9 := hB8.trans (b9.mono hB8.size)
    have bk9 := bk8.below b9
    replace t3 := t3.below b9 t3.lt
    replace t7 := t7.below b9 t7.lt
    replace ho2 := ho2.below b9
    replace ho6 := ho6.below b9
    have s89 := b9.size
    clear b9 bk8 bt hs2 hs4 t5
    have hp9 : p ≤ W9.heap.size := by omega
    have c3 := t3.cell
    go_wp2_with fail
    refine (BkCh.put_any W9 p p [] bk9 hp9 0 rfl (by omega) _ k k).mono ?_
    clear c3
    rintro _ W10 ⟨rfl, ⟨m1, bk10⟩, kt10, b10⟩
    have b10 := b10 (Nat.le_refl _)
    have hp10 : p ≤ W10.heap.size := Nat.le_trans hp9 kt10.size
    have t10 := (show Blk W10 W6.heap.size 26 _ from kt10.block _ _ _ _ t7 (by decide) (by decide))
    have c7 := t10.cell
    go_wp2_with fail
    refine (BkCh.put_any W10 p p _ bk10 hp10 1 rfl (by omega) _ k k).mono ?_
    clear c7
    rintro _ W11 ⟨rfl, ⟨m2, bk11⟩, kt11, b11⟩
    have b11 := b11 (Nat.le_refl _)
    have hwp : w.heap.size ≤ p := by have := hB6.size; have := hp.out; omega
    have hB11 : Below w.heap.size w W11 := (hB9.trans (b10.mono hwp)).trans (b11.mono hwp)
    have go1 := (ho2.keepT kt10).keepT kt11
    have go2 := (ho6.keepT kt10).keepT kt11
    have s1 := hB1.size
    have s5 := hB5.size
    have hsh := BkCh.sheets2 (U := w.heap.size) (q0 := ⟨A2, k, k, m1⟩) (q1 := ⟨A6, k, k, m2⟩) go1 go2 (.inl (by omega)) (by omega) (by omega)
    have pa := BkCh.apart_any W11 p p w.heap.size [⟨A2, k, k, m1⟩, ⟨A6, k, k, m2⟩] bk11 hB11.size (by show 2 ≤ 8; omega) hsh.1 hsh.2.1 hsh.2.2
    clear bk9 bk10 bk11 kt10 kt11 ho2 ho6 go1 go2 hsh
    replace pa := Lib.hid pa
    go_wp2_with fail
    refine pa.out.mono ?_
    rintro _ W13 ⟨rfl, b13⟩
    have hB13 := hB11.trans b13
    go_wp2_with fail
    refine (lives_any W13 (hS.out.below hB13)).mono ?_
    rintro _ W14 ⟨rfl, b14⟩
    go_wp2
    go_ret
    exact ⟨rfl, hB13.trans (b14.mono hB13.size)⟩

theorem sets_of4 {W : World} (h : laidMetH Tryd.prog Rows.opsGetRow.laid W) : Sets W := by
  have h2 := laidMetH.filter (fun x => x.1 == "herbarium/ops.sets") h
  have e : List.filter (fun x : String × DataW Unit => x.1 == "herbarium/ops.sets") Rows.opsGetRow.laid = [("herbarium/ops.sets", Rows.laid_herbarium_ops_sets)] := by kernel_rfl
  rw [e] at h2
  exact sets_of h2

/-! ### from the walk to the statement (by tail.py) -/
set_option maxRecDepth 100000 in
theorem door_met (os : Os) (args : Array Value) : laidMetH Tryd.prog Rows.opsGetRow.laid ((World.doorLaid Tryd.prog 29 os).forCall (fun _ _ => 0) ⟨#[], args, []⟩).memory :=
  laidMetH_of_parts3 (fuel := 8) (laidMet_of_run' 8 (by kernel_rfl) (by kernel_rfl)) (by kernel_rfl) (by kernel_rfl)
set_option maxRecDepth 100000 in
theorem lifted (os : Os) (started : os.Started) (H : Type) (enc : TypeId × Value → H) :
    ReturnsInHanded {} Tryd.checked os 4 .any (fun w args => (Rows.opsGetSpec.pre enc Tryd.prog Tryd.f4 [] false w args ∧ laidMetH Tryd.prog Rows.opsGetRow.laid w) ∧ sizedMet enc Tryd.prog Tryd.f4 (OpenSpec.ofChange Rows.opsGetSpec) false w args) (Rows.opsGetSpec.post enc Tryd.prog Tryd.f4 false true false false) := by
  refine lifted_of_and (C := Tryd.checked) (tb := 4) (n := 1) (X := fun w _ => laidMetH Tryd.prog Rows.opsGetRow.laid w) (fun _ _ _ hh h => h.of_heap hh) (by kernel_rfl) started (by kernel_rfl) Tryd.func4 (by kernel_rfl) (by kernel_rfl) rfl (by kernel_rfl) Tryd.underlying4 (by kernel_rfl)
    (fun ds hd => by match ds, hd with | [d1], _ => exact ⟨rfl, rfl, rfl⟩)
    (ChangeSpec.witness_shaped (enc := enc) (C := Tryd.checked) (os := os) (X := fun w _ => laidMetH Tryd.prog Rows.opsGetRow.laid w) false (World.doorLaid Tryd.prog 29 os) #[.slice none 0 0] 8 rfl (World.shaped_of_RefB (by kernel_rfl) (by kernel_rfl)) (by kernel_rfl) (by kernel_rfl) (by kernel_rfl) (door_met os _)) ?_
  intro W base args ds before hval hA hsz hX
  rw [Tryd.params4] at hA hval hsz
  obtain ⟨v0, vs0, d0, ds0, p0, q0, rfl, rfl, rfl, h0, r0⟩ := trodAll_cons hA
  obtain ⟨rfl, rfl, rfl⟩ := trodAll_nil r0
  obtain ⟨A0, c0, l0, rfl, hb0, hlc0, _, hcap0⟩ := open_bytes Tryd.underlying30 Tryd.underlying5 (by kernel_rfl) (by kernel_rfl) (hval 0 _ _ rfl rfl) h0
  have hc0 := hcap0 hsz 0 rfl rfl
  exact walk W (sets_of4 hX) A0 c0 l0 (by have := reachBytes_lt; omega) hb0 hlc0 (by have := reachBytes_lt; omega)

theorem over : Rows.opsGetRow.holds Tryd.pinned (OpenSpec.ofChange Rows.opsGetSpec) :=
  OpenClaim.holds_of_wide 4 Tryd.f4 rfl rfl rfl rfl rfl rfl rfl ⟨rfl, rfl, rfl, rfl, rfl⟩ rfl rfl rfl rfl rfl (by kernel_rfl) Tryd.func4 (by kernel_rfl)
    (of_decide_eq_true (by kernel_rfl)) (by unfold Func.isWrapper; first | (rw [if_pos (by decide +kernel)]; kernel_rfl) | (rw [if_neg (by decide +kernel)]; exact ⟨rfl, rfl⟩))
    (fun os started H enc _ => lifted os started H enc)

theorem proved : Rows.OpsGetCardSaid :=
  Claim7.holds_tied_plain_at .later [] [.data, .data, .data, .data] true (true, "46d5cacd4782c602f2b9df7395970fea9243359bc8c670c610b31bfbc6d9cf21") true
    over (fun _ h => by cases h) (by kernel_rfl) (fun _ h => by cases h) opsGet_row_tie rfl ⟨rfl, rfl⟩ (by kernel_rfl) rfl
    (fun f fn hf hfn => by
      obtain rfl : f = 4 := Option.some.inj ((show Tryd.prog.funcNamed "herbarium/herbariumlaw07.OpsGet" = some 4 by kernel_rfl).symm.trans hf) |>.symm
      obtain rfl : fn = Tryd.f4 := (Option.some.inj (Tryd.func4.symm.trans hfn)).symm
      exact ⟨by kernel_rfl, fun j t ht => by
        have hall : (Tryd.f4.params.toList.all fun u => !Tryd.prog.wantsStandIn u) = true := by kernel_rfl
        have hm : t ∈ Tryd.f4.params.toList := Array.mem_toList_iff.2 (Array.mem_of_getElem? ht)
        exact (show Tryd.prog.wantsStandIn t = false by simpa using List.all_eq_true.1 hall t hm)⟩)
    (by kernel_rfl)
end Go.Proofs.YtccbldlnfaiphaaDoor.lawOpsGet
