/- Walks of SameOp at ops that are the same, of 'no' and 'lives'. -/
import Derived.Test.YtccbldlnfaiphaaDoorOpF
import Derived.Laws.StructEq
import Derived.Lib.Hide
set_option linter.unusedSimpArgs false
set_option linter.unusedVariables false
namespace Go.Proofs.YtccbldlnfaiphaaDoor
open Go Go.RowKit Herb Herb.Cm

/-- A change is itself. -/
theorem ch_refl (W : World) (k v : ByteArray) (va ki : Int) :
    (Op.equalIn 10000 51 (.agg #[.string k, .int .u32 va, .int .u8 ki, .string v]) (.agg #[.string k, .int .u32 va, .int .u8 ki, .string v])).run Tryd.prog W = .ok true W := by
  have hu := Tryd.underlying51
  rw [run_equalIn_struct W 9999 51 _ _ (by unfold Program.fieldsOf; rw [hu]) (by kernel_rfl)]
  unfold Program.fieldsOf
  rw [hu]
  simp only []
  have u9 := Tryd.underlying9
  have u25 := Tryd.underlying48
  have u27 := Tryd.underlying49
  have c9 : Tryd.prog.cellsOf 9 = 1 := by kernel_rfl
  have c25 : Tryd.prog.cellsOf 48 = 1 := by kernel_rfl
  have c27 : Tryd.prog.cellsOf 49 = 1 := by kernel_rfl
  go_simp
set_option maxHeartbeats 1600000 in
theorem equalCh_yes (w : World) (A A' : Option Addr) (n c c' : Nat) (cs : List Ch) (hln : cs.length = n) (hn : n ≤ 140737488355328) (hb : Cs w A cs) (hb' : Cs w A' cs) :
    Calls Tryd.prog 51 #[.slice A n c, .slice A' n c'] w fun e w' => e = .returned (.bool true) ∧ Below w.heap.size w w' := by
  have hgd : Tryd.prog.eqGuardType Tryd.prog.depth 51 = false := by kernel_rfl
  subst hln
  go_enter Tryd.func51, Tryd.ntmps51
  go_wp2
  go_loopw [5] (fun i wr => ∃ k : Nat, k ≤ cs.length ∧ i = .int .i64 k ∧ Below w.heap.size w wr) (fun i _ => cs.length - (intOf i).toNat)
  case atStart => exact ⟨0, by omega, rfl, Below.refl _ _⟩
  case round =>
    obtain ⟨k, hk, rfl, hbel⟩ := hrel
    by_cases hlt : k < cs.length
    · obtain ⟨b, off, rfl, hblt, hc⟩ := (hb.below hbel).at_ hlt
      obtain ⟨b', off', rfl, hblt', hc'⟩ := (hb'.below hbel).at_ hlt
      obtain ⟨e0, e1, e2, e3⟩ := hc k hlt
      obtain ⟨f0, f1, f2, f3⟩ := hc' k hlt
      obtain ⟨x, hx⟩ : ∃ x, cs[k] = x := ⟨_, rfl⟩
      rw [hx] at e0 e1 e2 e3 f0 f1 f2 f3
      obtain ⟨xk, xva, xki, xv⟩ := x
      simp only at e0 e1 e2 e3 f0 f1 f2 f3
      have heq := fun W => ch_refl W xk xv (xva : Int) (xki : Int)
      have hd : decide (k < cs.length) = true := by simpa using hlt
      clear hc hc' hx
      go_wp2
      go_quiet (fail)
      go_wp2
      go_roundw
      case rel => exact ⟨k + 1, by omega, by go_num, below_drewN hbel _⟩
      case measure => simp [intOf]; omega
    · go_wp2
      go_ret
      exact ⟨rfl, hbel⟩
set_option maxHeartbeats 1600000 in
theorem sameOp_yes (w : World) (kind : Int) (br ot : ByteArray) (pl : Int) (A A' : Option Addr) (n c c' : Nat) (cs : List Ch) (hln : cs.length = n) (hn : n ≤ 140737488355328) (hb : Cs w A cs) (hb' : Cs w A' cs) :
    Calls Tryd.prog 23 #[.agg #[.int .u8 kind, .string br, .string ot, .int .u64 pl, .slice A n c], .agg #[.int .u8 kind, .string br, .string ot, .int .u64 pl, .slice A' n c']] w fun e w' => e = .returned (.bool true) ∧ Below w.heap.size w w' := by
  have b1 := ((Below.refl w.heap.size w).alloc (Nat.le_refl _) (.cells #[.int .u8 kind, .string br, .string ot, .int .u64 pl, .slice A n c] 26)).alloc (by simp) (.cells #[.int .u8 kind, .string br, .string ot, .int .u64 pl, .slice A' n c'] 26)
  have ce := equalCh_yes _ A A' n c c' cs hln hn (hb.below b1) (hb'.below b1)
  replace hln := Lib.hid hln
  go_enter Tryd.func23, Tryd.ntmps23
  go_wp2_with fail
  refine ce.mono ?_
  rintro _ w2 ⟨rfl, b2⟩
  go_wp2
  go_ret
  exact ⟨rfl, b1.trans (b2.mono b1.size)⟩
/-- no: there is none. -/
theorem no_yes (w : World) (hS : Sets w) (A : Option Addr) (n c : Nat) (l : List UInt8) (hl : l.length = n) (hn : n ≤ 1000000) (hnc : n ≤ c) (hb : Bs w A l) (hp : parse l = none) :
    Calls Tryd.prog 26 #[.slice A n c] w fun e w' => e = .returned (.bool true) ∧ Below w.heap.size w w' := by
  have cg := opGet_any w hS A n c l hl hn hnc hb
  rw [hp] at cg
  replace hl := Lib.hid hl
  replace hp := Lib.hid hp
  go_enter Tryd.func26, Tryd.ntmps26
  go_wp2_with fail
  refine cg.mono ?_
  clear cg
  rintro e w1 ⟨b1, rfl⟩
  go_wp2_with fail
  refine (sameOp_yes _ 0 ⟨#[]⟩ ⟨#[]⟩ 0 none none 0 0 0 [] rfl (by omega) (Cs.nil_ _ _) (Cs.nil_ _ _)).mono ?_
  rintro _ w2 ⟨rfl, b2⟩
  have b12 := b1.alloc b1.size (.cells #[.int .u8 0, .string ⟨#[]⟩, .string ⟨#[]⟩, .int .u64 0, .slice none 0 0] 26)
  go_wp2
  go_ret
  exact ⟨rfl, b12.trans (b2.mono b12.size)⟩

/-! ### the chapter's answers -/
def oDrop : Rec := ⟨2, ⟨#[100, 101, 118]⟩, ⟨#[]⟩, 0, []⟩
def oMain : Rec := ⟨0, ⟨#[109, 97, 105, 110]⟩, ⟨#[]⟩, 0, [⟨⟨#[107]⟩, 5, 0, ⟨#[118]⟩⟩]⟩
theorem enc300 : enc 300 = [172, 2] := by rw [enc_ge (by omega), enc_lt (by omega)]; rfl
theorem bDrop : encOp 300 oDrop = [172, 2, 2, 3, 100, 101, 118] := by
  unfold encOp encH encS oDrop
  simp only [enc300]
  rw [show (ByteArray.mk #[100, 101, 118]).size = 3 from rfl, enc_lt (show 3 < 128 by omega)]
  rfl
theorem bMain : encOp 1 oMain = [1, 0, 4, 109, 97, 105, 110, 1, 1, 107, 5, 0, 1, 118] := by
  unfold encOp encH encS oMain
  simp only [List.flatMap_cons, List.flatMap_nil, encC, encS]
  rw [show (ByteArray.mk #[109, 97, 105, 110]).size = 4 from rfl, show (ByteArray.mk #[107]).size = 1 from rfl, show (ByteArray.mk #[118]).size = 1 from rfl, show ([⟨⟨#[107]⟩, 5, 0, ⟨#[118]⟩⟩] : List Ch).length = 1 from rfl, enc_lt (show 4 < 128 by omega), enc_lt (show 1 < 128 by omega), enc_lt (show 5 < 128 by omega)]
  rfl
theorem cDrop : chk oDrop = true := by decide +kernel
theorem cMain : chk oMain = true := by decide +kernel
theorem eDrop : putE 300 oDrop = [172, 2, 2, 3, 100, 101, 118] ∧ putR 300 oDrop = 0 := by
  unfold putE putR
  rw [bDrop, cDrop]
  exact ⟨rfl, rfl⟩
theorem eMain : putE 1 oMain = [1, 0, 4, 109, 97, 105, 110, 1, 1, 107, 5, 0, 1, 118] ∧ putR 1 oMain = 0 := by
  unfold putE putR
  rw [bMain, cMain]
  exact ⟨rfl, rfl⟩
theorem eNone : putE 0 oDrop = [] ∧ putR 0 oDrop = 1 := by
  unfold putE putR
  exact ⟨by rw [if_neg (by simp)], by rw [if_pos (.inr rfl)]⟩
theorem pDrop : parse [172, 2, 2, 3, 100, 101, 118] = some (300, oDrop) := by
  have h := parse_enc (s := 300) cDrop ⟨by decide, by decide, fun c hc => by cases hc⟩ (by omega) (by omega) (by decide) (by rw [bDrop]; decide)
  rw [bDrop] at h
  exact h
theorem pDrop2 : parse [172, 2, 2, 3, 100, 101, 118] = some (300, ⟨2, ⟨#[100, 101, 118]⟩, ⟨#[]⟩, 0, []⟩) := pDrop
theorem pNil : parse [] = none := rfl
theorem pFive : parse [1, 5, 1, 97] = none := by
  unfold parse parseR rdN
  rw [show dec [1, 5, 1, 97] = (1, 1, 0) by decide +kernel]
  rfl

set_option maxRecDepth 100000 in
set_option maxHeartbeats 6400000 in
theorem lives_any (w : World) (hS : Sets w) : Calls Tryd.prog 10 #[] w fun e w' => e = .returned (.bool true) ∧ Below w.heap.size w w' := by
  have kstr := fun (w : World) (A : Option Addr) (l : List UInt8) (h : Bs w A l) (n : Nat) (hn : l.length = n) (c : Nat) => run_str (P := Tryd.prog) h 30 9 5 Tryd.underlying30 Tryd.underlying5 Tryd.underlying9 n c hn
  obtain ⟨W0, hW0⟩ : ∃ W0, w.alloc (.cells #[.int .u8 2, .string ⟨#[100, 101, 118]⟩, .string ⟨#[]⟩, .int .u64 0, .slice none 0 0] 26) = W0 := ⟨_, rfl⟩
  have k0 : Blk W0 w.heap.size 26 #[.int .u8 2, .string ⟨#[100, 101, 118]⟩, .string ⟨#[]⟩, .int .u64 0, .slice none 0 0] := by rw [← hW0]; exact Blk.new w _ _
  have b0 : Below w.heap.size w W0 := by rw [← hW0]; exact (Below.refl _ _).alloc (Nat.le_refl _) _
  have p0 := opPut_any W0 (hS.below b0) 300 (by omega) 2 ⟨#[100, 101, 118]⟩ ⟨#[]⟩ 0 none 0 0 [] rfl (by omega) (Cs.nil_ _ _) (by decide) (by decide) (by omega) (fun x hx => by cases hx)
  have c0 := k0.cell
  rw [show putE 300 ⟨2, ⟨#[100, 101, 118]⟩, ⟨#[]⟩, 0, []⟩ = [172, 2, 2, 3, 100, 101, 118] from eDrop.1, show putR 300 ⟨2, ⟨#[100, 101, 118]⟩, ⟨#[]⟩, 0, []⟩ = 0 from eDrop.2] at p0
  replace hS := Lib.hid hS
  replace kstr := Lib.hid kstr
  replace hW0 := Lib.hid hW0
  go_enter Tryd.func10, Tryd.ntmps10
  go_wp2_with (first | rw [hW0.out] | fail)
  refine p0.mono ?_
  clear p0 c0
  rintro _ w1 ⟨A1, n1, rfl, hn1, hs1, _, b1⟩
  obtain rfl : n1 = 7 := by rw [← hn1]; rfl
  have k1 := k0.below b1 k0.lt
  have hB1 := b0.trans (b1.mono b0.size)
  clear k0 b1 hn1
  have hcs := Rd.ch w1 ⟨⟨#[107]⟩, 5, 0, ⟨#[118]⟩⟩
  have bb := (Below.refl w1.heap.size w1).alloc (Nat.le_refl _) (.cells #[.string ⟨#[107]⟩, .int .u32 ((5 : Nat) : Int), .int .u8 ((0 : Nat) : Int), .string ⟨#[118]⟩] 51)
  have hB2 := hB1.trans (bb.mono hB1.size)
  have p2 := opPut_any _ (hS.out.below hB2) 1 (by omega) 0 ⟨#[109, 97, 105, 110]⟩ ⟨#[]⟩ 0 (some ⟨w1.heap.size, 0, none⟩) 1 1 [⟨⟨#[107]⟩, 5, 0, ⟨#[118]⟩⟩] rfl (by omega) hcs (by decide) (by decide) (by omega) (fun x hx => by simp at hx; subst hx; exact ⟨by decide, by decide⟩)
  rw [show putE 1 ⟨0, ⟨#[109, 97, 105, 110]⟩, ⟨#[]⟩, 0, [⟨⟨#[107]⟩, 5, 0, ⟨#[118]⟩⟩]⟩ = [1, 0, 4, 109, 97, 105, 110, 1, 1, 107, 5, 0, 1, 118] from eMain.1, show putR 1 ⟨0, ⟨#[109, 97, 105, 110]⟩, ⟨#[]⟩, 0, [⟨⟨#[107]⟩, 5, 0, ⟨#[118]⟩⟩]⟩ = 0 from eMain.2] at p2
  replace hs1 := hs1.below bb
  replace k1 := k1.below bb k1.lt
  clear hcs bb
  go_wp2_with fail
  refine p2.mono ?_
  clear p2
  rintro _ w2 ⟨A2, n2, rfl, hn2, hs2, _, b2⟩
  obtain rfl : n2 = 14 := by rw [← hn2]; rfl
  have hB3 := hB2.trans (b2.mono hB2.size)
  replace hs1 := hs1.below b2
  replace k1 := k1.below b2 k1.lt
  clear b2 hn2 hB2
  have cg := opGet_any w2 (hS.out.below hB3) A1 7 7 _ rfl (by omega) (by omega) hs1
  rw [pDrop2] at cg
  go_wp2_with fail
  refine cg.mono ?_
  clear cg
  rintro e w3 ⟨b3, A3, n3, cap3, rfl, hn3, own3⟩
  obtain rfl : n3 = 0 := hn3.symm
  have hB4 := hB3.trans (b3.mono hB3.size)
  replace hs1 := hs1.below b3
  replace hs2 := hs2.below b3
  replace k1 := k1.below b3 k1.lt
  clear b3 hn3 own3 hB3
  obtain ⟨W4, hW4⟩ : ∃ W, w3.alloc (.cells #[.int .u8 2, .string ⟨#[100, 101, 118]⟩, .string ⟨#[]⟩, .int .u64 0, .slice A3 0 0] 26) = W := ⟨_, rfl⟩
  have b4 : Below w3.heap.size w3 W4 := by rw [← hW4]; exact (Below.refl _ _).alloc (Nat.le_refl _) _
  have k4 : Blk W4 w3.heap.size 26 #[.int .u8 2, .string ⟨#[100, 101, 118]⟩, .string ⟨#[]⟩, .int .u64 0, .slice A3 0 0] := by rw [← hW4]; exact Blk.new w3 _ _
  have hB5 := hB4.trans (b4.mono hB4.size)
  replace hs1 := hs1.below b4
  replace hs2 := hs2.below b4
  replace k1 := k1.below b4 k1.lt
  have c1 := k1.cell
  have p5 := opPut_any W4 (hS.out.below hB5) 0 (by omega) 2 ⟨#[100, 101, 118]⟩ ⟨#[]⟩ 0 none 0 0 [] rfl (by omega) (Cs.nil_ _ _) (by decide) (by decide) (by omega) (fun x hx => by cases hx)
  rw [show putE 0 ⟨2, ⟨#[100, 101, 118]⟩, ⟨#[]⟩, 0, []⟩ = [] from eNone.1, show putR 0 ⟨2, ⟨#[100, 101, 118]⟩, ⟨#[]⟩, 0, []⟩ = 1 from eNone.2] at p5
  clear b4 hB4
  replace hW4 := Lib.hid hW4
  go_wp2_with (first | rw [hW4.out] | fail)
  refine p5.mono ?_
  clear p5 c1
  rintro _ w6 ⟨A6, n6, rfl, hn6, hs6, _, b6⟩
  obtain rfl : n6 = 0 := hn6.symm
  have hB6 := hB5.trans (b6.mono hB5.size)
  replace hs1 := hs1.below b6
  replace hs2 := hs2.below b6
  replace k1 := k1.below b6 k1.lt
  replace k4 := k4.below b6 k4.lt
  clear b6 hn6 hs6 hB5
  have c1 := k1.cell
  have c4 := k4.cell
  have r1 := kstr.out w6 _ _ hs1 7 rfl 7
  have r2 := kstr.out w6 _ _ hs2 14 rfl 14
  go_wp2_with fail
  refine (sameOp_yes w6 2 ⟨#[100, 101, 118]⟩ ⟨#[]⟩ 0 A3 none 0 0 0 [] rfl (by omega) (Cs.nil_ _ _) (Cs.nil_ _ _)).mono ?_
  rintro _ w7 ⟨rfl, b7⟩
  have hB7 := hB6.trans (b7.mono hB6.size)
  clear r1 r2 c1 c4 k1 k4 hs1 hs2 b7 hB6
  have ck1 := check_any w7 (hS.out.below hB7) 2 ⟨#[100, 101, 118]⟩ ⟨#[120]⟩ 0 none 0 0 [] rfl (by omega) (Cs.nil_ _ _) (by decide) (by decide)
  rw [show chk ⟨2, ⟨#[100, 101, 118]⟩, ⟨#[120]⟩, 0, []⟩ = false by decide +kernel] at ck1
  go_wp2_with fail
  refine ck1.mono ?_
  clear ck1
  rintro _ w8 ⟨rfl, b8⟩
  have hB8 := hB7.trans (b8.mono hB7.size)
  clear b8 hB7
  have ck1 := check_any w8 (hS.out.below hB8) 1 ⟨#[97, 45, 98]⟩ ⟨#[120]⟩ 0 none 0 0 [] rfl (by omega) (Cs.nil_ _ _) (by decide) (by decide)
  rw [show chk ⟨1, ⟨#[97, 45, 98]⟩, ⟨#[120]⟩, 0, []⟩ = false by decide +kernel] at ck1
  go_wp2_with fail
  refine ck1.mono ?_
  clear ck1
  rintro _ w9 ⟨rfl, b9⟩
  have hB9 := hB8.trans (b9.mono hB8.size)
  clear b9 hB8
  go_wp2_with fail
  refine (no_yes w9 (hS.out.below hB9) none 0 0 [] rfl (by omega) (by omega) (Bs.nil_ _ _) pNil).mono ?_
  rintro _ w10 ⟨rfl, b10⟩
  have hB10 := hB9.trans (b10.mono hB9.size)
  clear b10 hB9
  have h5 := Bs.new w10 5 [1, 5, 1, 97] (0, 0)
  have b11 := hB10.alloc hB10.size (.cells (bvs [1, 5, 1, 97]).toArray 5)
  have hno := no_yes _ (hS.out.below b11) _ 4 4 [1, 5, 1, 97] rfl (by omega) (by omega) h5 pFive
  clear h5
  go_wp2_with fail
  refine hno.mono ?_
  clear hno
  rintro _ w12 ⟨rfl, b12⟩
  go_wp2
  go_ret
  exact ⟨rfl, b11.trans (b12.mono b11.size)⟩
end Go.Proofs.YtccbldlnfaiphaaDoor
