/- Walks of the statements' helpers of layer 03: lives, no, order. -/
import Derived.Test.YtelppijpmjoblaaDoorKeyPut2
import Derived.Test.YtelppijpmjoblaaDoorKeyGet
import Derived.Test.YtelppijpmjoblaaDoorFact
set_option linter.unusedSimpArgs false
set_option linter.unusedVariables false
namespace Herb
def ordL (a b : List UInt8) : Int := if less a b = true then -1 else if less b a = true then 1 else 0
end Herb
namespace Go.Proofs.YtelppijpmjoblaaDoor
open Go Go.RowKit Herb
set_option maxRecDepth 100000 in
set_option maxHeartbeats 1600000 in
theorem no_any (w : World) (A : Option Addr) (n c : Nat) (l : List UInt8) (hn : l.length = n) (hnc : n ≤ c) (hl : n ≤ 1000000) (hb : Bs w A l) (e : Nat) (hG : getP l = (e, [], 0, 0, 0)) :
    Calls Tryd.prog 13 #[.slice A n c, .int .i64 (e : Int)] w fun e' w' => e' = .returned (.bool true) ∧ Below w.heap.size w w' := by
  have pg := get_any w A n c l hn hnc hl hb e [] 0 0 0 hG
  have heq := fun W => fact_refl W ⟨#[]⟩ ⟨#[]⟩ 0 0 0 0
  have hgd : Tryd.prog.eqGuardType Tryd.prog.depth 26 = false := by kernel_rfl
  go_enter Tryd.func13, Tryd.ntmps13
  go_wp2_with fail
  refine pg.mono ?_
  clear pg
  rintro _ w1 ⟨rfl, b1⟩
  go_wp2
  go_ret
  exact ⟨rfl, b1.alloc b1.size _⟩
set_option maxRecDepth 100000 in
set_option maxHeartbeats 1600000 in
theorem lives_any (w : World) : Calls Tryd.prog 4 #[] w fun e w' => e = .returned (.bool true) ∧ Below w.heap.size w w' := by
  have kstr := fun (w : World) (A : Option Addr) (l : List UInt8) (h : Bs w A l) (n : Nat) (hn : l.length = n) (c : Nat) => run_str (P := Tryd.prog) h 28 9 5 Tryd.underlying28 Tryd.underlying5 Tryd.underlying9 n c hn
  have p0 : putL ⟨#[97]⟩ 1 2 0 = [97, 0, 0, 255, 255, 255, 254, 255, 255, 255, 255, 255, 255, 255, 253, 0] := by decide +kernel
  have s0 : seekL ⟨#[97, 0]⟩ 0 = [97, 0, 1, 0, 0, 255, 255, 255, 255] := by decide +kernel
  have m0 : mayB ⟨#[97]⟩ 2 0 = true := by decide +kernel
  have m1 : mayB ⟨#[]⟩ 1 0 = false := by decide +kernel
  have g0 : getP [97, 0, 0, 255, 255, 255, 254, 255, 255, 255, 255, 255, 255, 255, 253, 0] = (0, [97], 1, 2, 0) := by decide +kernel
  have g1 : getP [97] = (5, [], 0, 0, 0) := by decide +kernel
  have g2 : getP [97, 0, 2] = (4, [], 0, 0, 0) := by decide +kernel
  have g3 : getP [0, 0] = (4, [], 0, 0, 0) := by decide +kernel
  have cp := fun W => put_yes W ⟨#[97]⟩ ⟨#[]⟩ 1 2 0 0 (by omega) (by omega) (by omega) m0
  have cq := fun W => put_no W ⟨#[]⟩ ⟨#[]⟩ 0 1 0 0 m1
  have cs := fun W => seek_any W ⟨#[97, 0]⟩ 0 (by omega) (by decide)
  rw [p0] at cp
  rw [s0] at cs
  replace cp := Lib.hid cp
  replace cq := Lib.hid cq
  replace cs := Lib.hid cs
  clear p0 s0 m0 m1
  replace g0 := Lib.hid g0
  replace g1 := Lib.hid g1
  replace g2 := Lib.hid g2
  replace g3 := Lib.hid g3
  have heq := fun W => fact_refl W ⟨#[97]⟩ ⟨#[]⟩ 1 2 0 0
  have hgd : Tryd.prog.eqGuardType Tryd.prog.depth 26 = false := by kernel_rfl
  go_enter Tryd.func4, Tryd.ntmps4
  go_wp2_with fail
  refine (cp.out _).mono ?_
  rintro _ w1 ⟨g, n, rfl, hn, hg, hs1, b1⟩
  simp only [List.length_cons, List.length_nil] at hn
  subst hn
  have kf := (Blk.new w 26 #[.string ⟨#[97]⟩, .int .u32 1, .int .u64 2, .int .u64 0, .int .u8 0, .string ⟨#[]⟩]).below b1 (Blk.new w 26 #[.string ⟨#[97]⟩, .int .u32 1, .int .u64 2, .int .u64 0, .int .u8 0, .string ⟨#[]⟩]).lt
  have h1 := ((Below.refl w.heap.size w).alloc (Nat.le_refl _) (.cells #[.string ⟨#[97]⟩, .int .u32 1, .int .u64 2, .int .u64 0, .int .u8 0, .string ⟨#[]⟩] 26))
  replace b1 := h1.trans (b1.mono h1.size)
  clear h1
  go_wp2_with fail
  refine (get_any w1 (some ⟨g, 0, none⟩) 16 16 _ rfl (by omega) (by omega) hs1 0 _ 1 2 0 g0.out).mono ?_
  rintro _ w2 ⟨rfl, b2⟩
  have kh := Blk.new w2 26 #[.string ⟨#[97]⟩, .int .u32 1, .int .u64 2, .int .u64 0, .int .u8 0, .string ⟨#[]⟩]
  have kf2 := (kf.below b2 kf.lt).alloc (.cells #[.string ⟨#[97]⟩, .int .u32 1, .int .u64 2, .int .u64 0, .int .u8 0, .string ⟨#[]⟩] 26)
  have hs2 := (hs1.below b2).alloc (.cells #[.string ⟨#[97]⟩, .int .u32 1, .int .u64 2, .int .u64 0, .int .u8 0, .string ⟨#[]⟩] 26)
  replace b2 := b1.trans (b2.mono b1.size)
  have b3 := b2.alloc b2.size (.cells #[.string ⟨#[97]⟩, .int .u32 1, .int .u64 2, .int .u64 0, .int .u8 0, .string ⟨#[]⟩] 26)
  clear kf hs1 b1 b2
  replace kh := Lib.hid kh
  replace kf2 := Lib.hid kf2
  replace hs2 := Lib.hid hs2
  replace b3 := Lib.hid b3
  go_wp2_with fail
  refine (cq.out _).mono ?_
  rintro _ w4 ⟨rfl, b4⟩
  have c1 := (kh.out.below b4 kh.out.lt).cell
  have c2 := (kf2.out.below b4 kf2.out.lt).cell
  have k4 := kstr _ _ _ (hs2.out.below b4) 16 rfl 16
  replace b4 := b3.out.trans (b4.mono b3.out.size)
  clear kh kf2 hs2 b3
  replace kstr := Lib.hid kstr
  go_wp2_with fail
  refine (cs.out _).mono ?_
  clear c1 c2 k4
  rintro _ w5 ⟨g5, n, rfl, hn, hg5, hs5, b5⟩
  simp only [List.length_cons, List.length_nil] at hn
  subst hn
  replace b5 := b4.trans (b5.mono b4.size)
  have k5 := kstr.out _ _ _ hs5 9 rfl 9
  have h6 := Bs.new w5 5 [97] (0, 0)
  have b6 := b5.alloc b5.size (.cells (bvs [97]).toArray 5)
  have hp := no_any _ _ 1 1 [97] rfl (by omega) (by omega) h6 5 g1.out
  clear h6
  go_wp2_with fail
  refine hp.mono ?_
  clear hp k5 hs5
  rintro _ w6 ⟨rfl, b7⟩
  replace b7 := b6.trans (b7.mono b6.size)
  have h6 := Bs.new w6 5 [97, 0, 2] (0, 0)
  have b8 := b7.alloc b7.size (.cells (bvs [97, 0, 2]).toArray 5)
  have hp := no_any _ _ 3 3 [97, 0, 2] rfl (by omega) (by omega) h6 4 g2.out
  clear h6
  go_wp2_with fail
  refine hp.mono ?_
  clear hp
  rintro _ w7 ⟨rfl, b9⟩
  replace b9 := b8.trans (b9.mono b8.size)
  have h6 := Bs.new w7 5 [0, 0] (0, 0)
  have b10 := b9.alloc b9.size (.cells (bvs [0, 0]).toArray 5)
  have hp := no_any _ _ 2 2 [0, 0] rfl (by omega) (by omega) h6 4 g3.out
  clear h6
  go_wp2_with fail
  refine hp.mono ?_
  clear hp
  rintro _ w8 ⟨rfl, b11⟩
  go_wp2
  go_ret
  exact ⟨rfl, b10.trans (b11.mono b10.size)⟩
end Go.Proofs.YtelppijpmjoblaaDoor
