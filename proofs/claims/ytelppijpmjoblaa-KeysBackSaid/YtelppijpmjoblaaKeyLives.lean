/- Walks of the statements' helpers of layer 03: lives, no, order. -/
import Derived.Test.YtelppijpmjoblaaKeyPut2
import Derived.Test.YtelppijpmjoblaaKeyGet
import Derived.Test.YtelppijpmjoblaaFact
set_option linter.unusedSimpArgs false
set_option linter.unusedVariables false
namespace Herb
def ordL (a b : List UInt8) : Int := if less a b = true then -1 else if less b a = true then 1 else 0
end Herb
namespace Go.Proofs.Ytelppijpmjoblaa
open Go Go.RowKit Herb
set_option maxRecDepth 100000 in
set_option maxHeartbeats 1600000 in
theorem no_any (w : World) (A : Option Addr) (n c : Nat) (l : List UInt8) (hn : l.length = n) (hnc : n ≤ c) (hl : n ≤ 1000000) (hb : Bs w A l) (e : Nat) (hG : getP l = (e, [], 0, 0, 0)) :
    Calls Try.prog 15 #[.slice A n c, .int .i64 (e : Int)] w fun e' w' => e' = .returned (.bool true) ∧ Below w.heap.size w w' := by
  have pg := get_any w A n c l hn hnc hl hb e [] 0 0 0 hG
  have heq := fun W => fact_refl W ⟨#[]⟩ ⟨#[]⟩ 0 0 0 0
  have hgd : Try.prog.eqGuardType Try.prog.depth 29 = false := by kernel_rfl
  go_enter Try.func15, Try.ntmps15
  go_wp2_with fail
  refine pg.mono ?_
  clear pg
  rintro _ w1 ⟨rfl, b1⟩
  go_wp2
  go_ret
  exact ⟨rfl, b1.alloc b1.size _⟩
set_option maxHeartbeats 1600000 in
theorem order_any (w : World) (A B : Option Addr) (n m c d : Nat) (l l' : List UInt8) (hn : l.length = n) (hm : l'.length = m) (ha : Bs w A l) (hb : Bs w B l') :
    Calls Try.prog 18 #[.slice A n c, .slice B m d] w fun e w' => e = .returned (.int .i64 (ordL l l')) ∧ w = w' := by
  have k1 := run_str (P := Try.prog) ha 22 9 5 Try.underlying22 Try.underlying5 Try.underlying9 n c hn
  have k2 := run_str (P := Try.prog) hb 22 9 5 Try.underlying22 Try.underlying5 Try.underlying9 m d hm
  go_enter Try.func18, Try.ntmps18
  go_wp2
  · have h1 : less l l' = true := by assumption
    go_ret
    exact ⟨by unfold ordL; rw [if_pos h1]; rfl, rfl⟩
  · have h1 : less l l' = false := by assumption
    have h2 : l ≠ l' := by
      have : (!l == l') = true := by assumption
      simpa using this
    have h3 : less l' l = true := by
      rcases h : less l' l with _ | _
      · exact absurd (less_total h1 h) h2
      · rfl
    go_ret
    exact ⟨by unfold ordL; rw [if_neg (by rw [h1]; simp), if_pos h3]; rfl, rfl⟩
  · have h2 : l = l' := by
      have : (!l == l') = false := by assumption
      simpa using this
    subst h2
    go_ret
    exact ⟨by unfold ordL; rw [if_neg (by rw [less_irrefl]; simp), if_neg (by rw [less_irrefl]; simp)]; rfl, rfl⟩

set_option maxRecDepth 100000 in
set_option maxHeartbeats 1600000 in
theorem lives_any (w : World) : Calls Try.prog 9 #[] w fun e w' => e = .returned (.bool true) ∧ Below w.heap.size w w' := by
  have kstr := fun (w : World) (A : Option Addr) (l : List UInt8) (h : Bs w A l) (n : Nat) (hn : l.length = n) (c : Nat) => run_str (P := Try.prog) h 22 9 5 Try.underlying22 Try.underlying5 Try.underlying9 n c hn
  have p0 : putL ⟨#[97]⟩ 1 2 0 = [97, 0, 0, 255, 255, 255, 254, 255, 255, 255, 255, 255, 255, 255, 253, 0] := by decide +kernel
  have s0 : seekL ⟨#[97, 0]⟩ 0 = [97, 0, 1, 0, 0, 255, 255, 255, 255] := by decide +kernel
  have m0 : mayB ⟨#[97]⟩ 2 0 = true := by decide +kernel
  have m1 : mayB ⟨#[]⟩ 1 0 = false := by decide +kernel
  have g0 : getP [97, 0, 0, 255, 255, 255, 254, 255, 255, 255, 255, 255, 255, 255, 253, 0] = (0, [97], 1, 2, 0) := by decide +kernel
  have g1 : getP [97] = (5, [], 0, 0, 0) := by decide +kernel
  have g2 : getP [97, 0, 2] = (4, [], 0, 0, 0) := by decide +kernel
  have g3 : getP [0, 0] = (4, [], 0, 0, 0) := by decide +kernel
  have cp := fun W => put_yes W ⟨#[97]⟩ ⟨#[]⟩ 1 2 0 0 (by omega) (by omega) (by omega) m0
  have cq := fun W => put_no W ⟨#[]⟩ ⟨#[]⟩ 0 1 0 0 m1
  have cs := fun W => seek_any W ⟨#[97, 0]⟩ 0 (by omega) (by decide)
  rw [p0] at cp
  rw [s0] at cs
  replace cp := Lib.hid cp
  replace cq := Lib.hid cq
  replace cs := Lib.hid cs
  clear p0 s0 m0 m1
  replace g0 := Lib.hid g0
  replace g1 := Lib.hid g1
  replace g2 := Lib.hid g2
  replace g3 := Lib.hid g3
  have heq := fun W => fact_refl W ⟨#[97]⟩ ⟨#[]⟩ 1 2 0 0
  have hgd : Try.prog.eqGuardType Try.prog.depth 29 = false := by kernel_rfl
  go_enter Try.func9, Try.ntmps9
  go_wp2_with fail
  refine (cp.out _).mono ?_
  rintro _ w1 ⟨g, n, rfl, hn, hg, hs1, b1⟩
  simp only [List.length_cons, List.length_nil] at hn
  subst hn
  have kf := (Blk.new w 29 #[.string ⟨#[97]⟩, .int .u32 1, .int .u64 2, .int .u64 0, .int .u8 0, .string ⟨#[]⟩]).below b1 (Blk.new w 29 #[.string ⟨#[97]⟩, .int .u32 1, .int .u64 2, .int .u64 0, .int .u8 0, .string ⟨#[]⟩]).lt
  have h1 := ((Below.refl w.heap.size w).alloc (Nat.le_refl _) (.cells #[.string ⟨#[97]⟩, .int .u32 1, .int .u64 2, .int .u64 0, .int .u8 0, .string ⟨#[]⟩] 29))
  replace b1 := h1.trans (b1.mono h1.size)
  clear h1
  go_wp2_with fail
  refine (get_any w1 (some ⟨g, 0, none⟩) 16 16 _ rfl (by omega) (by omega) hs1 0 _ 1 2 0 g0.out).mono ?_
  rintro _ w2 ⟨rfl, b2⟩
  have kh := Blk.new w2 29 #[.string ⟨#[97]⟩, .int .u32 1, .int .u64 2, .int .u64 0, .int .u8 0, .string ⟨#[]⟩]
  have kf2 := (kf.below b2 kf.lt).alloc (.cells #[.string ⟨#[97]⟩, .int .u32 1, .int .u64 2, .int .u64 0, .int .u8 0, .string ⟨#[]⟩] 29)
  have hs2 := (hs1.below b2).alloc (.cells #[.string ⟨#[97]⟩, .int .u32 1, .int .u64 2, .int .u64 0, .int .u8 0, .string ⟨#[]⟩] 29)
  replace b2 := b1.trans (b2.mono b1.size)
  have b3 := b2.alloc b2.size (.cells #[.string ⟨#[97]⟩, .int .u32 1, .int .u64 2, .int .u64 0, .int .u8 0, .string ⟨#[]⟩] 29)
  clear kf hs1 b1 b2
  replace kh := Lib.hid kh
  replace kf2 := Lib.hid kf2
  replace hs2 := Lib.hid hs2
  replace b3 := Lib.hid b3
  go_wp2_with fail
  refine (cq.out _).mono ?_
  rintro _ w4 ⟨rfl, b4⟩
  have c1 := (kh.out.below b4 kh.out.lt).cell
  have c2 := (kf2.out.below b4 kf2.out.lt).cell
  have k4 := kstr _ _ _ (hs2.out.below b4) 16 rfl 16
  replace b4 := b3.out.trans (b4.mono b3.out.size)
  clear kh kf2 hs2 b3
  replace kstr := Lib.hid kstr
  go_wp2_with fail
  refine (cs.out _).mono ?_
  clear c1 c2 k4
  rintro _ w5 ⟨g5, n, rfl, hn, hg5, hs5, b5⟩
  simp only [List.length_cons, List.length_nil] at hn
  subst hn
  replace b5 := b4.trans (b5.mono b4.size)
  have k5 := kstr.out _ _ _ hs5 9 rfl 9
  have h6 := Bs.new w5 5 [97] (0, 0)
  have b6 := b5.alloc b5.size (.cells (bvs [97]).toArray 5)
  have hp := no_any _ _ 1 1 [97] rfl (by omega) (by omega) h6 5 g1.out
  clear h6
  go_wp2_with fail
  refine hp.mono ?_
  clear hp k5 hs5
  rintro _ w6 ⟨rfl, b7⟩
  replace b7 := b6.trans (b7.mono b6.size)
  have h6 := Bs.new w6 5 [97, 0, 2] (0, 0)
  have b8 := b7.alloc b7.size (.cells (bvs [97, 0, 2]).toArray 5)
  have hp := no_any _ _ 3 3 [97, 0, 2] rfl (by omega) (by omega) h6 4 g2.out
  clear h6
  go_wp2_with fail
  refine hp.mono ?_
  clear hp
  rintro _ w7 ⟨rfl, b9⟩
  replace b9 := b8.trans (b9.mono b8.size)
  have h6 := Bs.new w7 5 [0, 0] (0, 0)
  have b10 := b9.alloc b9.size (.cells (bvs [0, 0]).toArray 5)
  have hp := no_any _ _ 2 2 [0, 0] rfl (by omega) (by omega) h6 4 g3.out
  clear h6
  go_wp2_with fail
  refine hp.mono ?_
  clear hp
  rintro _ w8 ⟨rfl, b11⟩
  go_wp2
  go_ret
  exact ⟨rfl, b10.trans (b11.mono b10.size)⟩
end Go.Proofs.Ytelppijpmjoblaa
