/- The fact that any bytes are is the chapter's, or refused; the bytes stay as they were: for every input, no condition. -/
import Derived.Test.YtelppijpmjoblaaKeyLives
import Derived.Test.YtelppijpmjoblaaKeyRefGet
import Derived.Test.YtelppijpmjoblaaTwinB
import Derived.Test.YtelppijpmjoblaaSameB
set_option linter.unusedSimpArgs false
set_option linter.unusedVariables false
namespace Go.Proofs.Ytelppijpmjoblaa.lawKeysGet
open Go Go.RowKit Herb Go.ChangeShapes Go.WideShapes Go.ChangeAt

set_option maxRecDepth 100000 in
set_option maxHeartbeats 1600000 in
theorem walk (w : World) (A : Option Addr) (c : Nat) (l : List UInt8) (hl : l.length ≤ 140737488355328) (hb : Bs w A l) (hlc : l.length ≤ c) (hc : c ≤ 140737488355328) :
    Calls Try.prog 3 #[.slice A l.length c] w fun e w' => e = .returned (.bool true) ∧ Below w.heap.size w w' := by
  have pw := twinBytes_any w A c l
  have pl := fun W => leftBytes_any W w.heap.size A c l
  obtain ⟨n, hn⟩ : ∃ n, l.length = n := ⟨_, rfl⟩
  rw [hn] at hl hlc pw pl ⊢
  replace hn := Lib.hid hn
  replace pw := Lib.hid pw
  replace pl := Lib.hid pl
  have hgd : Try.prog.eqGuardType Try.prog.depth 29 = false := by kernel_rfl
  obtain ⟨⟨e, K, va, se, ki⟩, hG⟩ : ∃ R, getP l = R := ⟨_, rfl⟩
  replace hG := Lib.hid hG
  have heq := fun W => fact_refl W ⟨K.toArray⟩ ⟨#[]⟩ (va : Int) (se : Int) 0 (ki : Int)
  go_enter Try.func3, Try.ntmps3
  by_cases hbig : 1000 < n
  · have d1 : decide ((1000 : Int) < (n : Int)) = true := decide_eq_true (by omega)
    go_wp2_with fail
    refine (lives_any w).mono ?_
    rintro e w1 ⟨rfl, hb1⟩
    go_wp2
    go_ret
    exact ⟨rfl, hb1⟩
  · have d1 : decide ((1000 : Int) < (n : Int)) = false := decide_eq_false (by omega)
    replace hbig := Lib.hid hbig
    go_wp2_with fail
    refine (pw.out (by have := hbig.out; omega) hb).mono ?_
    rintro _ w1 ⟨rfl, hw1⟩
    have hg : Blk w1 w.heap.size 5 (bvs (l ++ [90, 90])).toArray := by rw [← hw1]; exact Blk.new _ _ _
    have hb1 : Below w.heap.size w w1 := by rw [← hw1]; exact (Below.refl _ _).alloc (Nat.le_refl _) _
    have ht : Bs w1 (some ⟨w.heap.size, 0, none⟩) l := Bs.twin hg
    replace hb := hb.below hb1
    clear hw1 pw
    go_wp2_with fail
    refine (get_any w1 _ n _ l hn.out (by omega) (by have := hbig.out; omega) ht e K va se ki hG.out).mono ?_
    rintro _ w2 ⟨rfl, b2⟩
    replace hg := hg.below b2 hg.lt
    replace hb := hb.below b2
    replace hb1 := hb1.trans (b2.mono hb1.size)
    have k2 := Blk.new w2 29 #[.string ⟨K.toArray⟩, .int .u32 (va : Int), .int .u64 (se : Int), .int .u64 0, .int .u8 (ki : Int), .string ⟨#[]⟩]
    replace hg := hg.alloc (.cells #[.string ⟨K.toArray⟩, .int .u32 (va : Int), .int .u64 (se : Int), .int .u64 0, .int .u8 (ki : Int), .string ⟨#[]⟩] 29)
    replace hb := hb.alloc (.cells #[.string ⟨K.toArray⟩, .int .u32 (va : Int), .int .u64 (se : Int), .int .u64 0, .int .u8 (ki : Int), .string ⟨#[]⟩] 29)
    replace hb1 := hb1.alloc hb1.size (.cells #[.string ⟨K.toArray⟩, .int .u32 (va : Int), .int .u64 (se : Int), .int .u64 0, .int .u8 (ki : Int), .string ⟨#[]⟩] 29)
    clear ht b2
    replace k2 := Lib.hid k2
    go_wp2_with fail
    refine (refGet_any _ A n c l hn.out hlc (by have := hbig.out; omega) hb e K va se ki hG.out).mono ?_
    rintro _ w3 ⟨rfl, b3⟩
    replace hg := hg.below b3 hg.lt
    replace hb := hb.below b3
    replace hb1 := hb1.trans (b3.mono hb1.size)
    have k3 := k2.out.below b3 k2.out.lt
    have k4 := Blk.new w3 29 #[.string ⟨K.toArray⟩, .int .u32 (va : Int), .int .u64 (se : Int), .int .u64 0, .int .u8 (ki : Int), .string ⟨#[]⟩]
    replace k3 := k3.alloc (.cells #[.string ⟨K.toArray⟩, .int .u32 (va : Int), .int .u64 (se : Int), .int .u64 0, .int .u8 (ki : Int), .string ⟨#[]⟩] 29)
    replace hg := hg.alloc (.cells #[.string ⟨K.toArray⟩, .int .u32 (va : Int), .int .u64 (se : Int), .int .u64 0, .int .u8 (ki : Int), .string ⟨#[]⟩] 29)
    replace hb := hb.alloc (.cells #[.string ⟨K.toArray⟩, .int .u32 (va : Int), .int .u64 (se : Int), .int .u64 0, .int .u8 (ki : Int), .string ⟨#[]⟩] 29)
    replace hb1 := hb1.alloc hb1.size (.cells #[.string ⟨K.toArray⟩, .int .u32 (va : Int), .int .u64 (se : Int), .int .u64 0, .int .u8 (ki : Int), .string ⟨#[]⟩] 29)
    have c3 := k3.cell
    clear k2 b3
    go_wp2_with fail
    refine (pl.out _ (by have := hbig.out; omega) hb hg).mono ?_
    clear c3
    rintro _ w4 ⟨rfl, b4⟩
    replace b4 := hb1.trans (b4.mono hb1.size)
    go_wp2_with fail
    refine (lives_any w4).mono ?_
    rintro _ w5 ⟨rfl, b5⟩
    go_wp2
    go_ret
    exact ⟨rfl, b4.trans (b5.mono b4.size)⟩

/-! ### from the walk to the statement (by tail.py) -/
set_option maxRecDepth 100000 in
theorem lifted (os : Os) (started : os.Started) (H : Type) (enc : TypeId × Value → H) :
    ReturnsInHanded {} Try.checked os 3 .any (Rows.keysGetSpec.pre6 enc Try.prog Try.f3 Rows.keysGetRow.domain false) (Rows.keysGetSpec.post enc Try.prog Try.f3 false true false false) := by
  refine lifted_of (C := Try.checked) (tb := 4) (n := 1) (by kernel_rfl) started (by kernel_rfl) Try.func3 (by kernel_rfl) (by kernel_rfl) rfl (by kernel_rfl) Try.underlying4 (by kernel_rfl)
    (fun ds hd => by match ds, hd with | [d1], _ => exact ⟨rfl, rfl, rfl⟩)
    (ChangeSpec.witness6 (enc := enc) (C := Try.checked) false ⟨#[], #[.slice none 0 0], []⟩ 8 (by kernel_rfl) (by kernel_rfl) (by kernel_rfl) (by kernel_rfl)) ?_
  intro W base args ds before hval hA hsz
  rw [Try.params3] at hA hval hsz
  obtain ⟨v0, vs0, d0, ds0, p0, q0, rfl, rfl, rfl, h0, r0⟩ := trodAll_cons hA
  obtain ⟨rfl, rfl, rfl⟩ := trodAll_nil r0
  obtain ⟨A0, c0, l0, rfl, hb0, hlc0, _, hcap0⟩ := open_bytes Try.underlying22 Try.underlying5 (by kernel_rfl) (by kernel_rfl) (hval 0 _ _ rfl rfl) h0
  have hc0 := hcap0 hsz 0 rfl rfl
  exact walk W A0 c0 l0 (by have := reachBytes_lt; omega) hb0 hlc0 (by have := reachBytes_lt; omega)

theorem over : Rows.keysGetRow.holds Try.pinned (OpenSpec.ofChange Rows.keysGetSpec) :=
  OpenClaim.holds_of_wide 3 Try.f3 rfl rfl rfl rfl rfl rfl rfl ⟨rfl, rfl, rfl, rfl, rfl⟩ rfl rfl rfl rfl rfl (by kernel_rfl) Try.func3 (by kernel_rfl)
    (of_decide_eq_true (by kernel_rfl)) (by unfold Func.isWrapper; first | (rw [if_pos (by decide +kernel)]; kernel_rfl) | (rw [if_neg (by decide +kernel)]; exact ⟨rfl, rfl⟩))
    (fun os started H enc _ => lifted os started H enc)

theorem proved : Rows.KeysGetSaid := over
end Go.Proofs.Ytelppijpmjoblaa.lawKeysGet
