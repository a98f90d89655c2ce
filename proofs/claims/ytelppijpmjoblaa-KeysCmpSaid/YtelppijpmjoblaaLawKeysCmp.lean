/- In which order any two facts stand is the chapter's: for every input, no condition. -/
import Derived.Test.YtelppijpmjoblaaKeyLives
import Derived.Test.YtelppijpmjoblaaKeyCmp
import Derived.Test.YtelppijpmjoblaaFact
set_option linter.unusedSimpArgs false
set_option linter.unusedVariables false
namespace Go.Proofs.Ytelppijpmjoblaa.lawKeysCmp
open Go Go.RowKit Herb Go.ChangeShapes Go.WideShapes Go.ChangeAt

set_option maxRecDepth 100000 in
set_option maxHeartbeats 1600000 in
theorem walk (w : World) (k v : ByteArray) (va se li ki : Nat) (h1 : va < 4294967296) (h2 : se < 18446744073709551616) (h3 : li < 18446744073709551616) (h4 : ki < 256) (k' v' : ByteArray) (va' se' li' ki' : Nat) (h1' : va' < 4294967296) (h2' : se' < 18446744073709551616) (h3' : li' < 18446744073709551616) (h4' : ki' < 256) :
    Calls Try.prog 6 #[.agg #[.string k, .int .u32 (va : Int), .int .u64 (se : Int), .int .u64 (li : Int), .int .u8 (ki : Int), .string v], .agg #[.string k', .int .u32 (va' : Int), .int .u64 (se' : Int), .int .u64 (li' : Int), .int .u8 (ki' : Int), .string v']] w
      fun e w' => e = .returned (.bool true) ∧ Below w.heap.size w w' := by
  clear h1 h2 h3 h4 h1' h2' h3' h4'
  have cc := fun W => cmp_any W k k' v v' va va' se se' li li' ki ki'
  have cr := fun W => refCmp_any W k k' v v' va va' se se' li li' ki ki'
  generalize cmpF k k' va va' se se' ki ki' = R at cc cr
  replace cc := Lib.hid cc
  replace cr := Lib.hid cr
  go_enter Try.func6, Try.ntmps6
  have k1 : Blk ((w.alloc (.cells #[.string k, .int .u32 (va : Int), .int .u64 (se : Int), .int .u64 (li : Int), .int .u8 (ki : Int), .string v] 29)).alloc (.cells #[.string k', .int .u32 (va' : Int), .int .u64 (se' : Int), .int .u64 (li' : Int), .int .u8 (ki' : Int), .string v'] 29)) w.heap.size 29 #[.string k, .int .u32 (va : Int), .int .u64 (se : Int), .int .u64 (li : Int), .int .u8 (ki : Int), .string v] := (Blk.new w _ _).alloc _
  have k2 : Blk ((w.alloc (.cells #[.string k, .int .u32 (va : Int), .int .u64 (se : Int), .int .u64 (li : Int), .int .u8 (ki : Int), .string v] 29)).alloc (.cells #[.string k', .int .u32 (va' : Int), .int .u64 (se' : Int), .int .u64 (li' : Int), .int .u8 (ki' : Int), .string v'] 29)) (w.heap.size + 1) 29 #[.string k', .int .u32 (va' : Int), .int .u64 (se' : Int), .int .u64 (li' : Int), .int .u8 (ki' : Int), .string v'] := by
    have := Blk.new (w.alloc (.cells #[.string k, .int .u32 (va : Int), .int .u64 (se : Int), .int .u64 (li : Int), .int .u8 (ki : Int), .string v] 29)) 29 #[.string k', .int .u32 (va' : Int), .int .u64 (se' : Int), .int .u64 (li' : Int), .int .u8 (ki' : Int), .string v']
    rwa [World.size_alloc] at this
  have hb : Below w.heap.size w ((w.alloc (.cells #[.string k, .int .u32 (va : Int), .int .u64 (se : Int), .int .u64 (li : Int), .int .u8 (ki : Int), .string v] 29)).alloc (.cells #[.string k', .int .u32 (va' : Int), .int .u64 (se' : Int), .int .u64 (li' : Int), .int .u8 (ki' : Int), .string v'] 29)) := ((Below.refl _ _).alloc (Nat.le_refl _) _).alloc (by simp) _
  go_wp2_with fail
  generalize ((w.alloc (.cells #[.string k, .int .u32 (va : Int), .int .u64 (se : Int), .int .u64 (li : Int), .int .u8 (ki : Int), .string v] 29)).alloc (.cells #[.string k', .int .u32 (va' : Int), .int .u64 (se' : Int), .int .u64 (li' : Int), .int .u8 (ki' : Int), .string v'] 29)) = W0 at *
  go_region_held3 (fun w' => (∀ i, w'.cell? ⟨w.heap.size, i, none⟩ = (#[.string k, .int .u32 (va : Int), .int .u64 (se : Int), .int .u64 (li : Int), .int .u8 (ki : Int), .string v] : Array Value)[i]?) ∧ (∀ i, w'.cell? ⟨w.heap.size + 1, i, none⟩ = (#[.string k', .int .u32 (va' : Int), .int .u64 (se' : Int), .int .u64 (li' : Int), .int .u8 (ki' : Int), .string v'] : Array Value)[i]?) ∧ Below w.heap.size w w')
    (first | exact ⟨k1.drew.cell, k2.drew.cell, hb.drew⟩ | exact ⟨c1, c2, d1⟩ | exact ⟨e1, e2, d2⟩ | exact ⟨f1, f2, d3⟩)
    (first
    | (go_at_call 19; (with_reducible refine (cc.out _).mono ?_); rintro _ w1 ⟨rfl, b1⟩; have q1 : Below W0.heap.size W0 w1 := (Below.refl W0.heap.size W0).drew.trans b1; have c1 := (k1.below q1 k1.lt).cell; have c2 := (k2.below q1 k2.lt).cell; have d1 := hb.trans (q1.mono hb.size))
    | (go_at_call 20; (with_reducible refine (cr.out _).mono ?_); rintro _ w2 ⟨rfl, b2⟩; have q2 := q1.trans (b2.mono q1.size); have e1 := (k1.below q2 k1.lt).cell; have e2 := (k2.below q2 k2.lt).cell; have d2 := hb.trans (q2.mono hb.size))
    | (go_at_call 9; (with_reducible refine (lives_any _).mono ?_); rintro _ w3 ⟨rfl, b3⟩; have q3 := q2.trans (b3.mono q2.size); have f1 := (k1.below q3 k1.lt).cell; have f2 := (k2.below q3 k2.lt).cell; have d3 := hb.trans (q3.mono hb.size)))
  all_goals
    go_wp2
    go_ret
    exact ⟨rfl, d3⟩

/-! ### from the walk to the statement (by tail.py) -/
set_option maxRecDepth 100000 in
theorem lifted (os : Os) (started : os.Started) (H : Type) (enc : TypeId × Value → H) :
    ReturnsInHanded {} Try.checked os 6 .any (Rows.keysCmpSpec.pre6 enc Try.prog Try.f6 Rows.keysCmpRow.domain false) (Rows.keysCmpSpec.post enc Try.prog Try.f6 false true false false) := by
  refine lifted_of (C := Try.checked) (tb := 4) (n := 2) (by kernel_rfl) started (by kernel_rfl) Try.func6 (by kernel_rfl) (by kernel_rfl) rfl (by kernel_rfl) Try.underlying4 (by kernel_rfl)
    (fun ds hd => by match ds, hd with | [d1, d2], _ => exact ⟨rfl, rfl, rfl⟩)
    (ChangeSpec.witness6 (enc := enc) (C := Try.checked) false ⟨#[], #[.agg #[.string ByteArray.empty, .int .u32 0, .int .u64 0, .int .u64 0, .int .u8 0, .string ByteArray.empty], .agg #[.string ByteArray.empty, .int .u32 0, .int .u64 0, .int .u64 0, .int .u8 0, .string ByteArray.empty]], []⟩ 8 (by kernel_rfl) (by kernel_rfl) (by kernel_rfl) (by kernel_rfl)) ?_
  intro W base args ds before hval hA hsz
  rw [Try.params6] at hA hval hsz
  obtain ⟨v0, vs0, d0, ds0, p0, q0, rfl, rfl, rfl, h0, r0⟩ := trodAll_cons hA
  obtain ⟨v1, vs1, d1, ds1, p1, q1, rfl, rfl, rfl, h1, r1⟩ := trodAll_cons r0
  obtain ⟨rfl, rfl, rfl⟩ := trodAll_nil r1
  obtain ⟨k0, s0, va0, se0, li0, ki0, rfl, hva0, hse0, hli0, hki0⟩ := open_fact (hval 0 _ _ rfl rfl) h0
  obtain ⟨k1, s1, va1, se1, li1, ki1, rfl, hva1, hse1, hli1, hki1⟩ := open_fact (hval 1 _ _ rfl rfl) h1
  exact walk W k0 s0 va0 se0 li0 ki0 hva0 hse0 hli0 hki0 k1 s1 va1 se1 li1 ki1 hva1 hse1 hli1 hki1

theorem over : Rows.keysCmpRow.holds Try.pinned (OpenSpec.ofChange Rows.keysCmpSpec) :=
  OpenClaim.holds_of_wide 6 Try.f6 rfl rfl rfl rfl rfl rfl rfl ⟨rfl, rfl, rfl, rfl, rfl⟩ rfl rfl rfl rfl rfl (by kernel_rfl) Try.func6 (by kernel_rfl)
    (of_decide_eq_true (by kernel_rfl)) (by unfold Func.isWrapper; first | (rw [if_pos (by decide +kernel)]; kernel_rfl) | (rw [if_neg (by decide +kernel)]; exact ⟨rfl, rfl⟩))
    (fun os started H enc _ => lifted os started H enc)

theorem proved : Rows.KeysCmpSaid := over
end Go.Proofs.Ytelppijpmjoblaa.lawKeysCmp
