/- Bytes stand in the order in which their facts do; only facts that are alike, but for lines and values, have the same: for every input, no condition. -/
import Derived.Test.YtelppijpmjoblaaKeyOrd
import Derived.Test.YtelppijpmjoblaaKeyLives
set_option linter.unusedSimpArgs false
set_option linter.unusedVariables false
namespace Go.Proofs.Ytelppijpmjoblaa.lawKeysOrder
open Go Go.RowKit Herb Go.ChangeShapes Go.WideShapes Go.ChangeAt

/-- Are two facts alike, but for lines and values? -/
def Alike (k k' : ByteArray) (va va' se se' ki ki' : Nat) : Prop := k = k' ∧ va = va' ∧ se = se' ∧ ki = ki'
theorem alike_zero {k k' : ByteArray} {va va' se se' ki ki' : Nat} (h : cmpF k k' va va' se se' ki ki' = 0) : Alike k k' va va' se se' ki ki' := by
  obtain ⟨a1, a2, a3, a4⟩ := cmpF_zero _ _ _ _ _ _ _ _ h
  exact ⟨a1, by omega, by omega, by omega⟩
theorem not_alike {k k' : ByteArray} {va va' se se' ki ki' : Nat} (h : cmpF k k' va va' se se' ki ki' ≠ 0) : k ≠ k' ∨ (k = k' ∧ va ≠ va') ∨ (k = k' ∧ va = va' ∧ se ≠ se') ∨ (k = k' ∧ va = va' ∧ se = se' ∧ ki ≠ ki') := by
  by_cases a1 : k = k'
  · by_cases a2 : va = va'
    · by_cases a3 : se = se'
      · by_cases a4 : ki = ki'
        · subst a1 a2 a3 a4
          exact absurd (cmpF_self _ _ _ _) h
        · exact .inr (.inr (.inr ⟨a1, a2, a3, a4⟩))
      · exact .inr (.inr (.inl ⟨a1, a2, a3⟩))
    · exact .inr (.inl ⟨a1, a2⟩)
  · exact .inl a1

set_option maxRecDepth 100000 in
set_option maxHeartbeats 3200000 in
theorem walk (w : World) (k v : ByteArray) (va se li ki : Nat) (h1 : va < 4294967296) (h2 : se < 18446744073709551616) (h3 : li < 18446744073709551616) (h4 : ki < 256) (k' v' : ByteArray) (va' se' li' ki' : Nat) (h1' : va' < 4294967296) (h2' : se' < 18446744073709551616) (h3' : li' < 18446744073709551616) (h4' : ki' < 256) :
    Calls Try.prog 7 #[.agg #[.string k, .int .u32 (va : Int), .int .u64 (se : Int), .int .u64 (li : Int), .int .u8 (ki : Int), .string v], .agg #[.string k', .int .u32 (va' : Int), .int .u64 (se' : Int), .int .u64 (li' : Int), .int .u8 (ki' : Int), .string v']] w
      fun e w' => e = .returned (.bool true) ∧ Below w.heap.size w w' := by
  clear h3 h3'
  have hord := ordL_put k k' h1 h1' h2 h2' h4 h4'
  have hanti := cmpF_anti k k' va va' se se' ki ki'
  have hbd := cmpF_bounds k k' va va' se se' ki ki'
  have hzero := @alike_zero k k' va va' se se' ki ki'
  have hnz := @not_alike k k' va va' se se' ki ki'
  have c1 := fun W => cmp_any W k k' v v' va va' se se' li li' ki ki'
  have c2 := fun W => cmp_any W k' k v' v va' va se' se li' li ki' ki
  rw [hanti] at c2
  generalize cmpF k k' va va' se se' ki ki' = O at hord hbd hzero hnz c1 c2
  clear hanti
  have p1y := fun W => put_yes W k v va se li ki h1 h2 h4
  have p2y := fun W => put_yes W k' v' va' se' li' ki' h1' h2' h4'
  have p1n := fun W => put_no W k v va se li ki
  have p2n := fun W => put_no W k' v' va' se' li' ki'
  clear h1 h2 h4 h1' h2' h4'
  have k1 : Blk ((w.alloc (.cells #[.string k, .int .u32 (va : Int), .int .u64 (se : Int), .int .u64 (li : Int), .int .u8 (ki : Int), .string v] 29)).alloc (.cells #[.string k', .int .u32 (va' : Int), .int .u64 (se' : Int), .int .u64 (li' : Int), .int .u8 (ki' : Int), .string v'] 29)) w.heap.size 29 #[.string k, .int .u32 (va : Int), .int .u64 (se : Int), .int .u64 (li : Int), .int .u8 (ki : Int), .string v] := (Blk.new w _ _).alloc _
  have k2 : Blk ((w.alloc (.cells #[.string k, .int .u32 (va : Int), .int .u64 (se : Int), .int .u64 (li : Int), .int .u8 (ki : Int), .string v] 29)).alloc (.cells #[.string k', .int .u32 (va' : Int), .int .u64 (se' : Int), .int .u64 (li' : Int), .int .u8 (ki' : Int), .string v'] 29)) (w.heap.size + 1) 29 #[.string k', .int .u32 (va' : Int), .int .u64 (se' : Int), .int .u64 (li' : Int), .int .u8 (ki' : Int), .string v'] := by
    have := Blk.new (w.alloc (.cells #[.string k, .int .u32 (va : Int), .int .u64 (se : Int), .int .u64 (li : Int), .int .u8 (ki : Int), .string v] 29)) 29 #[.string k', .int .u32 (va' : Int), .int .u64 (se' : Int), .int .u64 (li' : Int), .int .u8 (ki' : Int), .string v']
    rwa [World.size_alloc] at this
  have hb : Below w.heap.size w ((w.alloc (.cells #[.string k, .int .u32 (va : Int), .int .u64 (se : Int), .int .u64 (li : Int), .int .u8 (ki : Int), .string v] 29)).alloc (.cells #[.string k', .int .u32 (va' : Int), .int .u64 (se' : Int), .int .u64 (li' : Int), .int .u8 (ki' : Int), .string v'] 29)) := ((Below.refl _ _).alloc (Nat.le_refl _) _).alloc (by simp) _
  replace hord := Lib.hid hord
  replace hbd := Lib.hid hbd
  replace hzero := Lib.hid hzero
  replace hnz := Lib.hid hnz
  replace c1 := Lib.hid c1
  replace c2 := Lib.hid c2
  replace p1y := Lib.hid p1y
  replace p2y := Lib.hid p2y
  replace p1n := Lib.hid p1n
  replace p2n := Lib.hid p2n
  go_enter Try.func7, Try.ntmps7
  have e1 := k1.cell
  have e2 := k2.cell
  replace k1 := Lib.hid k1
  replace k2 := Lib.hid k2
  rcases hm1 : mayB k se ki with _ | _
  · replace p1n := fun W => p1n.out W hm1
    replace p1n := Lib.hid p1n
    clear p1y
    replace hm1 := Lib.hid hm1
    go_wp2_with fail
    refine (p1n.out _).mono ?_
    clear e1 e2
    rintro _ w1 ⟨rfl, b1⟩
    have e1 := (k1.out.below b1 k1.out.lt).cell
    have e2 := (k2.out.below b1 k2.out.lt).cell
    replace b1 := hb.trans (b1.mono hb.size)
    clear hb
    rcases hm2 : mayB k' se' ki' with _ | _
    · replace p2n := fun W => p2n.out W hm2
      replace p2n := Lib.hid p2n
      clear p2y
      replace hm2 := Lib.hid hm2
      go_wp2_with fail
      refine (p2n.out _).mono ?_
      clear e1 e2
      rintro _ w2 ⟨rfl, b2⟩
      replace b2 := b1.trans (b2.mono b1.size)
      go_wp2_with fail
      refine (lives_any _).mono ?_
      rintro _ w3 ⟨rfl, b3⟩
      go_wp2
      go_ret
      exact ⟨rfl, b2.trans (b3.mono b2.size)⟩
    · replace p2y := fun W => p2y.out W hm2
      replace p2y := Lib.hid p2y
      clear p2n
      replace hm2 := Lib.hid hm2
      go_wp2_with fail
      refine (p2y.out _).mono ?_
      clear e1 e2
      rintro _ w2 ⟨g2, n2, rfl, _, _, _, b2⟩
      replace b2 := b1.trans (b2.mono b1.size)
      go_wp2_with fail
      refine (lives_any _).mono ?_
      rintro _ w3 ⟨rfl, b3⟩
      go_wp2
      go_ret
      exact ⟨rfl, b2.trans (b3.mono b2.size)⟩
  · replace p1y := fun W => p1y.out W hm1
    replace p1y := Lib.hid p1y
    clear p1n
    replace hm1 := Lib.hid hm1
    go_wp2_with fail
    refine (p1y.out _).mono ?_
    clear e1 e2
    rintro _ w1 ⟨g1, n1, rfl, hn1, hg1, hs1, b1⟩
    replace k1 := Lib.hid (k1.out.below b1 k1.out.lt)
    replace k2 := Lib.hid (k2.out.below b1 k2.out.lt)
    replace b1 := hb.trans (b1.mono hb.size)
    replace hn1 := Lib.hid hn1
    clear hb
    have e1 := k1.out.cell
    have e2 := k2.out.cell
    rcases hm2 : mayB k' se' ki' with _ | _
    · replace p2n := fun W => p2n.out W hm2
      replace p2n := Lib.hid p2n
      clear p2y
      replace hm2 := Lib.hid hm2
      go_wp2_with fail
      refine (p2n.out _).mono ?_
      clear e1 e2
      rintro _ w2 ⟨rfl, b2⟩
      replace b2 := b1.trans (b2.mono b1.size)
      go_wp2_with fail
      refine (lives_any _).mono ?_
      rintro _ w3 ⟨rfl, b3⟩
      go_wp2
      go_ret
      exact ⟨rfl, b2.trans (b3.mono b2.size)⟩
    · replace p2y := fun W => p2y.out W hm2
      replace p2y := Lib.hid p2y
      clear p2n
      replace hm2 := Lib.hid hm2
      go_wp2_with fail
      refine (p2y.out _).mono ?_
      clear e1 e2
      rintro _ w2 ⟨g2, n2, rfl, hn2, hg2, hs2, b2⟩
      replace k1 := Lib.hid (k1.out.below b2 k1.out.lt)
      replace k2 := Lib.hid (k2.out.below b2 k2.out.lt)
      replace hs1 := hs1.below b2
      replace b2 := b1.trans (b2.mono b1.size)
      replace hn2 := Lib.hid hn2
      clear b1 hg1 hg2
      have e1 := k1.out.cell
      have e2 := k2.out.cell
      go_wp2_with fail
      refine (c1.out _).mono ?_
      clear e1 e2
      rintro _ w3 ⟨rfl, b3⟩
      replace k1 := Lib.hid (k1.out.below b3 k1.out.lt)
      replace k2 := Lib.hid (k2.out.below b3 k2.out.lt)
      replace hs1 := hs1.below b3
      replace hs2 := hs2.below b3
      replace b3 := b2.trans (b3.mono b2.size)
      clear b2 c1
      have po := order_any w3 _ _ n1 n2 n1 n2 _ _ hn1.out.symm hn2.out.symm hs1 hs2
      rw [hord.out] at po
      clear hord hs1 hs2 hn1 hn2 p1y p2y hm1 hm2
      have hO3 : O = -1 ∨ O = 0 ∨ O = 1 := by have := hbd.out; omega
      clear hbd
      rcases hO3 with rfl | rfl | rfl
      · have hna := hnz.out (by omega)
        clear hnz hzero
        replace po := Lib.hid po
        rcases hna with hk | ⟨rfl, hk⟩ | ⟨rfl, rfl, hk⟩ | ⟨rfl, rfl, rfl, hk⟩
        · have d1 : (k.toList == k'.toList) = false := by simpa using fun e => hk (toList_inj e)
          clear hk
          have e1 := k1.out.cell
          have e2 := k2.out.cell
          go_wp2_with (first | (go_at_call 18; (with_reducible refine po.out.mono ?_); rintro _ _ ⟨rfl, rfl⟩))
          refine (c2.out _).mono ?_
          clear e1 e2
          rintro _ w4 ⟨rfl, b4⟩
          replace b4 := b3.trans (b4.mono b3.size)
          go_wp2_with fail
          refine (lives_any _).mono ?_
          rintro _ w5 ⟨rfl, b5⟩
          go_wp2
          go_ret
          exact ⟨rfl, b4.trans (b5.mono b4.size)⟩
        · have d1 : ((va : Int) == (va' : Int)) = false := by simp; omega
          clear hk
          have e1 := k1.out.cell
          have e2 := k2.out.cell
          go_wp2_with (first | (go_at_call 18; (with_reducible refine po.out.mono ?_); rintro _ _ ⟨rfl, rfl⟩))
          refine (c2.out _).mono ?_
          clear e1 e2
          rintro _ w4 ⟨rfl, b4⟩
          replace b4 := b3.trans (b4.mono b3.size)
          go_wp2_with fail
          refine (lives_any _).mono ?_
          rintro _ w5 ⟨rfl, b5⟩
          go_wp2
          go_ret
          exact ⟨rfl, b4.trans (b5.mono b4.size)⟩
        · have d1 : ((se : Int) == (se' : Int)) = false := by simp; omega
          clear hk
          have e1 := k1.out.cell
          have e2 := k2.out.cell
          go_wp2_with (first | (go_at_call 18; (with_reducible refine po.out.mono ?_); rintro _ _ ⟨rfl, rfl⟩))
          refine (c2.out _).mono ?_
          clear e1 e2
          rintro _ w4 ⟨rfl, b4⟩
          replace b4 := b3.trans (b4.mono b3.size)
          go_wp2_with fail
          refine (lives_any _).mono ?_
          rintro _ w5 ⟨rfl, b5⟩
          go_wp2
          go_ret
          exact ⟨rfl, b4.trans (b5.mono b4.size)⟩
        · have d1 : ((ki : Int) == (ki' : Int)) = false := by simp; omega
          clear hk
          have e1 := k1.out.cell
          have e2 := k2.out.cell
          go_wp2_with (first | (go_at_call 18; (with_reducible refine po.out.mono ?_); rintro _ _ ⟨rfl, rfl⟩))
          refine (c2.out _).mono ?_
          clear e1 e2
          rintro _ w4 ⟨rfl, b4⟩
          replace b4 := b3.trans (b4.mono b3.size)
          go_wp2_with fail
          refine (lives_any _).mono ?_
          rintro _ w5 ⟨rfl, b5⟩
          go_wp2
          go_ret
          exact ⟨rfl, b4.trans (b5.mono b4.size)⟩
      · obtain ⟨rfl, rfl, rfl, rfl⟩ := hzero.out rfl
        clear hnz hzero
        replace po := Lib.hid po
        have e1 := k1.out.cell
        have e2 := k2.out.cell
        go_wp2_with (first | (go_at_call 18; (with_reducible refine po.out.mono ?_); rintro _ _ ⟨rfl, rfl⟩))
        refine (c2.out _).mono ?_
        clear e1 e2
        rintro _ w4 ⟨rfl, b4⟩
        replace b4 := b3.trans (b4.mono b3.size)
        go_wp2_with fail
        refine (lives_any _).mono ?_
        rintro _ w5 ⟨rfl, b5⟩
        go_wp2
        go_ret
        exact ⟨rfl, b4.trans (b5.mono b4.size)⟩
      · have hna := hnz.out (by omega)
        clear hnz hzero
        replace po := Lib.hid po
        rcases hna with hk | ⟨rfl, hk⟩ | ⟨rfl, rfl, hk⟩ | ⟨rfl, rfl, rfl, hk⟩
        · have d1 : (k.toList == k'.toList) = false := by simpa using fun e => hk (toList_inj e)
          clear hk
          have e1 := k1.out.cell
          have e2 := k2.out.cell
          go_wp2_with (first | (go_at_call 18; (with_reducible refine po.out.mono ?_); rintro _ _ ⟨rfl, rfl⟩))
          refine (c2.out _).mono ?_
          clear e1 e2
          rintro _ w4 ⟨rfl, b4⟩
          replace b4 := b3.trans (b4.mono b3.size)
          go_wp2_with fail
          refine (lives_any _).mono ?_
          rintro _ w5 ⟨rfl, b5⟩
          go_wp2
          go_ret
          exact ⟨rfl, b4.trans (b5.mono b4.size)⟩
        · have d1 : ((va : Int) == (va' : Int)) = false := by simp; omega
          clear hk
          have e1 := k1.out.cell
          have e2 := k2.out.cell
          go_wp2_with (first | (go_at_call 18; (with_reducible refine po.out.mono ?_); rintro _ _ ⟨rfl, rfl⟩))
          refine (c2.out _).mono ?_
          clear e1 e2
          rintro _ w4 ⟨rfl, b4⟩
          replace b4 := b3.trans (b4.mono b3.size)
          go_wp2_with fail
          refine (lives_any _).mono ?_
          rintro _ w5 ⟨rfl, b5⟩
          go_wp2
          go_ret
          exact ⟨rfl, b4.trans (b5.mono b4.size)⟩
        · have d1 : ((se : Int) == (se' : Int)) = false := by simp; omega
          clear hk
          have e1 := k1.out.cell
          have e2 := k2.out.cell
          go_wp2_with (first | (go_at_call 18; (with_reducible refine po.out.mono ?_); rintro _ _ ⟨rfl, rfl⟩))
          refine (c2.out _).mono ?_
          clear e1 e2
          rintro _ w4 ⟨rfl, b4⟩
          replace b4 := b3.trans (b4.mono b3.size)
          go_wp2_with fail
          refine (lives_any _).mono ?_
          rintro _ w5 ⟨rfl, b5⟩
          go_wp2
          go_ret
          exact ⟨rfl, b4.trans (b5.mono b4.size)⟩
        · have d1 : ((ki : Int) == (ki' : Int)) = false := by simp; omega
          clear hk
          have e1 := k1.out.cell
          have e2 := k2.out.cell
          go_wp2_with (first | (go_at_call 18; (with_reducible refine po.out.mono ?_); rintro _ _ ⟨rfl, rfl⟩))
          refine (c2.out _).mono ?_
          clear e1 e2
          rintro _ w4 ⟨rfl, b4⟩
          replace b4 := b3.trans (b4.mono b3.size)
          go_wp2_with fail
          refine (lives_any _).mono ?_
          rintro _ w5 ⟨rfl, b5⟩
          go_wp2
          go_ret
          exact ⟨rfl, b4.trans (b5.mono b4.size)⟩

/-! ### from the walk to the statement (by tail.py) -/
set_option maxRecDepth 100000 in
theorem lifted (os : Os) (started : os.Started) (H : Type) (enc : TypeId × Value → H) :
    ReturnsInHanded {} Try.checked os 7 .any (Rows.keysOrderSpec.pre6 enc Try.prog Try.f7 Rows.keysOrderRow.domain false) (Rows.keysOrderSpec.post enc Try.prog Try.f7 false true false false) := by
  refine lifted_of (C := Try.checked) (tb := 4) (n := 2) (by kernel_rfl) started (by kernel_rfl) Try.func7 (by kernel_rfl) (by kernel_rfl) rfl (by kernel_rfl) Try.underlying4 (by kernel_rfl)
    (fun ds hd => by match ds, hd with | [d1, d2], _ => exact ⟨rfl, rfl, rfl⟩)
    (ChangeSpec.witness6 (enc := enc) (C := Try.checked) false ⟨#[], #[.agg #[.string ByteArray.empty, .int .u32 0, .int .u64 0, .int .u64 0, .int .u8 0, .string ByteArray.empty], .agg #[.string ByteArray.empty, .int .u32 0, .int .u64 0, .int .u64 0, .int .u8 0, .string ByteArray.empty]], []⟩ 8 (by kernel_rfl) (by kernel_rfl) (by kernel_rfl) (by kernel_rfl)) ?_
  intro W base args ds before hval hA hsz
  rw [Try.params7] at hA hval hsz
  obtain ⟨v0, vs0, d0, ds0, p0, q0, rfl, rfl, rfl, h0, r0⟩ := trodAll_cons hA
  obtain ⟨v1, vs1, d1, ds1, p1, q1, rfl, rfl, rfl, h1, r1⟩ := trodAll_cons r0
  obtain ⟨rfl, rfl, rfl⟩ := trodAll_nil r1
  obtain ⟨k0, s0, va0, se0, li0, ki0, rfl, hva0, hse0, hli0, hki0⟩ := open_fact (hval 0 _ _ rfl rfl) h0
  obtain ⟨k1, s1, va1, se1, li1, ki1, rfl, hva1, hse1, hli1, hki1⟩ := open_fact (hval 1 _ _ rfl rfl) h1
  exact walk W k0 s0 va0 se0 li0 ki0 hva0 hse0 hli0 hki0 k1 s1 va1 se1 li1 ki1 hva1 hse1 hli1 hki1

theorem over : Rows.keysOrderRow.holds Try.pinned (OpenSpec.ofChange Rows.keysOrderSpec) :=
  OpenClaim.holds_of_wide 7 Try.f7 rfl rfl rfl rfl rfl rfl rfl ⟨rfl, rfl, rfl, rfl, rfl⟩ rfl rfl rfl rfl rfl (by kernel_rfl) Try.func7 (by kernel_rfl)
    (of_decide_eq_true (by kernel_rfl)) (by unfold Func.isWrapper; first | (rw [if_pos (by decide +kernel)]; kernel_rfl) | (rw [if_neg (by decide +kernel)]; exact ⟨rfl, rfl⟩))
    (fun os started H enc _ => lifted os started H enc)

theorem proved : Rows.KeysOrderSaid := over
end Go.Proofs.Ytelppijpmjoblaa.lawKeysOrder
