/- Where a key's facts begin from a time on stands at or ahead of its facts of that time, and of earlier ones, and behind all others that stand ahead of these: for every input, no condition. -/
import Derived.Test.YtelppijpmjoblaaKeyOrd
import Derived.Test.YtelppijpmjoblaaKeyLives
set_option linter.unusedSimpArgs false
set_option linter.unusedVariables false
namespace Go.Proofs.Ytelppijpmjoblaa.lawKeysSeek
open Go Go.RowKit Herb Go.ChangeShapes Go.WideShapes Go.ChangeAt

/-- What the law compares: the order, and whether the fact stands ahead. -/
def aheadB (k q : ByteArray) (va vq : Nat) : Bool := less k.toList q.toList || (k.toList == q.toList && decide (vq < va))
theorem ord_ahead (k q : ByteArray) (va vq : Nat) : (orI (cmpS k q) (orI (cmpI (vq : Int) (va : Int)) 1) = -1 ∧ aheadB k q va vq = true) ∨ (orI (cmpS k q) (orI (cmpI (vq : Int) (va : Int)) 1) = 1 ∧ aheadB k q va vq = false) := by
  unfold aheadB
  rcases str_tri k q with h | rfl | h
  · exact .inl ⟨by rw [cmpS_lt h, orI_m], by rw [h]; rfl⟩
  · rw [cmpS_eq, orI_0, less_irrefl]
    by_cases hv : vq < va
    · exact .inl ⟨by rw [cmpI_lt (by omega), orI_m], by simp [hv]⟩
    · refine .inr ⟨?_, by simp; omega⟩
      by_cases he : vq = va
      · rw [he, cmpI_eq, orI_0]
      · rw [cmpI_gt (by omega), orI_1]
  · refine .inr ⟨by rw [cmpS_gt h, orI_1], ?_⟩
    have h2 := ne_of_less' h
    rw [less_asymm h]
    have : (k.toList == q.toList) = false := by simpa using h2
    rw [this]; rfl

set_option maxRecDepth 100000 in
set_option maxHeartbeats 1600000 in
theorem walk (w : World) (k v : ByteArray) (va se li ki : Nat) (h1 : va < 4294967296) (h2 : se < 18446744073709551616) (h3 : li < 18446744073709551616) (h4 : ki < 256) (q : ByteArray) (hq : q.size ≤ 140737488355328) (vq : Nat) (h5 : vq < 4294967296) :
    Calls Try.prog 5 #[.agg #[.string k, .int .u32 (va : Int), .int .u64 (se : Int), .int .u64 (li : Int), .int .u8 (ki : Int), .string v], .string q, .int .u32 (vq : Int)] w
      fun e w' => e = .returned (.bool true) ∧ Below w.heap.size w w' := by
  clear h3
  obtain ⟨n, hn⟩ : ∃ n, q.size = n := ⟨_, rfl⟩
  have hord := ordL_seek k q (se := se) (ki := ki) h1 h5
  have hah := ord_ahead k q va vq
  rw [← hord] at hah
  clear hord
  have kb := Blk.new w 29 #[.string k, .int .u32 (va : Int), .int .u64 (se : Int), .int .u64 (li : Int), .int .u8 (ki : Int), .string v]
  have hb := (Below.refl w.heap.size w).alloc (Nat.le_refl _) (.cells #[.string k, .int .u32 (va : Int), .int .u64 (se : Int), .int .u64 (li : Int), .int .u8 (ki : Int), .string v] 29)
  have cs := fun W => seek_any W q vq h5
  have cp := fun W => put_yes W k v va se li ki h1 h2 h4
  have cn := fun W => put_no W k v va se li ki
  replace cs := Lib.hid cs
  replace cp := Lib.hid cp
  replace cn := Lib.hid cn
  replace hah := Lib.hid hah
  replace kb := Lib.hid kb
  go_enter Try.func5, Try.ntmps5
  by_cases hbig : 1000 < n
  · have d1 : decide ((1000 : Int) < (n : Int)) = true := decide_eq_true (by omega)
    go_wp2_with fail
    refine (lives_any _).mono ?_
    rintro _ w1 ⟨rfl, b1⟩
    go_wp2
    go_ret
    exact ⟨rfl, hb.trans (b1.mono hb.size)⟩
  · have d1 : decide ((1000 : Int) < (n : Int)) = false := decide_eq_false (by omega)
    have hn1000 : n ≤ 1000 := by omega
    replace cs := fun W => cs.out W (by rw [hn]; omega)
    replace cs := Lib.hid cs
    have c0 := kb.out.cell
    rcases hm : mayB k se ki with _ | _
    · replace cn := fun W => cn.out W hm
      replace cn := Lib.hid cn
      replace hm := Lib.hid hm
      clear hq hbig
      go_wp2_with fail
      refine (cn.out _).mono ?_
      rintro _ w1 ⟨rfl, b1⟩
      replace b1 := hb.trans (b1.mono hb.size)
      clear c0
      go_wp2_with fail
      refine (lives_any _).mono ?_
      rintro _ w2 ⟨rfl, b2⟩
      go_wp2
      go_ret
      exact ⟨rfl, b1.trans (b2.mono b1.size)⟩
    · replace cp := fun W => cp.out W hm
      replace cp := Lib.hid cp
      replace hm := Lib.hid hm
      clear hq hbig
      go_wp2_with fail
      refine (cp.out _).mono ?_
      rintro _ w1 ⟨g1, n1, rfl, hn1, hg1, hs1, b1⟩
      replace kb := Lib.hid (kb.out.below b1 kb.out.lt)
      replace b1 := hb.trans (b1.mono hb.size)
      replace hn1 := Lib.hid hn1
      clear c0
      go_wp2_with fail
      refine (cs.out _).mono ?_
      rintro _ w2 ⟨g2, n2, rfl, hn2, hg2, hs2, b2⟩
      replace kb := Lib.hid (kb.out.below b2 kb.out.lt)
      replace hs1 := hs1.below b2
      replace b2 := b1.trans (b2.mono b1.size)
      replace hn2 := Lib.hid hn2
      have c2 := kb.out.cell
      rcases hvv : decide (vq < va) with _ | _
      · have hvh := Lib.hid hvv
        clear hvv
        by_cases hlt : less k.toList q.toList = true
        · obtain ⟨hO, hA⟩ : ordL (putL k va se ki) (seekL q vq) = -1 ∧ aheadB k q va vq = true := by
            rcases hah.out with h | h
            · exact h
            · have := h.2; unfold aheadB at this; rw [hlt] at this; cases this
          clear hah
          have po := order_any w2 _ _ n1 n2 n1 n2 _ _ hn1.out.symm hn2.out.symm hs1 hs2
          rw [hO] at po
          clear hA hO hs1 hs2 hn1 hn2
          replace po := Lib.hid po
          go_wp2_with (first | (go_at_call 18; (with_reducible refine po.out.mono ?_); rintro _ _ ⟨rfl, rfl⟩))
          refine (lives_any _).mono ?_
          rintro _ w3 ⟨rfl, b3⟩
          go_wp2
          go_ret
          exact ⟨rfl, b2.trans (b3.mono b2.size)⟩
        · by_cases heq : k.toList = q.toList
          · obtain ⟨O, A, hO, hA, hOA⟩ : ∃ O A, ordL (putL k va se ki) (seekL q vq) = O ∧ aheadB k q va vq = A ∧ (O = -1 ∧ A = true ∨ O = 1 ∧ A = false) := ⟨_, _, rfl, rfl, hah.out⟩
            have hA2 := hA
            unfold aheadB at hA2
            have d2 : Op.bytesLess k.toList q.toList = false := by simpa using hlt
            have d3 : (k.toList == q.toList) = true := by simpa using heq
            rw [show less k.toList q.toList = false from d2, d3, hvh.out] at hA2
            simp only [Bool.false_or, Bool.true_and, Bool.and_false, Bool.and_true, Bool.false_and] at hA2
            subst hA2
            obtain rfl : O = 1 := by rcases hOA with ⟨h, h'⟩ | ⟨h, h'⟩ <;> first | exact h | cases h'
            clear hOA hlt heq
            have hvv := hvh.out
            clear hah
            have po := order_any w2 _ _ n1 n2 n1 n2 _ _ hn1.out.symm hn2.out.symm hs1 hs2
            rw [hO] at po
            clear hA hO hs1 hs2 hn1 hn2
            replace po := Lib.hid po
            go_wp2_with (first | (go_at_call 18; (with_reducible refine po.out.mono ?_); rintro _ _ ⟨rfl, rfl⟩))
            refine (lives_any _).mono ?_
            rintro _ w3 ⟨rfl, b3⟩
            go_wp2
            go_ret
            exact ⟨rfl, b2.trans (b3.mono b2.size)⟩
          · obtain ⟨O, A, hO, hA, hOA⟩ : ∃ O A, ordL (putL k va se ki) (seekL q vq) = O ∧ aheadB k q va vq = A ∧ (O = -1 ∧ A = true ∨ O = 1 ∧ A = false) := ⟨_, _, rfl, rfl, hah.out⟩
            have hA2 := hA
            unfold aheadB at hA2
            have d2 : Op.bytesLess k.toList q.toList = false := by simpa using hlt
            have d3 : (k.toList == q.toList) = false := by simpa using heq
            rw [show less k.toList q.toList = false from d2, d3] at hA2
            simp only [Bool.false_or, Bool.true_and, Bool.and_false, Bool.and_true, Bool.false_and] at hA2
            subst hA2
            obtain rfl : O = 1 := by rcases hOA with ⟨h, h'⟩ | ⟨h, h'⟩ <;> first | exact h | cases h'
            clear hOA hlt heq
            clear hah
            have po := order_any w2 _ _ n1 n2 n1 n2 _ _ hn1.out.symm hn2.out.symm hs1 hs2
            rw [hO] at po
            clear hA hO hs1 hs2 hn1 hn2
            replace po := Lib.hid po
            go_wp2_with (first | (go_at_call 18; (with_reducible refine po.out.mono ?_); rintro _ _ ⟨rfl, rfl⟩))
            refine (lives_any _).mono ?_
            rintro _ w3 ⟨rfl, b3⟩
            go_wp2
            go_ret
            exact ⟨rfl, b2.trans (b3.mono b2.size)⟩
      · have hvh := Lib.hid hvv
        clear hvv
        by_cases hlt : less k.toList q.toList = true
        · obtain ⟨hO, hA⟩ : ordL (putL k va se ki) (seekL q vq) = -1 ∧ aheadB k q va vq = true := by
            rcases hah.out with h | h
            · exact h
            · have := h.2; unfold aheadB at this; rw [hlt] at this; cases this
          clear hah
          have po := order_any w2 _ _ n1 n2 n1 n2 _ _ hn1.out.symm hn2.out.symm hs1 hs2
          rw [hO] at po
          clear hA hO hs1 hs2 hn1 hn2
          replace po := Lib.hid po
          go_wp2_with (first | (go_at_call 18; (with_reducible refine po.out.mono ?_); rintro _ _ ⟨rfl, rfl⟩))
          refine (lives_any _).mono ?_
          rintro _ w3 ⟨rfl, b3⟩
          go_wp2
          go_ret
          exact ⟨rfl, b2.trans (b3.mono b2.size)⟩
        · by_cases heq : k.toList = q.toList
          · obtain ⟨O, A, hO, hA, hOA⟩ : ∃ O A, ordL (putL k va se ki) (seekL q vq) = O ∧ aheadB k q va vq = A ∧ (O = -1 ∧ A = true ∨ O = 1 ∧ A = false) := ⟨_, _, rfl, rfl, hah.out⟩
            have hA2 := hA
            unfold aheadB at hA2
            have d2 : Op.bytesLess k.toList q.toList = false := by simpa using hlt
            have d3 : (k.toList == q.toList) = true := by simpa using heq
            rw [show less k.toList q.toList = false from d2, d3, hvh.out] at hA2
            simp only [Bool.false_or, Bool.true_and, Bool.and_false, Bool.and_true, Bool.false_and] at hA2
            subst hA2
            obtain rfl : O = -1 := by rcases hOA with ⟨h, h'⟩ | ⟨h, h'⟩ <;> first | exact h | cases h'
            clear hOA hlt heq
            have hvv := hvh.out
            clear hah
            have po := order_any w2 _ _ n1 n2 n1 n2 _ _ hn1.out.symm hn2.out.symm hs1 hs2
            rw [hO] at po
            clear hA hO hs1 hs2 hn1 hn2
            replace po := Lib.hid po
            go_wp2_with (first | (go_at_call 18; (with_reducible refine po.out.mono ?_); rintro _ _ ⟨rfl, rfl⟩))
            refine (lives_any _).mono ?_
            rintro _ w3 ⟨rfl, b3⟩
            go_wp2
            go_ret
            exact ⟨rfl, b2.trans (b3.mono b2.size)⟩
          · obtain ⟨O, A, hO, hA, hOA⟩ : ∃ O A, ordL (putL k va se ki) (seekL q vq) = O ∧ aheadB k q va vq = A ∧ (O = -1 ∧ A = true ∨ O = 1 ∧ A = false) := ⟨_, _, rfl, rfl, hah.out⟩
            have hA2 := hA
            unfold aheadB at hA2
            have d2 : Op.bytesLess k.toList q.toList = false := by simpa using hlt
            have d3 : (k.toList == q.toList) = false := by simpa using heq
            rw [show less k.toList q.toList = false from d2, d3] at hA2
            simp only [Bool.false_or, Bool.true_and, Bool.and_false, Bool.and_true, Bool.false_and] at hA2
            subst hA2
            obtain rfl : O = 1 := by rcases hOA with ⟨h, h'⟩ | ⟨h, h'⟩ <;> first | exact h | cases h'
            clear hOA hlt heq
            clear hah
            have po := order_any w2 _ _ n1 n2 n1 n2 _ _ hn1.out.symm hn2.out.symm hs1 hs2
            rw [hO] at po
            clear hA hO hs1 hs2 hn1 hn2
            replace po := Lib.hid po
            go_wp2_with (first | (go_at_call 18; (with_reducible refine po.out.mono ?_); rintro _ _ ⟨rfl, rfl⟩))
            refine (lives_any _).mono ?_
            rintro _ w3 ⟨rfl, b3⟩
            go_wp2
            go_ret
            exact ⟨rfl, b2.trans (b3.mono b2.size)⟩

/-! ### from the walk to the statement (by tail.py) -/
set_option maxRecDepth 100000 in
theorem lifted (os : Os) (started : os.Started) (H : Type) (enc : TypeId × Value → H) :
    ReturnsInHanded {} Try.checked os 5 .any (Rows.keysSeekSpec.pre6 enc Try.prog Try.f5 Rows.keysSeekRow.domain false) (Rows.keysSeekSpec.post enc Try.prog Try.f5 false true false false) := by
  refine lifted_of (C := Try.checked) (tb := 4) (n := 3) (by kernel_rfl) started (by kernel_rfl) Try.func5 (by kernel_rfl) (by kernel_rfl) rfl (by kernel_rfl) Try.underlying4 (by kernel_rfl)
    (fun ds hd => by match ds, hd with | [d1, d2, d3], _ => exact ⟨rfl, rfl, rfl⟩)
    (ChangeSpec.witness6 (enc := enc) (C := Try.checked) false ⟨#[], #[.agg #[.string ByteArray.empty, .int .u32 0, .int .u64 0, .int .u64 0, .int .u8 0, .string ByteArray.empty], .string ByteArray.empty, .int .u32 0], []⟩ 8 (by kernel_rfl) (by kernel_rfl) (by kernel_rfl) (by kernel_rfl)) ?_
  intro W base args ds before hval hA hsz
  rw [Try.params5] at hA hval hsz
  obtain ⟨v0, vs0, d0, ds0, p0, q0, rfl, rfl, rfl, h0, r0⟩ := trodAll_cons hA
  obtain ⟨v1, vs1, d1, ds1, p1, q1, rfl, rfl, rfl, h1, r1⟩ := trodAll_cons r0
  obtain ⟨v2, vs2, d2, ds2, p2, q2, rfl, rfl, rfl, h2, r2⟩ := trodAll_cons r1
  obtain ⟨rfl, rfl, rfl⟩ := trodAll_nil r2
  obtain ⟨k0, s0, va0, se0, li0, ki0, rfl, hva0, hse0, hli0, hki0⟩ := open_fact (hval 0 _ _ rfl rfl) h0
  obtain ⟨s1, rfl, hcap1⟩ := open_str Try.underlying9 (hval 1 _ _ rfl rfl) h1
  have hs1 := hcap1 hsz 1 rfl rfl
  obtain ⟨x2, rfl, hx2⟩ := open_u32 Try.underlying25 (hval 2 _ _ rfl rfl) h2
  exact walk W k0 s0 va0 se0 li0 ki0 hva0 hse0 hli0 hki0 s1 (by have := reachBytes_lt; omega) x2 hx2

theorem over : Rows.keysSeekRow.holds Try.pinned (OpenSpec.ofChange Rows.keysSeekSpec) :=
  OpenClaim.holds_of_wide 5 Try.f5 rfl rfl rfl rfl rfl rfl rfl ⟨rfl, rfl, rfl, rfl, rfl⟩ rfl rfl rfl rfl rfl (by kernel_rfl) Try.func5 (by kernel_rfl)
    (of_decide_eq_true (by kernel_rfl)) (by unfold Func.isWrapper; first | (rw [if_pos (by decide +kernel)]; kernel_rfl) | (rw [if_neg (by decide +kernel)]; exact ⟨rfl, rfl⟩))
    (fun os started H enc _ => lifted os started H enc)

theorem proved : Rows.KeysSeekSaid := over
end Go.Proofs.Ytelppijpmjoblaa.lawKeysSeek
