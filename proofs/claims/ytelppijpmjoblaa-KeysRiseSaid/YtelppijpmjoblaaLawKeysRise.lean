/- Of any three facts no order goes round: for every input, no condition. -/
import Derived.Test.YtelppijpmjoblaaKeyLives
import Derived.Test.YtelppijpmjoblaaKeyRise
import Derived.Test.YtelppijpmjoblaaFact
set_option linter.unusedSimpArgs false
set_option linter.unusedVariables false
namespace Go.Proofs.Ytelppijpmjoblaa.lawKeysRise
open Go Go.RowKit Herb Go.ChangeShapes Go.WideShapes Go.ChangeAt
section
variable {H : Type} {enc : TypeId × Value → H} {W : World} {b0 base : Nat} {spare : Nat → Bool} {held : Bool} {r : Reach}
theorem parts3 {α : Type} {l a b c : List α} (hl : l.length = 18) (h0 : (l.drop 0).take 6 = a) (h1 : (l.drop 6).take 6 = b) (h2 : (l.drop 12).take 6 = c) : l = a ++ (b ++ c) := by
  subst h0 h1 h2
  have e : (l.drop 12).take 6 = l.drop 12 := List.take_of_length_le (by simp; omega)
  rw [e]
  have e2 : l.drop 12 = (l.drop 6).drop 6 := by rw [List.drop_drop]
  rw [e2, List.take_append_drop, List.drop_zero, List.take_append_drop]
theorem open_facts3 {v : Value} {d : DataW H} {ps : List MemPlace} (hv : Value.okWide Try.prog W r b0 44 v) (h : DataW.Trod enc Try.prog W base spare held 44 v d ps) :
    ∃ (k s : ByteArray) (va se li ki : Nat) (k' s' : ByteArray) (va' se' li' ki' : Nat) (k'' s'' : ByteArray) (va'' se'' li'' ki'' : Nat),
      v = .agg #[.string k, .int .u32 (va : Int), .int .u64 (se : Int), .int .u64 (li : Int), .int .u8 (ki : Int), .string s, .string k', .int .u32 (va' : Int), .int .u64 (se' : Int), .int .u64 (li' : Int), .int .u8 (ki' : Int), .string s', .string k'', .int .u32 (va'' : Int), .int .u64 (se'' : Int), .int .u64 (li'' : Int), .int .u8 (ki'' : Int), .string s''] := by
  obtain ⟨cs, rfl, hsz⟩ : ∃ cs, v = .agg cs ∧ cs.size = Try.prog.cellsOf 44 := by
    simp only [Value.okWide, Try.underlying44] at hv
    obtain ⟨cs, h1, h2, _⟩ := hv
    exact ⟨cs, h1, h2⟩
  obtain ⟨fuel, hf⟩ := h
  obtain ⟨xs, n, _, _, hlen, hxs, hf⟩ := DataW.trod_array Try.underlying44 hf
  have c6 : Try.prog.cellsOf 29 = 6 := by kernel_rfl
  have hlen18 : cs.toList.length = 18 := hlen.trans (by kernel_rfl)
  have g : ∀ (i : Nat), i < 3 → ∃ y, xs[i]? = some y := fun i hi => ⟨_, List.getElem?_eq_getElem (by omega)⟩
  obtain ⟨y0, e0⟩ := g 0 (by omega)
  obtain ⟨y1, e1⟩ := g 1 (by omega)
  obtain ⟨y2, e2⟩ := g 2 (by omega)
  obtain ⟨k, s, va, se, li, ki, h0, _⟩ := fact_cells ((hf 0 (by omega)).trans e0)
  obtain ⟨k', s', va', se', li', ki', h1, _⟩ := fact_cells ((hf 1 (by omega)).trans e1)
  obtain ⟨k'', s'', va'', se'', li'', ki'', h2, _⟩ := fact_cells ((hf 2 (by omega)).trans e2)
  rw [c6] at h0 h1 h2
  refine ⟨k, s, va, se, li, ki, k', s', va', se', li', ki', k'', s'', va'', se'', li'', ki'', ?_⟩
  have := parts3 hlen18 h0 h1 h2
  obtain ⟨cl⟩ := cs
  subst this
  rfl
end

set_option maxRecDepth 100000 in
set_option maxHeartbeats 1600000 in
theorem walk (w : World) (k v : ByteArray) (va se li ki : Nat) (k' v' : ByteArray) (va' se' li' ki' : Nat) (k'' v'' : ByteArray) (va'' se'' li'' ki'' : Nat) :
    Calls Try.prog 8 #[.agg #[.string k, .int .u32 (va : Int), .int .u64 (se : Int), .int .u64 (li : Int), .int .u8 (ki : Int), .string v, .string k', .int .u32 (va' : Int), .int .u64 (se' : Int), .int .u64 (li' : Int), .int .u8 (ki' : Int), .string v', .string k'', .int .u32 (va'' : Int), .int .u64 (se'' : Int), .int .u64 (li'' : Int), .int .u8 (ki'' : Int), .string v'']] w
      fun e w' => e = .returned (.bool true) ∧ Below w.heap.size w w' := by
  have c1 := fun W => cmp_any W k k' v v' va va' se se' li li' ki ki'
  have c2 := fun W => cmp_any W k' k'' v' v'' va' va'' se' se'' li' li'' ki' ki''
  have c3 := fun W => cmp_any W k k'' v v'' va va'' se se'' li li'' ki ki''
  have c4 := fun W => cmp_any W k k v v va va se se li li ki ki
  have hr := cmpF_R3 k k' k'' va va' va'' se se' se'' ki ki' ki''
  rw [cmpF_self] at c4
  generalize cmpF k k' va va' se se' ki ki' = x at c1 hr
  generalize cmpF k' k'' va' va'' se' se'' ki' ki'' = y at c2 hr
  generalize cmpF k k'' va va'' se se'' ki ki'' = z at c3 hr
  replace c1 := Lib.hid c1
  replace c2 := Lib.hid c2
  replace c3 := Lib.hid c3
  replace c4 := Lib.hid c4
  replace hr := Lib.hid hr
  go_enter Try.func8, Try.ntmps8
  go_wp2_with fail
  have kb := Blk.new w 44 #[.string k, .int .u32 (va : Int), .int .u64 (se : Int), .int .u64 (li : Int), .int .u8 (ki : Int), .string v, .string k', .int .u32 (va' : Int), .int .u64 (se' : Int), .int .u64 (li' : Int), .int .u8 (ki' : Int), .string v', .string k'', .int .u32 (va'' : Int), .int .u64 (se'' : Int), .int .u64 (li'' : Int), .int .u8 (ki'' : Int), .string v'']
  have b0 := (Below.refl w.heap.size w).alloc (Nat.le_refl _) (.cells #[.string k, .int .u32 (va : Int), .int .u64 (se : Int), .int .u64 (li : Int), .int .u8 (ki : Int), .string v, .string k', .int .u32 (va' : Int), .int .u64 (se' : Int), .int .u64 (li' : Int), .int .u8 (ki' : Int), .string v', .string k'', .int .u32 (va'' : Int), .int .u64 (se'' : Int), .int .u64 (li'' : Int), .int .u8 (ki'' : Int), .string v''] 44)
  refine (c1.out _).mono ?_
  rintro _ w1 ⟨rfl, b1⟩
  replace kb := kb.below b1 kb.lt
  replace b1 := b0.trans (b1.mono b0.size)
  clear b0
  have e1 := kb.cell
  replace kb := Lib.hid kb
  go_wp2_with fail
  refine (c2.out _).mono ?_
  clear e1
  rintro _ w2 ⟨rfl, b2⟩
  replace kb := Lib.hid (kb.out.below b2 kb.out.lt)
  replace b2 := b1.trans (b2.mono b1.size)
  clear b1
  have e2 := kb.out.cell
  go_wp2_with fail
  refine (c3.out _).mono ?_
  clear e2
  rintro _ w3 ⟨rfl, b3⟩
  replace kb := Lib.hid (kb.out.below b3 kb.out.lt)
  replace b3 := b2.trans (b3.mono b2.size)
  clear b2
  have hr' := hr.out
  unfold R3 at hr'
  clear c1 c2 c3 hr
  have fin : (x = -1 ∧ y = -1 ∧ z = -1) ∨ (x = -1 ∧ y = 0 ∧ z = -1) ∨ (x = 0 ∧ y = -1 ∧ z = -1) ∨ (x = 0 ∧ y = 0 ∧ z = 0) ∨ (x = 0 ∧ y = 1 ∧ z = 1) ∨ (x = 1 ∧ y = 0 ∧ z = 1) ∨ (x = 1 ∧ y = 1 ∧ z = 1) ∨ (x = -1 ∧ y = 1) ∨ (x = 1 ∧ y = -1) := by omega
  clear hr'
  rcases fin with ⟨rfl, rfl, rfl⟩ | ⟨rfl, rfl, rfl⟩ | ⟨rfl, rfl, rfl⟩ | ⟨rfl, rfl, rfl⟩ | ⟨rfl, rfl, rfl⟩ | ⟨rfl, rfl, rfl⟩ | ⟨rfl, rfl, rfl⟩ | ⟨rfl, rfl⟩ | ⟨rfl, rfl⟩
  all_goals
    have e3 := kb.out.drew.cell
    have e4 := kb.out.cell
    go_wp2_with fail
    refine (c4.out _).mono ?_
    clear e3 e4
    rintro _ w4 ⟨rfl, b4⟩
    replace b4 := b3.trans (b4.mono b3.size)
    go_wp2_with fail
    refine (lives_any _).mono ?_
    rintro _ w5 ⟨rfl, b5⟩
    go_wp2
    go_ret
    exact ⟨rfl, b4.trans (b5.mono b4.size)⟩

/-! ### from the walk to the statement (by tail.py) -/
set_option maxRecDepth 100000 in
theorem lifted (os : Os) (started : os.Started) (H : Type) (enc : TypeId × Value → H) :
    ReturnsInHanded {} Try.checked os 8 .any (Rows.keysRiseSpec.pre6 enc Try.prog Try.f8 Rows.keysRiseRow.domain false) (Rows.keysRiseSpec.post enc Try.prog Try.f8 false true false false) := by
  refine lifted_of (C := Try.checked) (tb := 4) (n := 1) (by kernel_rfl) started (by kernel_rfl) Try.func8 (by kernel_rfl) (by kernel_rfl) rfl (by kernel_rfl) Try.underlying4 (by kernel_rfl)
    (fun ds hd => by match ds, hd with | [d1], _ => exact ⟨rfl, rfl, rfl⟩)
    (ChangeSpec.witness6 (enc := enc) (C := Try.checked) false ⟨#[], #[.agg #[.string ByteArray.empty, .int .u32 0, .int .u64 0, .int .u64 0, .int .u8 0, .string ByteArray.empty, .string ByteArray.empty, .int .u32 0, .int .u64 0, .int .u64 0, .int .u8 0, .string ByteArray.empty, .string ByteArray.empty, .int .u32 0, .int .u64 0, .int .u64 0, .int .u8 0, .string ByteArray.empty]], []⟩ 8 (by kernel_rfl) (by kernel_rfl) (by kernel_rfl) (by kernel_rfl)) ?_
  intro W base args ds before hval hA hsz
  rw [Try.params8] at hA hval hsz
  obtain ⟨v0, vs0, d0, ds0, p0, q0, rfl, rfl, rfl, h0, r0⟩ := trodAll_cons hA
  obtain ⟨rfl, rfl, rfl⟩ := trodAll_nil r0
  obtain ⟨k0, s0, va0, se0, li0, ki0, k0', s0', va0', se0', li0', ki0', k0'', s0'', va0'', se0'', li0'', ki0'', rfl⟩ := open_facts3 (hval 0 _ _ rfl rfl) h0
  exact walk W k0 s0 va0 se0 li0 ki0 k0' s0' va0' se0' li0' ki0' k0'' s0'' va0'' se0'' li0'' ki0''

theorem over : Rows.keysRiseRow.holds Try.pinned (OpenSpec.ofChange Rows.keysRiseSpec) :=
  OpenClaim.holds_of_wide 8 Try.f8 rfl rfl rfl rfl rfl rfl rfl ⟨rfl, rfl, rfl, rfl, rfl⟩ rfl rfl rfl rfl rfl (by kernel_rfl) Try.func8 (by kernel_rfl)
    (of_decide_eq_true (by kernel_rfl)) (by unfold Func.isWrapper; first | (rw [if_pos (by decide +kernel)]; kernel_rfl) | (rw [if_neg (by decide +kernel)]; exact ⟨rfl, rfl⟩))
    (fun os started H enc _ => lifted os started H enc)

theorem proved : Rows.KeysRiseSaid := over
end Go.Proofs.Ytelppijpmjoblaa.lawKeysRise
