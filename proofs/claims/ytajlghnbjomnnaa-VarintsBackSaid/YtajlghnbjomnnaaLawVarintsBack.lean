/- What is put, behind whatever, is got, whatever stands behind; without its last byte it ends too soon: for every input, no condition. -/
import Derived.Test.YtajlghnbjomnnaaVarLives
import Derived.Test.YtajlghnbjomnnaaSameB
import Derived.Test.YtajlghnbjomnnaaLift
import Derived.Test.YtajlghnbjomnnaaApp2
set_option linter.unusedSimpArgs false
set_option linter.unusedVariables false
namespace Go.Proofs.Ytajlghnbjomnnaa.lawVarintsBack
open Go Go.RowKit Herb Go.ChangeShapes Go.WideShapes Go.ChangeAt

theorem mid {w : World} {g n m : Nat} {l X : List UInt8} (h : Bs w (some ⟨g, 0, none⟩) (l ++ X)) (hn : l.length = n) (hm : X.length = m) : Bs w (some ⟨g, n, none⟩) X := by
  have := h.cut (k := n) (m := m) (by rw [List.length_append]; omega)
  rw [Nat.zero_add, List.drop_append_of_le_length (by omega), List.drop_eq_nil_of_le (by omega), List.nil_append, List.take_of_length_le (by omega)] at this
  exact this
theorem front {w : World} {A : Option Addr} {l X : List UInt8} (h : Bs w A (l ++ X)) : Bs w A l := by
  have := h.take l.length
  rwa [List.take_left] at this
theorem less {w : World} {A : Option Addr} {l : List UInt8} (h : Bs w A l) : Bs w A l.dropLast := by
  rw [List.dropLast_eq_take]
  exact h.take _

set_option maxHeartbeats 3200000 in
theorem walk (w : World) (A : Option Addr) (c : Nat) (l : List UInt8) (hl : l.length ≤ 140737488355328) (hb : Bs w A l) (hlc : l.length ≤ c) (hc : c ≤ 140737488355328) (v : Nat) (hv : v < 18446744073709551616) (s : ByteArray) (hs : s.size ≤ 140737488355328) :
    Calls Try.prog 4 #[.slice A l.length c, .int .u64 (v : Int), .string s] w fun e w' => e = .returned (.bool true) ∧ Below w.heap.size w w' := by
  obtain ⟨n, hln⟩ : ∃ n, l.length = n := ⟨_, rfl⟩
  obtain ⟨m, hsm⟩ : ∃ m, s.size = m := ⟨_, rfl⟩
  have hsl : s.data.toList.length = m := by rw [← hsm]; rfl
  obtain ⟨sl, hsl'⟩ : ∃ sl, s.data.toList = sl := ⟨_, rfl⟩
  have hlm : sl.length = m := by rw [← hsl']; exact hsl
  replace hlm := Lib.hid hlm
  have hse : s = ⟨sl.toArray⟩ := by rw [← hsl']
  rw [hln] at hl hlc ⊢
  rw [hsm] at hs
  replace hse := Lib.hid hse
  replace hln := Lib.hid hln
  replace hsl' := Lib.hid hsl'
  clear hsl
  go_enter Try.func4, Try.ntmps4
  by_cases hbig : 100000 < n + m
  · go_wp2_with fail
    refine (lives_any w).mono ?_
    rintro e w1 ⟨rfl, hb1⟩
    go_wp2
    go_ret
    exact ⟨rfl, hb1⟩
  · obtain ⟨X, hX⟩ : ∃ X, enc v = X := ⟨_, rfl⟩
    obtain ⟨x, hx⟩ : ∃ x, X.length = x := ⟨_, rfl⟩
    obtain ⟨Y, hY⟩ : ∃ Y, enc m ++ sl = Y := ⟨_, rfl⟩
    obtain ⟨y, hy⟩ : ∃ y, Y.length = y := ⟨_, rfl⟩
    have hx1 : 1 ≤ x ∧ x ≤ 10 := by rw [← hx, ← hX]; exact ⟨enc_pos v, enc_len64 hv⟩
    have hy1 : 1 ≤ y ∧ y ≤ m + 10 := by
      rw [← hy, ← hY, List.length_append]
      have := enc_pos m
      have := enc_len64 (n := m) (by omega)
      have := hlm.out
      omega
    have hdX : Hid (dec (X ++ l) = (v, x, 0)) := Lib.hid (by rw [← hx, ← hX]; exact dec_enc v hv l)
    have hdX' : Hid (dec X.dropLast = (0, 0, 5)) := Lib.hid (by rw [← hX]; exact dec_short v hv)
    have hdY : Hid (decT (Y ++ l) = (sl, y, 0)) := Lib.hid (by
      have := decT_enc sl l (by have := hlm.out; omega)
      rw [hlm.out, hY] at this
      rw [this, ← hy, ← hY, List.length_append, hlm.out])
    have hdY' : Hid ((decT Y.dropLast).2.2 = 5) := Lib.hid (by
      have := decT_short sl (by have := hlm.out; omega)
      rwa [hlm.out, hY] at this)
    have p1 := put_at w A n c l hln.out hlc (by omega) hb v hv (l ++ X) (by rw [hX]) (n + x) (by rw [List.length_append]; have := hln.out; omega)
    replace hX := Lib.hid hX
    replace hY := Lib.hid hY
    replace hx := Lib.hid hx
    replace hy := Lib.hid hy
    go_wp2_with fail
    refine p1.mono ?_
    clear p1
    rintro _ w1 ⟨g1, rfl, hx1, b1⟩
    have p2 := putText_at w1 A n c l hln.out hlc s (by omega) (hb.below b1) (l ++ Y) (by rw [hsm, hsl'.out, ← hY.out, List.append_assoc]) (n + y) (by rw [List.length_append]; have := hln.out; have := hy.out; omega)
    go_wp2_with fail
    refine p2.mono ?_
    clear p2
    rintro _ w2 ⟨g2, rfl, hy2, b2⟩
    have c2 := b1.trans (b2.mono b1.size)
    have hx2 := hx1.below b2
    clear hx1 b1
    go_wp2_with fail
    refine (sameBytes_yes w2 _ A n _ c l hln.out (by omega) (front hx2) (hb.below c2)).mono ?_
    rintro _ w3 ⟨rfl, b3⟩
    have c3 := c2.trans (b3.mono c2.size)
    go_wp2_with fail
    refine (sameBytes_yes w3 _ A n _ c l hln.out (by omega) (front (hy2.below b3)) (hb.below c3)).mono ?_
    rintro _ w4 ⟨rfl, b4⟩
    have c4 := c3.trans (b4.mono c3.size)
    have hbX := mid ((hx2.below b3).below b4) hln.out hx.out
    have hbY := mid ((hy2.below b3).below b4) hln.out hy.out
    have hB := hb.below c4
    clear hx2 hy2 b2 b3 b4 c2 c3 hb
    have p3 := getText_any w4 _ (y - 1) y Y.dropLast (by rw [List.length_dropLast]; have := hy.out; omega) (by omega) (by omega) (less hbY)
    rw [hdY'.out] at p3
    obtain ⟨z1, z2, hz⟩ : ∃ z1 z2, decT Y.dropLast = (z1, z2, 5) := ⟨(decT Y.dropLast).1, (decT Y.dropLast).2.1, by rw [← hdY'.out]⟩
    rw [hz] at p3
    replace hz := Lib.hid hz
    go_wp2_with fail
    refine p3.mono ?_
    clear p3 hz
    rintro _ _ ⟨rfl, rfl⟩
    have cX : Rd w4 1 (some ⟨g1, n, none⟩) x (bvs X) := by have := hx.out; subst this; exact hbX
    have cB : Rd w4 1 A n (bvs l) := by have := hln.out; subst this; exact hB
    have cY : Rd w4 1 (some ⟨g2, n, none⟩) y (bvs Y) := by have := hy.out; subst this; exact hbY
    go_wp2_with (first
      | (at_builtin; refine wpList_app w4 rfl _ _ rfl Try.underlying22 info_u8 rfl (by omega) (World.ownsRow_nil w4 w4.heap.size _ _) rfl (some ⟨g1, n, none⟩) x x (news := bvs X) cX rfl (bvs_one X) (by unfold maxLen; omega) (by omega) (Nat.le_refl _) ?_; intro v5 w5 hown5 hgrow5 hlie5; have hB5 : Below w4.heap.size w4 w5 := (Below.refl _ _).grown hgrow5 (Nat.le_refl _) (fun j hj => by simp [Value.ownBlock] at hj))
      | (at_builtin; refine wpList_app w5 rfl _ _ rfl Try.underlying22 info_u8 rfl (by omega) hown5 rfl A n c (news := bvs l) (cB.below hB5) rfl (bvs_one l) (by unfold maxLen; omega) (by omega) hB5.size ?_; intro v6 w6 hown6 hgrow6 hlie6; have hB6 := below_app hB5 hown5 (Nat.le_refl _) hB5.size hgrow6; obtain ⟨A6, k6, rfl⟩ := own_slice hown6))
    rw [Nat.zero_add, List.nil_append] at hown5
    rw [Nat.zero_add, List.nil_append, ← bvs_append] at hown6
    have e6 := (Bs.of_own hown6).2
    have c6 := hB6
    have hk6 : x + n ≤ k6 := by
      rcases hown6.2 with ⟨_, h⟩ | ⟨_, _, _, h, _, _, h2, _⟩
      · omega
      · cases h; exact h2
    have p4 := got_yes w6 A6 (x + n) k6 v x (X ++ l) (by rw [List.length_append, hx.out, hln.out]) (by omega) e6 hdX.out
    clear e6 hown6 hown5 hgrow5 hgrow6 hlie5 hlie6 hB5 c6
    go_wp2_with fail
    refine p4.mono ?_
    clear p4
    rintro _ _ ⟨rfl, rfl⟩
    have b6 := c4.trans (hB6.mono c4.size)
    have cB6 := cB.below hB6
    have cY6 := cY.below hB6
    have hbX6 := hbX.below hB6
    go_wp2_with (first
      | (at_builtin; refine wpList_app_g w6 rfl _ _ rfl Try.underlying22 info_u8 rfl (by omega) (World.ownsRow_nil w6 w6.heap.size _ _) rfl (some ⟨g2, n, none⟩) y y (news := bvs Y) cY6 rfl (bvs_one Y) (by unfold maxLen; omega) (by omega) (Nat.le_refl _) ?_; intro v7 w7 hown7 hgrow7 hlie7; have hB7 : Below w6.heap.size w6 w7 := (Below.refl _ _).grown hgrow7 (Nat.le_refl _) (fun j hj => by simp [Value.ownBlock] at hj))
      | (at_builtin; refine wpList_app_g w7 rfl _ _ rfl Try.underlying22 info_u8 rfl (by omega) hown7 rfl A n c (news := bvs l) (cB6.below hB7) rfl (bvs_one l) (by unfold maxLen; omega) (by omega) hB7.size ?_; intro v8 w8 hown8 hgrow8 hlie8; have hB8 := below_app hB7 hown7 (Nat.le_refl _) hB7.size hgrow8; obtain ⟨A8, k8, rfl⟩ := own_slice hown8))
    rw [Nat.zero_add, List.nil_append] at hown7
    rw [Nat.zero_add, List.nil_append, ← bvs_append] at hown8
    have e8 := (Bs.of_own hown8).2
    have hk8 : y + n ≤ k8 := by
      rcases hown8.2 with ⟨_, h⟩ | ⟨_, _, _, h, _, _, h2, _⟩
      · omega
      · cases h; exact h2
    have p5 := text_yes w8 A8 (y + n) k8 y (Y ++ l) sl (by rw [List.length_append, hy.out, hln.out]) hk8 (by omega) e8 hdY.out
    rw [← hse.out] at p5
    have b8 := b6.trans (hB8.mono b6.size)
    have hbX8 := hbX6.below hB8
    clear e8 hown8 hown7 hgrow7 hgrow8 hlie7 hlie8 hB7 hB8 hbX hbX6 b6 hB6 c4
    go_wp2_with fail
    refine p5.mono ?_
    clear p5
    rintro _ _ ⟨rfl, rfl⟩
    have p6 := no_yes w8 _ (x - 1) x 5 X.dropLast (by rw [List.length_dropLast]; have := hx.out; omega) (by omega) (less hbX8) hdX'.out
    go_wp2_with fail
    refine p6.mono ?_
    clear p6
    rintro _ _ ⟨rfl, rfl⟩
    go_wp2_with fail
    refine (lives_any w8).mono ?_
    rintro _ w9 ⟨rfl, b9⟩
    go_wp2
    go_ret
    exact ⟨rfl, b8.trans (b9.mono b8.size)⟩

/-! ### from the walk to the statement (by tail.py) -/
set_option maxRecDepth 100000 in
theorem lifted (os : Os) (started : os.Started) (H : Type) (enc : TypeId × Value → H) :
    ReturnsInHanded {} Try.checked os 4 .any (Rows.varintsBackSpec.pre6 enc Try.prog Try.f4 Rows.varintsBackRow.domain false) (Rows.varintsBackSpec.post enc Try.prog Try.f4 false true false false) := by
  refine lifted_of (C := Try.checked) (tb := 4) (n := 3) (by kernel_rfl) started (by kernel_rfl) Try.func4 (by kernel_rfl) (by kernel_rfl) rfl (by kernel_rfl) Try.underlying4 (by kernel_rfl)
    (fun ds hd => by match ds, hd with | [d1, d2, d3], _ => exact ⟨rfl, rfl, rfl⟩)
    (ChangeSpec.witness6 (enc := enc) (C := Try.checked) false ⟨#[], #[.slice none 0 0, .int .u64 0, .string ByteArray.empty], []⟩ 8 (by kernel_rfl) (by kernel_rfl) (by kernel_rfl) (by kernel_rfl)) ?_
  intro W base args ds before hval hA hsz
  rw [Try.params4] at hA hval hsz
  obtain ⟨v0, vs0, d0, ds0, p0, q0, rfl, rfl, rfl, h0, r0⟩ := trodAll_cons hA
  obtain ⟨v1, vs1, d1, ds1, p1, q1, rfl, rfl, rfl, h1, r1⟩ := trodAll_cons r0
  obtain ⟨v2, vs2, d2, ds2, p2, q2, rfl, rfl, rfl, h2, r2⟩ := trodAll_cons r1
  obtain ⟨rfl, rfl, rfl⟩ := trodAll_nil r2
  obtain ⟨A0, c0, l0, rfl, hb0, hlc0, _, hcap0⟩ := open_bytes Try.underlying22 Try.underlying5 (by kernel_rfl) (by kernel_rfl) (hval 0 _ _ rfl rfl) h0
  have hc0 := hcap0 hsz 0 rfl rfl
  obtain ⟨x1, rfl, hx1⟩ := open_u64 Try.underlying25 (hval 1 _ _ rfl rfl) h1
  obtain ⟨s2, rfl, hcap2⟩ := open_str Try.underlying9 (hval 2 _ _ rfl rfl) h2
  have hs2 := hcap2 hsz 2 rfl rfl
  exact walk W A0 c0 l0 (by have := reachBytes_lt; omega) hb0 hlc0 (by have := reachBytes_lt; omega) x1 hx1 s2 (by have := reachBytes_lt; omega)

theorem over : Rows.varintsBackRow.holds Try.pinned (OpenSpec.ofChange Rows.varintsBackSpec) :=
  OpenClaim.holds_of_wide 4 Try.f4 rfl rfl rfl rfl rfl rfl rfl ⟨rfl, rfl, rfl, rfl, rfl⟩ rfl rfl rfl rfl rfl (by kernel_rfl) Try.func4 (by kernel_rfl)
    (of_decide_eq_true (by kernel_rfl)) (by unfold Func.isWrapper; first | (rw [if_pos (by decide +kernel)]; kernel_rfl) | (rw [if_neg (by decide +kernel)]; exact ⟨rfl, rfl⟩))
    (fun os started H enc _ => lifted os started H enc)

theorem proved : Rows.VarintsBackSaid := over
end Go.Proofs.Ytajlghnbjomnnaa.lawVarintsBack
