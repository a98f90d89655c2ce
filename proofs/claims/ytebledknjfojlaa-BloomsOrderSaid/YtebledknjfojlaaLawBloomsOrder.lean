/- In whatever order keys are told the filter is the same; keys that are told twice set nothing more: for every input, no condition. -/
import Derived.Test.YtebledknjfojlaaBloomLives
import Derived.Test.YtebledknjfojlaaGreat
import Derived.Test.YtebledknjfojlaaLiftS
import Derived.Test.YtebledknjfojlaaSameB
import Derived.Test.YtebledknjfojlaaApp
import Derived.Deep.RegionLaw
set_option linter.unusedSimpArgs false
set_option linter.unusedVariables false
namespace Go.Proofs.Ytebledknjfojlaa.lawBloomsOrder
open Go Go.RowKit Herb Go.ChangeShapes Go.WideShapes Go.ChangeAt

theorem info_str : (Try.prog.info? 9).map (fun i => (i.zero, i.size, i.bytes)) = some (some (.string ⟨#[]⟩), 1, 16) := by kernel_rfl
theorem rd_drop {w : World} {b off n k : Nat} {ks : List ByteArray} (h : Ss w (some ⟨b, off, none⟩) ks) (hn : ks.length = n) (hk : k ≤ n) : Rd w 1 (some ⟨b, off + k, none⟩) (n - k) (svs (ks.drop k)) := by
  refine ⟨by rw [svs_length, List.length_drop, hn]; omega, fun h0 => ?_⟩
  obtain ⟨b', off', e, hq, hc⟩ := Rd.at_ h (k := k) (by omega)
  cases e
  refine ⟨b, off + k, rfl, hq, fun j u hu => ?_⟩
  rw [Nat.add_assoc]
  refine hc _ _ ?_
  unfold svs at hu ⊢
  rw [List.map_drop, List.getElem?_drop] at hu
  exact hu
theorem rd_take {w : World} {A : Option Addr} {n k : Nat} {ks : List ByteArray} (h : Ss w A ks) (hn : ks.length = n) (hk : k ≤ n) : Rd w 1 A k (svs (ks.take k)) := by
  refine ⟨by rw [svs_length, List.length_take, hn]; omega, fun h0 => ?_⟩
  obtain ⟨b', off', e, hq, hc⟩ := Rd.at_ h (k := 0) (by omega)
  refine ⟨b', off', e, hq, fun j u hu => hc _ _ ?_⟩
  unfold svs at hu ⊢
  rw [List.map_take, List.getElem?_take] at hu
  split at hu
  · exact hu
  · cases hu
theorem svs_append (a b : List ByteArray) : svs a ++ svs b = svs (a ++ b) := by simp [svs]
theorem ss_of_own {W : World} {base n c : Nat} {A : Option Addr} {ks : List ByteArray} (h : W.ownsRow base 9 1 (.slice A n c) n (svs ks)) (hn : ks.length = n) : Ss W A ks := by
  subst hn
  exact Rd.of_own h

theorem ss_of {W : World} {A : Option Addr} {n : Nat} {ks : List ByteArray} (h : Rd W 1 A n (svs ks)) (hn : ks.length = n) : Ss W A ks := by
  subst hn
  exact h

set_option maxRecDepth 100000 in
set_option maxHeartbeats 3200000 in
theorem walk (w : World) (A : Option Addr) (c : Nat) (ks : List ByteArray) (hl : ks.length ≤ 140737488355328) (hs : ∀ s ∈ ks, s.size ≤ 140737488355328) (hb : Ss w A ks) (hlc : ks.length ≤ c) (hc : c * 16 ≤ 140737488355328) (a : Nat) (ha : a < 256) :
    Calls Try.prog 5 #[.slice A ks.length c, .int .u8 (a : Int)] w fun e w' => e = .returned (.bool true) ∧ Below w.heap.size w w' := by
  obtain ⟨n, hn⟩ : ∃ n, ks.length = n := ⟨_, rfl⟩
  rw [hn] at hl hlc ⊢
  replace hn := Lib.hid hn
  replace hs := Lib.hid hs
  go_enter Try.func5, Try.ntmps5
  go_wp2_with fail
  refine (great_any w A n c ks hn.out hl hs.out hb).mono ?_
  rintro _ _ ⟨t, rfl, rfl, ht⟩
  by_cases hg : 100000 < t
  · have d1 : decide ((100000 : Int) < (t : Int)) = true := decide_eq_true (by omega)
    go_wp2_with fail
    refine (lives_any w).mono ?_
    rintro e w1 ⟨rfl, hb1⟩
    go_wp2
    go_ret
    exact ⟨rfl, hb1⟩
  · have d1 : decide ((100000 : Int) < (t : Int)) = false := decide_eq_false (by omega)
    by_cases hg2 : 500 < n
    · have d2 : decide ((500 : Int) < (n : Int)) = true := decide_eq_true (by omega)
      go_wp2_with fail
      refine (lives_any w).mono ?_
      rintro e w1 ⟨rfl, hb1⟩
      go_wp2
      go_ret
      exact ⟨rfl, hb1⟩
    · have d2 : decide ((500 : Int) < (n : Int)) = false := decide_eq_false (by omega)
      by_cases hg3 : n = 0
      · subst hg3
        go_wp2_with fail
        refine (lives_any w).mono ?_
        rintro e w1 ⟨rfl, hb1⟩
        go_wp2
        go_ret
        exact ⟨rfl, hb1⟩
      · have d3 : ((n : Int) == 0) = false := by simp; omega
        obtain ⟨k, hk⟩ : ∃ k, a % n = k := ⟨_, rfl⟩
        have hkn : k < n := by rw [← hk]; exact Nat.mod_lt _ (by omega)
        have hmod : (a : Int).tmod (n : Int) = (k : Int) := by rw [Int.tmod_eq_emod_of_nonneg (by omega), ← hk]; simp
        replace hk := Lib.hid hk
        obtain ⟨b, off, rfl, hq, _⟩ := hb.at_ (k := k) (by rw [hn.out]; exact hkn)
        have hrd1 := rd_drop hb hn.out (show k ≤ n by omega)
        have hrd2 := rd_take hb hn.out (show k ≤ n by omega)
        have k0 : (0 : Int) ≤ (k : Int) := by omega
        have k1 : (k : Int) ≤ (n : Int) := by omega
        have k2 : (n : Int) ≤ (c : Int) := by omega
        have k3 : (k : Int) ≤ (c : Int) := by omega
        go_wp2_with fail
        have hck : ¬ c = k := by omega
        have hr1 := svs_one (ks.drop k)
        have hr2 := svs_one (ks.take k)
        go_region_law (first
          | (refine step_app _ (by rfl) (.const (.slice none 0 0)) (.tmp 29) (by rfl) Try.underlying27 info_str (by rfl) (by omega) (World.ownsRow_nil _ w.heap.size 9 1) (by rfl) _ (n - k) (c - k) hrd1.drew (by rfl) hr1 (by unfold maxLen; omega) (by omega) (Nat.le_refl _) ?_; intro v2 w2 hown2 hgrow2 hlie2; have b2 : Below w.heap.size w w2 := below_app ((Below.refl _ _).drew) (World.ownsRow_nil w w.heap.size 9 1) (Nat.le_refl _) (Nat.le_refl _) hgrow2)
          | (refine step_app _ (by rfl) (.tmp 30) (.tmp 33) (by rfl) Try.underlying27 info_str (by rfl) (by omega) hown2 (by rfl) _ k c (hrd2.below b2) (by rfl) hr2 (by unfold maxLen; omega) (by omega) b2.size ?_; intro v3 w3 hown3 hgrow3 hlie3; have b3 : Below w.heap.size w w3 := below_app b2 hown2 (Nat.le_refl _) b2.size hgrow3))
        obtain ⟨Am, cm, rfl⟩ := own_slice hown3
        have hl3 : 0 + (n - k) + k = n := by omega
        rw [List.nil_append, svs_append, hl3] at hown3
        rw [hl3]
        have hmn : (ks.drop k ++ ks.take k).length = n := by rw [List.length_append, List.length_drop, List.length_take, hn.out]; omega
        have hm3 : Ss w3 Am (ks.drop k ++ ks.take k) := ss_of_own hown3 hmn
        have hms : ∀ s ∈ ks.drop k ++ ks.take k, s.size ≤ 140737488355328 := fun s h => by
          rcases List.mem_append.1 h with h | h
          · exact hs.out s (List.mem_of_mem_drop h)
          · exact hs.out s (List.mem_of_mem_take h)
        have hof : ofP (ks.drop k ++ ks.take k) = ofP ks := ofP_perm ks k
        generalize ks.drop k ++ ks.take k = ms at *
        have hk3 : Rd w3 1 (some ⟨b, off, none⟩) n (svs ks) := by have := hb.below b3; unfold Ss at this; rwa [hn.out] at this
        replace hm3 : Rd w3 1 Am n (svs ms) := by have := hm3; unfold Ss at this; rwa [hmn] at this
        replace hms := Lib.hid hms
        replace hmn := Lib.hid hmn
        replace hof := Lib.hid hof
        clear hown3 hgrow3 hlie3 hown2 hgrow2 hlie2 b2 hrd1 hrd2 hr1 hr2 hl3 hck k0 k1 k2 k3
        have hr1 := svs_one ks
        have hr2 := svs_one ms
        have hr3 := svs_one (ks ++ ks)
        obtain ⟨n2, hn2⟩ : ∃ n2, 0 + n + n = n2 := ⟨_, rfl⟩
        obtain ⟨n3, hn3⟩ : ∃ n3, 0 + n2 + n = n3 := ⟨_, rfl⟩
        have hn2' : n2 ≤ 1000 := by omega
        have hn3' : n3 ≤ 1500 := by omega
        have hn23 : n2 ≤ n3 := by omega
        replace hn2 := Lib.hid hn2
        replace hn3 := Lib.hid hn3
        go_wp2_with (first
          | (at_builtin; refine wpList_app _ rfl (.const (.slice none 0 0)) (.tmp 35) rfl Try.underlying27 info_str rfl (by omega) (World.ownsRow_nil _ w3.heap.size 9 1) rfl _ n c hk3 rfl hr1 (by unfold maxLen; omega) (by omega) (Nat.le_refl _) ?_; intro v4 w4 hown4 hgrow4 hlie4; have b4 : Below w3.heap.size w3 w4 := below_app (Below.refl _ _) (World.ownsRow_nil w3 w3.heap.size 9 1) (Nat.le_refl _) (Nat.le_refl _) hgrow4)
          | (at_builtin; refine wpList_app _ rfl (.tmp 36) (.tmp 37) rfl Try.underlying27 info_str rfl (by omega) hown4 rfl _ n c (hk3.below b4) rfl hr1 (by unfold maxLen; omega) (by omega) b4.size ?_; intro v5 w5 hown5 hgrow5 hlie5; have b5 : Below w3.heap.size w3 w5 := below_app b4 hown4 (Nat.le_refl _) b4.size hgrow5; rw [hn2.out, List.nil_append, svs_append] at hown5; obtain ⟨At, ct, rfl⟩ := own_slice hown5; have ht5 := Rd.of_own hown5)
          | (at_builtin; refine wpList_app _ rfl (.const (.slice none 0 0)) (.tmp 39) rfl Try.underlying27 info_str rfl (by omega) (World.ownsRow_nil _ w5.heap.size 9 1) rfl _ n2 ct ht5 rfl hr3 (by unfold maxLen; omega) (by omega) (Nat.le_refl _) ?_; intro v6 w6 hown6 hgrow6 hlie6; have b6 : Below w5.heap.size w5 w6 := below_app (Below.refl _ _) (World.ownsRow_nil w5 w5.heap.size 9 1) (Nat.le_refl _) (Nat.le_refl _) hgrow6)
          | (at_builtin; refine wpList_app _ rfl (.tmp 40) (.tmp 41) rfl Try.underlying27 info_str rfl (by omega) hown6 rfl _ n cm (hm3.below (b5.trans (b6.mono b5.size))) rfl hr2 (by unfold maxLen; omega) (by omega) b6.size ?_; intro v7 w7 hown7 hgrow7 hlie7; have b7 : Below w5.heap.size w5 w7 := below_app b6 hown6 (Nat.le_refl _) b6.size hgrow7; rw [hn3.out, List.nil_append, svs_append] at hown7; obtain ⟨Ab, cb, rfl⟩ := own_slice hown7; have hb7 := Rd.of_own hown7))
        have l2 : (ks ++ ks).length = n2 := by rw [List.length_append, hn.out, ← hn2.out]; omega
        have l3 : (ks ++ ks ++ ms).length = n3 := by rw [List.length_append, l2, hmn.out, ← hn3.out]; omega
        have s2 : ∀ s ∈ ks ++ ks, s.size ≤ 140737488355328 := fun s h => by rcases List.mem_append.1 h with h | h <;> exact hs.out s h
        have s3 : ∀ s ∈ ks ++ ks ++ ms, s.size ≤ 140737488355328 := fun s h => by
          rcases List.mem_append.1 h with h | h
          · exact s2 s h
          · exact hms.out s h
        obtain ⟨r1, hr1'⟩ : ∃ r, room n + 1 = r := ⟨_, rfl⟩
        obtain ⟨r2, hr2'⟩ : ∃ r, room n2 + 1 = r := ⟨_, rfl⟩
        obtain ⟨r3, hr3'⟩ : ∃ r, room n3 + 1 = r := ⟨_, rfl⟩
        have hr1s : (ofP ks).length = r1 := by rw [ofP_length, hn.out, hr1']
        have hr2s : (ofP (ks ++ ks)).length = r2 := by rw [ofP_length, l2, hr2']
        have hrl : r2 ≤ r3 ∧ r1 ≤ 100000 ∧ r2 ≤ 100000 := by rw [← hr1', ← hr2', ← hr3']; unfold room; omega
        obtain ⟨hr23, hr1m, hr2m⟩ := hrl
        have htw := ofP_twice ks
        rw [hn.out] at htw
        have c7 : Below w.heap.size w w7 := b3.trans ((b5.trans (b7.mono b5.size)).mono b3.size)
        have m7 : Rd w7 1 Am n (svs ms) := hm3.below (b5.trans (b7.mono b5.size))
        have t7 : Rd w7 1 At n2 (svs (ks ++ ks)) := ht5.below b7
        replace l2 := Lib.hid l2
        replace l3 := Lib.hid l3
        replace s2 := Lib.hid s2
        replace s3 := Lib.hid s3
        replace hr1' := Lib.hid hr1'
        replace hr2' := Lib.hid hr2'
        replace hr3' := Lib.hid hr3'
        replace hr1s := Lib.hid hr1s
        replace hr2s := Lib.hid hr2s
        clear hr1 hr2 hr3 hgrow7 hlie7 hown7 hown6 hgrow6 hlie6 hown5 hgrow5 hlie5 hown4 hgrow4 hlie4 b4 b6 hk3 hm3 ht5 b3 b5 b7
        obtain ⟨q, hq2⟩ : ∃ q, pops (ofP (ks ++ ks)) = q := ⟨_, rfl⟩
        rw [hq2] at htw
        have f1 : decide ((q : Int) ≤ 6 * (n : Int) + 2) = true := decide_eq_true (by omega)
        have f2 : decide (r2 ≤ r3) = true := decide_eq_true (by omega)
        have f3 : decide ((r2 : Int) ≤ (r3 : Int)) = true := decide_eq_true (by omega)
        replace hq2 := Lib.hid hq2
        refine (bloomOf_at w7 _ n c ks hn.out (by omega) hs.out (hb.below c7) r1 hr1'.out (ofP ks) rfl).mono ?_
        rintro _ w8 ⟨g8, rfl, h8, b8⟩
        have c8 := c7.trans (b8.mono c7.size)
        go_wp2_with fail
        refine (bloomOf_at w8 _ n cm ms hmn.out (by omega) hms.out (ss_of (m7.below b8) hmn.out) r1 hr1'.out (ofP ks) hof.out).mono ?_
        rintro _ w9 ⟨g9, rfl, h9, b9⟩
        have c9 := c8.trans (b9.mono c8.size)
        go_wp2_with fail
        refine (sameBytes_yes w9 _ _ r1 r1 r1 (ofP ks) hr1s.out (by omega) (h8.below b9) h9).mono ?_
        rintro _ w10 ⟨rfl, b10⟩
        have c10 := c9.trans (b10.mono c9.size)
        have t10 := ((t7.below b8).below b9).below b10
        have h10 := ((hb7.below b8).below b9).below b10
        clear h8 h9
        go_wp2_with fail
        refine (bloomOf_at w10 _ n2 ct (ks ++ ks) l2.out (by omega) s2.out (ss_of t10 l2.out) r2 hr2'.out _ rfl).mono ?_
        rintro _ w11 ⟨g11, rfl, h11, b11⟩
        have c11 := c10.trans (b11.mono c10.size)
        go_wp2_with fail
        refine (bloomOf_at w11 _ n3 cb (ks ++ ks ++ ms) l3.out (by omega) s3.out (ss_of (h10.below b11) l3.out) r3 hr3'.out _ rfl).mono ?_
        rintro _ w12 ⟨g12, rfl, h12, b12⟩
        have c12 := c11.trans (b12.mono c11.size)
        go_wp2_with fail
        refine (bloomOf_at w12 _ n2 ct (ks ++ ks) l2.out (by omega) s2.out (ss_of ((t10.below b11).below b12) l2.out) r2 hr2'.out _ rfl).mono ?_
        rintro _ w13 ⟨g13, rfl, h13, b13⟩
        have c13 := c12.trans (b13.mono c12.size)
        have ps := set_any w13 _ r2 r2 (ofP (ks ++ ks)) hr2s.out (by omega) h13
        rw [hq2.out] at ps
        clear h11 h12 h13
        replace ps := Lib.hid ps
        go_wp2_with fail
        refine ps.out.mono ?_
        rintro _ _ ⟨rfl, rfl⟩
        go_wp2_with fail
        refine (lives_any w13).mono ?_
        rintro _ w14 ⟨rfl, b14⟩
        have c14 := c13.trans (b14.mono c13.size)
        go_wp2
        go_ret
        exact ⟨rfl, c14⟩

/-! ### from the walk to the statement (by tail.py) -/
set_option maxRecDepth 100000 in
theorem lifted (os : Os) (started : os.Started) (H : Type) (enc : TypeId × Value → H) :
    ReturnsInHanded {} Try.checked os 5 .any (Rows.bloomsOrderSpec.pre6 enc Try.prog Try.f5 Rows.bloomsOrderRow.domain false) (Rows.bloomsOrderSpec.post enc Try.prog Try.f5 false true false false) := by
  refine lifted_of (C := Try.checked) (tb := 4) (n := 2) (by kernel_rfl) started (by kernel_rfl) Try.func5 (by kernel_rfl) (by kernel_rfl) rfl (by kernel_rfl) Try.underlying4 (by kernel_rfl)
    (fun ds hd => by match ds, hd with | [d1, d2], _ => exact ⟨rfl, rfl, rfl⟩)
    (ChangeSpec.witness6 (enc := enc) (C := Try.checked) false ⟨#[], #[.slice none 0 0, .int .u8 0], []⟩ 8 (by kernel_rfl) (by kernel_rfl) (by kernel_rfl) (by kernel_rfl)) ?_
  intro W base args ds before hval hA hsz
  rw [Try.params5] at hA hval hsz
  obtain ⟨v0, vs0, d0, ds0, p0, q0, rfl, rfl, rfl, h0, r0⟩ := trodAll_cons hA
  obtain ⟨v1, vs1, d1, ds1, p1, q1, rfl, rfl, rfl, h1, r1⟩ := trodAll_cons r0
  obtain ⟨rfl, rfl, rfl⟩ := trodAll_nil r1
  obtain ⟨A0, c0, ks0, rfl, hb0, hlc0, _, hcap0⟩ := open_strs Try.underlying27 Try.underlying9 (by kernel_rfl) (by kernel_rfl) (hval 0 _ _ rfl rfl) h0
  have hc0 := hcap0 hsz 0 rfl rfl
  obtain ⟨x1, rfl, hx1⟩ := open_u8 Try.underlying5 (hval 1 _ _ rfl rfl) h1
  exact walk W A0 c0 ks0 (by have := reachBytes_lt; have := hc0.1; omega) (fun s hs => by have := reachBytes_lt; have := hc0.2 s hs; omega) hb0 hlc0 (by have := reachBytes_lt; have := hc0.1; omega) x1 hx1

theorem over : Rows.bloomsOrderRow.holds Try.pinned (OpenSpec.ofChange Rows.bloomsOrderSpec) :=
  OpenClaim.holds_of_wide 5 Try.f5 rfl rfl rfl rfl rfl rfl rfl ⟨rfl, rfl, rfl, rfl, rfl⟩ rfl rfl rfl rfl rfl (by kernel_rfl) Try.func5 (by kernel_rfl)
    (of_decide_eq_true (by kernel_rfl)) (by unfold Func.isWrapper; first | (rw [if_pos (by decide +kernel)]; kernel_rfl) | (rw [if_neg (by decide +kernel)]; exact ⟨rfl, rfl⟩))
    (fun os started H enc _ => lifted os started H enc)

theorem proved : Rows.BloomsOrderSaid := over
end Go.Proofs.Ytebledknjfojlaa.lawBloomsOrder
