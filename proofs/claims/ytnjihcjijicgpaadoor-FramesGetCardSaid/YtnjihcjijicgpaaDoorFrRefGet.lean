/- Walk of the document's frames: Get. -/
import Derived.Test.YtnjihcjijicgpaaDoorFrRefOne
set_option linter.unusedSimpArgs false
set_option linter.unusedVariables false
namespace Go.Proofs.YtnjihcjijicgpaaDoor
open Go Go.RowKit Herb

theorem refGet_bad (w : World) (A : Option Addr) (n c : Nat) (p : Int) (h : p < 0 ∨ (n : Int) < p) :
    Calls Tryd.prog 14 #[.slice A n c, .int .i64 p] w fun e w' => e = .returned (.tuple #[.slice none 0 0, .int .i64 0, .int .i64 1]) ∧ w = w' := by
  by_cases h1 : p < 0
  · have d : decide (p < 0) = true := decide_eq_true h1
    go_enter Tryd.func14, Tryd.ntmps14
    go_wp2
    go_ret3
    exact ⟨rfl, rfl⟩
  · have d : decide (p < 0) = false := decide_eq_false h1
    have d2 : decide ((n : Int) < p) = true := decide_eq_true (by omega)
    go_enter Tryd.func14, Tryd.ntmps14
    go_wp2
    go_ret3
    exact ⟨rfl, rfl⟩
theorem fits_kind {k : UInt8} {n : Nat} {g : Bool} {rm had : Nat} (h : Fr.fits k n g rm had = true) : k = 1 ∨ k = 2 ∨ k = 3 ∨ k = 4 := by
  unfold Fr.fits at h
  by_cases h1 : k = 1
  · exact .inl h1
  by_cases h2 : k = 2
  · exact .inr (.inl h2)
  by_cases h3 : k = 3
  · exact .inr (.inr (.inl h3))
  by_cases h4 : k = 4
  · exact .inr (.inr (.inr h4))
  simp [h1, h2, h3, h4] at h
/-- What Get answers. -/
def getP (w : World) (x : List UInt8) (ne er : Nat) (e : Ending) (w' : World) : Prop :=
  ∃ A' k c', e = .returned (.tuple #[.slice A' k c', .int .i64 (ne : Int), .int .i64 (er : Int)]) ∧ x.length = k ∧ Bs w' A' x ∧ Below w.heap.size w w'
theorem getP_mk {w w' : World} {x : List UInt8} {ne er : Nat} {A' : Option Addr} {k c' : Nat} {e : Ending} (he : e = .returned (.tuple #[.slice A' k c', .int .i64 (ne : Int), .int .i64 (er : Int)])) (hx : x.length = k) (hb : Bs w' A' x) (hB : Below w.heap.size w w') :
    getP w x ne er e w' := ⟨A', k, c', he, hx, hb, hB⟩
set_option maxRecDepth 100000 in
set_option maxHeartbeats 3200000 in
theorem refGet_any (w : World) (A : Option Addr) (n c : Nat) (l : List UInt8) (hl : l.length = n) (hn : n ≤ 1000000) (hnc : n ≤ c) (hb : Bs w A l) (p : Nat) (hp : p ≤ n) (x : List UInt8) (ne er : Nat) (hres : Fr.get l p = (x, ne, er)) :
    Calls Tryd.prog 14 #[.slice A n c, .int .i64 (p : Int)] w fun e w' => getP w x ne er e w' := by
  have d : decide ((p : Int) < 0) = false := decide_eq_false (by omega)
  have d2 : decide ((n : Int) < (p : Int)) = false := decide_eq_false (by omega)
  have d3 : decide (n < p) = false := decide_eq_false (by omega)
  have kc := run_cut_from (P := Tryd.prog) Tryd.underlying22 u8sz A n c p hp
  obtain ⟨z, hz⟩ : ∃ z, Fr.allZ (l.drop p) = z := ⟨_, rfl⟩
  have pn := refNone_any w (cutA A c p) (n - p) (c - p) (l.drop p) (by rw [List.length_drop, hl]) (by omega) (hb.cutA_from (by omega) (by omega)) z hz
  unfold Fr.get at hres
  rw [hz, hl] at hres
  clear hz
  replace pn := Lib.hid pn
  replace hl := Lib.hid hl
  replace hres := Lib.hid hres
  go_enter Tryd.func14, Tryd.ntmps14
  go_wp2_with fail
  refine pn.out.mono ?_
  clear pn kc
  rintro _ _ ⟨rfl, rfl⟩
  cases z
  case true =>
    have hr := hres.out
    rw [if_pos rfl] at hr
    injection hr with h1 hr
    injection hr with h2 h3
    subst h1
    subst h2
    subst h3
    clear hres
    go_wp2
    go_ret3
    exact getP_mk rfl rfl (Bs.nil_ _ _) (Below.refl _ _)
  case false =>
    have hr := hres.out
    rw [if_neg (by simp)] at hr
    replace hr := Lib.hid hr
    clear hres
    go_wp2_with fail
    go_loopw [1, 7, 8] (fun v1 v7 v8 wr => ∃ (fu q m : Nat) (g : Bool) (acc : List UInt8), v1 = .int .i64 (q : Int) ∧ v8 = .bool g ∧ wr.ownsRow w.heap.size 5 1 v7 m (bvs acc) ∧ acc.length = m
        ∧ Fr.getF fu l q g acc = (x, ne, er) ∧ n < q + fu ∧ q ≤ n ∧ m ≤ q ∧ (g = false → m = 0) ∧ Below w.heap.size w wr)
      (fun v1 _ _ _ => n - (intOf v1).toNat)
    case atStart => exact ⟨n + 1, p, 0, false, [], rfl, rfl, World.ownsRow_nil _ _ _ _, rfl, hr.out, by omega, hp, by omega, fun _ => rfl, Below.refl _ _⟩
    case round =>
      obtain ⟨fu, q, m, g, acc, rfl, rfl, hown, hm, hF, hfu, hq, hmq, hg, hB⟩ := hrel
      obtain ⟨A7, c7, rfl⟩ := own_slice hown
      obtain ⟨fu', rfl⟩ : ∃ fu', fu = fu' + 1 := ⟨fu - 1, by omega⟩
      have po := refOne_any wr A n c l hl.out hn hnc (hb.below hB) q hq g m (by omega) hg
      replace hm := Lib.hid hm
      obtain ⟨r, hstep⟩ : ∃ r, Fr.step l q g m = r := ⟨_, rfl⟩
      rw [hstep] at po
      replace hstep := Lib.hid hstep
      replace hF := Lib.hid hF
      replace po := Lib.hid po
      clear hr
      go_wp2_with fail
      refine po.out.mono ?_
      clear po
      rintro _ w1 ⟨b1, h1⟩
      rcases r with e0 | ⟨k, y, z⟩
      · obtain rfl := h1
        have hF' := hF.out
        rw [Fr.getF_inl _ _ _ _ _ e0 (by rw [hm.out]; exact hstep.out)] at hF'
        injection hF' with h1 hF'
        injection hF' with h2 h3
        subst h1
        subst h2
        subst h3
        have he0 : e0 ≠ 0 := fun h => Fr.step_ne0 _ _ _ _ (h ▸ hstep.out)
        have dn : ((e0 : Int) != 0) = true := by simp; omega
        go_wp2
        go_ret3
        exact getP_mk rfl rfl (Bs.nil_ _ _) (hB.trans (b1.mono hB.size))
      · obtain ⟨A', n', c', rfl, hy, hby⟩ := h1
        have hps := Fr.part_step hstep.out
        have hk := fits_kind hps.2.2.2.1
        have hzq : q < z ∧ z ≤ n ∧ m + n' ≤ z ∧ n' ≤ 1000000 := by
          have h2 := hps.2.1
          have h3 := hps.2.2.1
          rw [hy] at h2
          rw [hl.out] at h3
          omega
        have hF' := hF.out
        rw [Fr.getF_inr _ _ _ _ _ k y z (by rw [hm.out]; exact hstep.out)] at hF'
        have hB1 := hB.trans (b1.mono hB.size)
        have hown1 := own_below hown b1
        have ry : Rd w1 1 A' n' (bvs y) := by have h : Rd w1 1 A' _ (bvs y) := hby.below b1; rw [hy] at h; exact h
        have oneY := bvs_one y
        replace oneY := Lib.hid oneY
        replace hy := Lib.hid hy
        replace hF' := Lib.hid hF'
        clear hps hF hstep
        have hlen : (acc ++ y).length = m + n' := by rw [List.length_append, hm.out, hy.out]
        replace hlen := Lib.hid hlen
        rcases hk with hk | hk | hk | hk
        · have f1 : ((k.toNat : Int) == 1) = true := kbT (y := 1) rfl hk
          have h := hF'.out
          rw [show Fr.goesOn k = false by rw [hk]; decide, if_neg (by simp)] at h
          injection h with h1 h
          injection h with h2 h3
          subst h1
          subst h2
          subst h3
          clear hF'
          go_wp2_with (first | (at_builtin; refine wpList_app w1 rfl (.tmp 39) (.tmp 40) rfl Tryd.underlying22 infoF8 rfl (by omega) hown1 rfl A' n' c' ry rfl oneY.out (by unfold maxLen; omega) (by omega) hB1.size ?_; intro v2 w2 hown2 hgrow2 _; have b2 := below_app hB1 hown1 (Nat.le_refl _) hB1.size hgrow2; obtain ⟨A2, c2, rfl⟩ := own_slice hown2) | fail)
          go_ret3
          rw [← bvs_append] at hown2
          exact getP_mk rfl hlen.out (Bs.of_own hown2).2 b2
        · have f1 : ((k.toNat : Int) == 1) = false := kbF (y := 1) rfl (by rw [hk]; decide)
          have f4 : ((k.toNat : Int) == 4) = false := kbF (y := 4) rfl (by rw [hk]; decide)
          have h := hF'.out
          rw [show Fr.goesOn k = true by rw [hk]; decide, if_pos rfl] at h
          replace h := Lib.hid h
          clear hF'
          go_wp2_with (first | (at_builtin; refine wpList_app w1 rfl (.tmp 39) (.tmp 40) rfl Tryd.underlying22 infoF8 rfl (by omega) hown1 rfl A' n' c' ry rfl oneY.out (by unfold maxLen; omega) (by omega) hB1.size ?_; intro v2 w2 hown2 hgrow2 _; have b2 := below_app hB1 hown1 (Nat.le_refl _) hB1.size hgrow2; obtain ⟨A2, c2, rfl⟩ := own_slice hown2) | fail)
          rw [← bvs_append] at hown2
          go_roundw
          case rel => exact ⟨fu', z, m + n', true, acc ++ y, rfl, rfl, hown2, hlen.out, h.out, by omega, by omega, by omega, (fun h => by cases h), b2⟩
          case measure => simp [intOf]; omega
        · have f1 : ((k.toNat : Int) == 1) = false := kbF (y := 1) rfl (by rw [hk]; decide)
          have f4 : ((k.toNat : Int) == 4) = false := kbF (y := 4) rfl (by rw [hk]; decide)
          have h := hF'.out
          rw [show Fr.goesOn k = true by rw [hk]; decide, if_pos rfl] at h
          replace h := Lib.hid h
          clear hF'
          go_wp2_with (first | (at_builtin; refine wpList_app w1 rfl (.tmp 39) (.tmp 40) rfl Tryd.underlying22 infoF8 rfl (by omega) hown1 rfl A' n' c' ry rfl oneY.out (by unfold maxLen; omega) (by omega) hB1.size ?_; intro v2 w2 hown2 hgrow2 _; have b2 := below_app hB1 hown1 (Nat.le_refl _) hB1.size hgrow2; obtain ⟨A2, c2, rfl⟩ := own_slice hown2) | fail)
          rw [← bvs_append] at hown2
          go_roundw
          case rel => exact ⟨fu', z, m + n', true, acc ++ y, rfl, rfl, hown2, hlen.out, h.out, by omega, by omega, by omega, (fun h => by cases h), b2⟩
          case measure => simp [intOf]; omega
        · have f1 : ((k.toNat : Int) == 1) = false := kbF (y := 1) rfl (by rw [hk]; decide)
          have f4 : ((k.toNat : Int) == 4) = true := kbT (y := 4) rfl hk
          have h := hF'.out
          rw [show Fr.goesOn k = false by rw [hk]; decide, if_neg (by simp)] at h
          injection h with h1 h
          injection h with h2 h3
          subst h1
          subst h2
          subst h3
          clear hF'
          go_wp2_with (first | (at_builtin; refine wpList_app w1 rfl (.tmp 39) (.tmp 40) rfl Tryd.underlying22 infoF8 rfl (by omega) hown1 rfl A' n' c' ry rfl oneY.out (by unfold maxLen; omega) (by omega) hB1.size ?_; intro v2 w2 hown2 hgrow2 _; have b2 := below_app hB1 hown1 (Nat.le_refl _) hB1.size hgrow2; obtain ⟨A2, c2, rfl⟩ := own_slice hown2) | fail)
          go_ret3
          rw [← bvs_append] at hown2
          exact getP_mk rfl hlen.out (Bs.of_own hown2).2 b2
end Go.Proofs.YtnjihcjijicgpaaDoor
