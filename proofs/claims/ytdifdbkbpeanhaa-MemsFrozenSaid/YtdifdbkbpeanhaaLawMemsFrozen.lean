/- Once frozen a mem stays as it was: for every input, no condition. -/
import Derived.Test.YtdifdbkbpeanhaaMemStep
import Derived.Test.YtdifdbkbpeanhaaMLaid
import Derived.Deep.RegionHeld3
import Derived.Deep.RegionWith
set_option linter.unusedSimpArgs false
set_option linter.unusedVariables false
namespace Herb
open Go Go.RowKit
/-- A fact as it lies in a row of such elements. -/
theorem lms_at {w : World} {A : Option Addr} {ls : List LaM} {n : Nat} (h : Rd w 8 A n (lmsC ls)) (hn : ls.length = n) {i : Nat} (hi : i < n) : ∃ b off y, A = some ⟨b, off, none⟩ ∧ ls[i]? = some y ∧
    w.cell? ⟨b, off + i * 8, none⟩ = some (.string y.f.k) ∧ w.cell? ⟨b, off + i * 8 + 1, none⟩ = some (.int .u32 (y.f.va : Int)) ∧ w.cell? ⟨b, off + i * 8 + 2, none⟩ = some (.int .u64 (y.f.se : Int)) ∧ w.cell? ⟨b, off + i * 8 + 3, none⟩ = some (.int .u64 (y.f.li : Int)) ∧
    w.cell? ⟨b, off + i * 8 + 4, none⟩ = some (.int .u8 (y.f.ki : Int)) ∧ w.cell? ⟨b, off + i * 8 + 5, none⟩ = some (.string y.f.v) ∧ w.cell? ⟨b, off + i * 8 + 6, none⟩ = some (.int .i64 y.h) ∧ w.cell? ⟨b, off + i * 8 + 7, none⟩ = some (.bool y.z) := by
  obtain ⟨b, off, e, hb, hc⟩ := Rd.at_ h hi
  have hl : i < ls.length := by rw [hn]; exact hi
  refine ⟨b, off, ls[i], e, List.getElem?_eq_getElem hl, ?_⟩
  exact ⟨hc (i * 8 + 0) _ (lmsC_get hl (j := 0) (by omega)), hc (i * 8 + 1) _ (lmsC_get hl (j := 1) (by omega)), hc (i * 8 + 2) _ (lmsC_get hl (j := 2) (by omega)), hc (i * 8 + 3) _ (lmsC_get hl (j := 3) (by omega)), hc (i * 8 + 4) _ (lmsC_get hl (j := 4) (by omega)), hc (i * 8 + 5) _ (lmsC_get hl (j := 5) (by omega)), hc (i * 8 + 6) _ (lmsC_get hl (j := 6) (by omega)), hc (i * 8 + 7) _ (lmsC_get hl (j := 7) (by omega))⟩
end Herb
namespace Go.Proofs.Ytdifdbkbpeanhaa.lawMemsFrozen
open Go Go.RowKit Herb Go.ChangeShapes Go.WideShapes Go.ChangeAt

set_option maxRecDepth 100000 in
set_option maxHeartbeats 3200000 in
theorem walk (w : World) (A : Option Addr) (c : Nat) (ls : List LaM) (hrd : Rd w 8 A ls.length (lmsC ls)) (hls : ∀ y ∈ ls, y.fit) (B : Option Addr) (d : Nat) (ms : List LaM) (hmd : Rd w 8 B ms.length (lmsC ms)) (hms : ∀ y ∈ ms, y.fit) :
    Calls Try.prog 5 #[.slice A ls.length c, .slice B ms.length d] w fun e w' => e = .returned (.bool true) ∧ Below w.heap.size w w' := by
  obtain ⟨n, hn⟩ : ∃ n, ls.length = n := ⟨_, rfl⟩
  obtain ⟨m, hm⟩ : ∃ m, ms.length = m := ⟨_, rfl⟩
  rw [hn] at hrd ⊢
  rw [hm] at hmd ⊢
  replace hn := Lib.hid hn
  replace hm := Lib.hid hm
  replace hls := Lib.hid hls
  replace hms := Lib.hid hms
  go_enter Try.func5, Try.ntmps5
  by_cases hbig : 40 < n
  · have d1 : decide ((40 : Int) < (n : Int)) = true := decide_eq_true (by omega)
    go_wp2_with fail
    refine (lives_any _).mono ?_
    rintro _ w1 ⟨rfl, b1⟩
    go_wp2
    go_ret
    exact ⟨rfl, b1⟩
  have d1 : decide ((40 : Int) < (n : Int)) = false := decide_eq_false (by omega)
  by_cases hbig2 : 20 < m
  · have d2 : decide ((20 : Int) < (m : Int)) = true := decide_eq_true (by omega)
    go_wp2_with fail
    refine (lives_any _).mono ?_
    rintro _ w1 ⟨rfl, b1⟩
    go_wp2
    go_ret
    exact ⟨rfl, b1⟩
  have d2 : decide ((20 : Int) < (m : Int)) = false := decide_eq_false (by omega)
  have hn40 : n ≤ 40 := by omega
  have hm20 : m ≤ 20 := by omega
  clear hbig hbig2
  go_wp2_with fail
  refine (mnew_any w).mono ?_
  rintro _ w1 ⟨q, p, g0, rfl, m0, b0⟩
  go_wp2
  go_loopw [6] (fun i wr => ∃ (k g cap : Nat) (Am : Option Addr) (s : MSt), k ≤ n ∧ i = .int .i64 (k : Int) ∧ MemS wr w.heap.size q p g Am cap s false ∧ MOk s k ∧ Below w.heap.size w wr) (fun i _ => n - (intOf i).toNat)
  case atStart => exact ⟨0, g0, 0, none, MSt.none, by omega, rfl, m0, MOk.none, b0⟩
  case round =>
    clear m0 b0
    obtain ⟨k, g, cap, Am, s, hk, rfl, mS, ok, hbel⟩ := hrel
    by_cases hlt : k < n
    · obtain ⟨b, off, y, rfl, hy, c0, c1, c2, c3, c4, c5, _, _⟩ := lms_at (hrd.below hbel) hn.out hlt
      have hfit := hls.out y (List.mem_of_getElem? hy)
      obtain ⟨⟨yk, yva, yse, yli, yki, yv⟩, yh, yz⟩ := y
      simp only at c0 c1 c2 c3 c4 c5
      have hdk : decide (k < n) = true := by simpa using hlt
      by_cases hg : 1000 < yk.size ∨ 1000 < yv.size
      · have pg := greatFt_any wr ⟨yk, yva, yse, yli, yki, yv⟩ true (by simpa using hg)
        clear hg hfit
        go_wp2_with fail
        refine pg.mono ?_
        clear pg
        rintro _ w2 ⟨rfl, b2⟩
        go_wp2_with fail
        refine (lives_any _).mono ?_
        rintro _ w3 ⟨rfl, b3⟩
        have b23 := hbel.trans (b2.mono hbel.size)
        have bb := b23.trans (b3.mono b23.size)
        go_wp2
        go_ret
        exact ⟨rfl, bb⟩
      · have pg := greatFt_any wr ⟨yk, yva, yse, yli, yki, yv⟩ false (by simpa using hg)
        have hv : yv.size ≤ 1000 := by omega
        clear hg
        go_wp2_with fail
        refine pg.mono ?_
        clear pg
        rintro _ w2 ⟨rfl, b2⟩
        have mS2 : MemS w2 w.heap.size q p g Am cap s false := MemAt.below mS b2
        have hb2 := hbel.trans (b2.mono hbel.size)
        obtain ⟨b', off', y', he, hy', e0, e1, e2, e3, e4, e5, _, _⟩ := lms_at (hrd.below hb2) hn.out hlt
        cases he
        rw [hy] at hy'
        cases hy'
        simp only at e0 e1 e2 e3 e4 e5
        clear c0 c1 c2 c3 c4 c5
        have pc := mput_step mS2 ok (by omega) ⟨yk, yva, yse, yli, yki, yv⟩ hfit.1 hv (1 + (k : Int) % 8)
        have ok2 := ok.step ⟨yk, yva, yse, yli, yki, yv⟩ (1 + (k : Int) % 8) hfit.1 hv
        generalize stepM s ⟨yk, yva, yse, yli, yki, yv⟩ (1 + (k : Int) % 8) = r at pc ok2
        obtain ⟨r1, s2⟩ := r
        replace pc := Lib.hid pc
        clear mS ok hy hfit hv b2
        go_wp2_with fail
        refine pc.out.mono ?_
        rintro _ w3 ⟨g3, A3, cap3, rfl, mS3, kb, _⟩
        have hb3 := hb2.trans (MemAt.putB mS2 kb hb2.size)
        go_wp2
        go_roundw
        case rel => exact ⟨k + 1, g3, cap3, A3, s2, by omega, by go_num, mS3, ok2, hb3⟩
        case measure => simp [intOf] <;> omega
    · obtain rfl : k = n := by omega
      have hdk : decide (k < k) = false := by simp
      have hfl := ok.few
      have hml := ok.len
      have pf := mfacts_any _ q p g cap Am s.M s.fs s.b false wr mS (by omega)
      go_wp2_with fail
      refine pf.mono ?_
      clear pf
      rintro _ w2 ⟨A1, n1, c1, rfl, hn1, row1, b1⟩
      have mS2 : MemS w2 w.heap.size q p g Am cap s false := MemAt.below mS b1
      have hb2 := hbel.trans (b1.mono hbel.size)
      have hq1 : q < wr.heap.size := MemAt.box mS |>.lt
      clear mS b1 hbel
      go_wp2_with fail
      refine (mbytes_any mS2).mono ?_
      rintro _ _ ⟨rfl, rfl⟩
      go_wp2_with fail
      refine (mfrozen_any mS2).mono ?_
      rintro _ _ ⟨rfl, rfl⟩
      go_wp2_with fail
      refine (mfreeze_any mS2).mono ?_
      rintro _ w3 ⟨rfl, mS3, kz⟩
      have hb3 := hb2.trans (kz.below hb2.size (fun k e => by subst e; exact mS2.qb))
      have r3 : Rd w3 6 A1 n1 (ftC (placed s.fs s.M)) := Rd.of_own (own_keep row1 kz (fun k e e2 => by have := (own_ty row1 e).1; omega))
      have hpl : (placed s.fs s.M).length = n1 := by rw [← hn1]; unfold placed; rw [List.length_map]
      have hn1' : n1 ≤ 40 := by omega
      clear mS2 kz hb2 row1 hq1
      go_wp2
      go_loopw [9] (fun i wr => ∃ k2 : Nat, k2 ≤ m ∧ i = .int .i64 (k2 : Int) ∧ Below w3.heap.size w3 wr) (fun i _ => m - (intOf i).toNat)
      case atStart => exact ⟨0, by omega, rfl, Below.refl _ _⟩
      case round =>
        obtain ⟨k2, hk2, rfl, hbel⟩ := hrel
        have mSr := MemAt.below mS3 hbel
        by_cases hlt2 : k2 < m
        · obtain ⟨b, off, y, rfl, hy, e0, e1, e2, e3, e4, e5, e6, _⟩ := lms_at ((hmd.below hb3).below hbel) hm.out hlt2
          obtain ⟨⟨yk, yva, yse, yli, yki, yv⟩, yh, yz⟩ := y
          simp only at e0 e1 e2 e3 e4 e5 e6
          have hdk2 : decide (k2 < m) = true := by simpa using hlt2
          have pc := mput_frozen (w := wr.drew) (MemAt.below mSr (Below.refl _ _).drew) ⟨yk, yva, yse, yli, yki, yv⟩ yh
          have hbd : Below w3.heap.size w3 wr.drew := hbel.drew
          have hfol : Try.prog.follows .mixedOrders = true := by kernel_rfl
          replace hpl := Lib.hid hpl
          clear hy mSr hfl hml ok
          go_wp2_with fail
          refine still_tail 11 hfol (by kernel_rfl) ?_
          simp only [List.take_succ_cons, List.take_zero, List.drop_succ_cons, List.drop_zero]
          iterate 11 still_step
          refine wpStill_nil ?_
          go_wp2_with fail
          refine pc.mono ?_
          clear pc
          rintro _ w4 ⟨rfl, b4⟩
          have b34 := hbd.trans (b4.mono hbd.size)
          go_wp2
          go_roundw
          case rel => exact ⟨k2 + 1, by omega, by go_num, b34⟩
          case measure => simp [intOf] <;> omega
        · have hdk2 : decide (k2 < m) = false := by simpa using hlt2
          have hb4 := hb3.trans (hbel.mono hb3.size)
          have r4 := r3.below hbel
          have pf := mfacts_any _ q p g cap Am s.M s.fs s.b true wr mSr (by omega)
          have kF := mfrozen_any mSr
          have kB := mbytes_any mSr
          clear mS3 hb3 hbel r3
          replace hpl := Lib.hid hpl
          go_wp2_with fail
          refine kF.mono ?_
          rintro _ _ ⟨rfl, rfl⟩
          go_wp2_with fail
          refine kB.mono ?_
          rintro _ _ ⟨rfl, rfl⟩
          go_wp2_with fail
          refine pf.mono ?_
          rintro _ w5 ⟨A5, n5, c5, rfl, hn5, row5, b5⟩
          obtain rfl : n5 = n1 := by omega
          have r5 := Rd.of_own row5
          replace r4 := r4.below b5
          have hb5 := hb4.trans (b5.mono hb4.size)
          go_wp2_with fail
          refine (sameFt_yes w5 A5 A1 n5 n5 n5 (placed s.fs s.M) hpl.out (by omega) (by unfold Fs; rw [hpl.out]; exact r5) (by unfold Fs; rw [hpl.out]; exact r4)).mono ?_
          rintro _ w6 ⟨rfl, b6⟩
          have hb6 := hb5.trans (b6.mono hb5.size)
          go_wp2_with fail
          refine (lives_any _).mono ?_
          rintro _ w7 ⟨rfl, b7⟩
          have hb7 := hb6.trans (b7.mono hb6.size)
          go_wp2
          go_ret
          exact ⟨rfl, hb7⟩

/-! ### from the walk to the statement (by tail.py) -/
set_option maxRecDepth 100000 in
theorem lifted (os : Os) (started : os.Started) (H : Type) (enc : TypeId × Value → H) :
    ReturnsInHanded {} Try.checked os 5 .any (Rows.memsFrozenSpec.pre6 enc Try.prog Try.f5 Rows.memsFrozenRow.domain false) (Rows.memsFrozenSpec.post enc Try.prog Try.f5 false true false false) := by
  refine lifted_of (C := Try.checked) (tb := 4) (n := 2) (by kernel_rfl) started (by kernel_rfl) Try.func5 (by kernel_rfl) (by kernel_rfl) rfl (by kernel_rfl) Try.underlying4 (by kernel_rfl)
    (fun ds hd => by match ds, hd with | [d1, d2], _ => exact ⟨rfl, rfl, rfl⟩)
    (ChangeSpec.witness6 (enc := enc) (C := Try.checked) false ⟨#[], #[.slice none 0 0, .slice none 0 0], []⟩ 8 (by kernel_rfl) (by kernel_rfl) (by kernel_rfl) (by kernel_rfl)) ?_
  intro W base args ds before hval hA hsz
  rw [Try.params5] at hA hval hsz
  obtain ⟨v0, vs0, d0, ds0, p0, q0, rfl, rfl, rfl, h0, r0⟩ := trodAll_cons hA
  obtain ⟨v1, vs1, d1, ds1, p1, q1, rfl, rfl, rfl, h1, r1⟩ := trodAll_cons r0
  obtain ⟨rfl, rfl, rfl⟩ := trodAll_nil r1
  obtain ⟨A0, c0, ls0, rfl, hrd0, hlc0, hls0⟩ := open_mlaids (hval 0 _ _ rfl rfl) h0
  obtain ⟨A1, c1, ls1, rfl, hrd1, hlc1, hls1⟩ := open_mlaids (hval 1 _ _ rfl rfl) h1
  exact walk W A0 c0 ls0 hrd0 hls0 A1 c1 ls1 hrd1 hls1

theorem over : Rows.memsFrozenRow.holds Try.pinned (OpenSpec.ofChange Rows.memsFrozenSpec) :=
  OpenClaim.holds_of_wide 5 Try.f5 rfl rfl rfl rfl rfl rfl rfl ⟨rfl, rfl, rfl, rfl, rfl⟩ rfl rfl rfl rfl rfl (by kernel_rfl) Try.func5 (by kernel_rfl)
    (of_decide_eq_true (by kernel_rfl)) (by unfold Func.isWrapper; first | (rw [if_pos (by decide +kernel)]; kernel_rfl) | (rw [if_neg (by decide +kernel)]; exact ⟨rfl, rfl⟩))
    (fun os started H enc _ => lifted os started H enc)

theorem proved : Rows.MemsFrozenSaid := over
end Go.Proofs.Ytdifdbkbpeanhaa.lawMemsFrozen
